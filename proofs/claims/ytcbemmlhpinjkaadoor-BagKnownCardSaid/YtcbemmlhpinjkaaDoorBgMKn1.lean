/- Texts of our own, merged: BgMem BgApp BgSort BgLeaf BgMap BgPut BgKeys BgIsBag BgItems BgPure BgSums BgAdded BgOps BgOpen BgOpen2 BgLess BgTurned BgKeysI BgEdPure BgEdMem BgNum BgOpen3. -/
import Derived.WalkKit
import Derived.Deep.Draws
import Derived.OwnWalk
import Derived.Maps.AppendAt
import Derived.Shelf.GgSortFunc.InsertionK
import Derived.Sort.OwnSorted
import Derived.Shelf.SlSortCmp.Insertion
import Derived.WalkSpells
import Derived.WalkLawsBesides
import Derived.Deep.QuietTactic
import Derived.BigQuiet
import Derived.StillTailTactics
import Derived.Lib.Hide
import Derived.Sort.Grow
import Derived.Test.YtcbemmlhpinjkaaDoorProg
import Derived.Maps.RangeWalk
import Derived.Maps.OwnSet
import Derived.WideKeyEntry
import Derived.RegionTactic
import Derived.DeepKeys4
import Derived.Test.YtcbemmlhpinjkaaDoorBgShelf
import Derived.Deep.Slices
import Derived.Deep.Strs
import Derived.WideShapes
import Derived.SizedLaws
import Derived.StillTactics
import Derived.Deep.RegionHeld3
import Derived.Deep.AppendLies
import Derived.Lib.SmallJoins

section
/- Plain words for the walks over package bag: records and items, what a slice of them reads as, and what becomes of a reading when new memory is laid. No program in sight. -/
namespace Go.Proofs.Bg
open Go.RowKit

theorem ret_bool {a b : Bool} (h : a = b) : Ending.returned (.bool a) = .returned (.bool b) := by rw [h]
theorem ret_int {k : IntKind} {a b : Int} (h : a = b) : Ending.returned (.int k a) = .returned (.int k b) := by rw [h]

/-- A record; an item. -/
structure Rc where
  at_ : Int
  key : Int
  val : Int
deriving DecidableEq
structure It where
  r : Rc
  n : Int
deriving DecidableEq

def Rc.vs (r : Rc) : List Value := [.int .i64 r.at_, .int .i64 r.key, .int .i64 r.val]
def It.vs (x : It) : List Value := [.int .i64 x.r.at_, .int .i64 x.r.key, .int .i64 x.r.val, .int .i64 x.n]
def iv (x : Int) : List Value := [.int .i64 x]
theorem Rc.vs_length (r : Rc) : r.vs.length = 3 := rfl
theorem It.vs_length (x : It) : x.vs.length = 4 := rfl
theorem iv_length (x : Int) : (iv x).length = 1 := rfl

/-- A slice's address A and its length n: the list l lies there, sz cells an element, in a block from lo on. -/
def Rd {α : Type} (enc : α → List Value) (sz : Nat) (w : World) (lo : Nat) (A : Option Addr) (n : Nat) (l : List α) : Prop :=
  l.length = n ∧ n ≤ 9223372036854775807 ∧ (0 < n → ∃ b off, A = some ⟨b, off, none⟩ ∧ lo ≤ b ∧ ∀ i x, l[i]? = some x → ∀ j v, (enc x)[j]? = some v → w.cell? ⟨b, off + i * sz + j, none⟩ = some v)

section
variable {α : Type} {enc : α → List Value} {sz : Nat} {w w' : World} {lo n : Nat} {A : Option Addr} {l : List α}

theorem Rd.len (h : Rd enc sz w lo A n l) : l.length = n := h.1
theorem Rd.le (h : Rd enc sz w lo A n l) : n ≤ 9223372036854775807 := h.2.1
theorem Rd.below (h : Rd enc sz w lo A n l) (hb : Below w.heap.size w w') : Rd enc sz w' lo A n l :=
  ⟨h.1, h.2.1, fun hn => by
    obtain ⟨b, off, e, hl, hc⟩ := h.2.2 hn
    refine ⟨b, off, e, hl, fun i x hx j v hv => ?_⟩
    have h1 := hc i x hx j v hv
    exact (hb.cell (World.block_lt_of_cell? w _ h1)).trans h1⟩
theorem Rd.low {lo' : Nat} (h : Rd enc sz w lo A n l) (hl : lo' ≤ lo) : Rd enc sz w lo' A n l :=
  ⟨h.1, h.2.1, fun hn => by
    obtain ⟨b, off, e, hlo, hc⟩ := h.2.2 hn
    exact ⟨b, off, e, Nat.le_trans hl hlo, hc⟩⟩
theorem Rd.nil (w : World) (lo : Nat) (A : Option Addr) : Rd enc sz w lo A 0 [] := ⟨rfl, by omega, fun h => absurd h (by omega)⟩
theorem Rd.at_ (h : Rd enc sz w lo A n l) {k : Nat} (hk : k < n) : ∃ b off x, A = some ⟨b, off, none⟩ ∧ lo ≤ b ∧ l[k]? = some x ∧ ∀ j v, (enc x)[j]? = some v → w.cell? ⟨b, off + k * sz + j, none⟩ = some v := by
  obtain ⟨b, off, e, hlo, hc⟩ := h.2.2 (by omega)
  have hk' : k < l.length := by rw [h.1]; exact hk
  exact ⟨b, off, l[k], e, hlo, List.getElem?_eq_getElem hk', fun j v hv => hc k _ (List.getElem?_eq_getElem hk') j v hv⟩
end

theorem Rd.it_at {w : World} {lo n : Nat} {A : Option Addr} {l : List It} (h : Rd It.vs 4 w lo A n l) {k : Nat} (hk : k < n) :
    ∃ b off x, A = some ⟨b, off, none⟩ ∧ lo ≤ b ∧ l[k]? = some x ∧ w.cell? ⟨b, off + k * 4, none⟩ = some (.int .i64 x.r.at_) ∧ w.cell? ⟨b, off + k * 4 + 1, none⟩ = some (.int .i64 x.r.key) ∧ w.cell? ⟨b, off + k * 4 + 2, none⟩ = some (.int .i64 x.r.val) ∧ w.cell? ⟨b, off + k * 4 + 3, none⟩ = some (.int .i64 x.n) := by
  obtain ⟨b, off, x, e, hlo, hx, hc⟩ := h.at_ hk
  exact ⟨b, off, x, e, hlo, hx, hc 0 _ rfl, hc 1 _ rfl, hc 2 _ rfl, hc 3 _ rfl⟩
theorem Rd.rc_at {w : World} {lo n : Nat} {A : Option Addr} {l : List Rc} (h : Rd Rc.vs 3 w lo A n l) {k : Nat} (hk : k < n) :
    ∃ b off x, A = some ⟨b, off, none⟩ ∧ lo ≤ b ∧ l[k]? = some x ∧ w.cell? ⟨b, off + k * 3, none⟩ = some (.int .i64 x.at_) ∧ w.cell? ⟨b, off + k * 3 + 1, none⟩ = some (.int .i64 x.key) ∧ w.cell? ⟨b, off + k * 3 + 2, none⟩ = some (.int .i64 x.val) := by
  obtain ⟨b, off, x, e, hlo, hx, hc⟩ := h.at_ hk
  exact ⟨b, off, x, e, hlo, hx, hc 0 _ rfl, hc 1 _ rfl, hc 2 _ rfl⟩
theorem Rd.int_at {w : World} {lo n : Nat} {A : Option Addr} {l : List Int} (h : Rd iv 1 w lo A n l) {k : Nat} (hk : k < n) :
    ∃ b off x, A = some ⟨b, off, none⟩ ∧ lo ≤ b ∧ l[k]? = some x ∧ w.cell? ⟨b, off + k, none⟩ = some (.int .i64 x) := by
  obtain ⟨b, off, x, e, hlo, hx, hc⟩ := h.at_ hk
  exact ⟨b, off, x, e, hlo, hx, by have := hc 0 _ rfl; simpa using this⟩

/-- An element's cells in the row of all cells. -/
theorem flat_at {α : Type} {enc : α → List Value} {sz : Nat} (hs : ∀ x, (enc x).length = sz) : ∀ (l : List α) (i : Nat) (x : α), l[i]? = some x → ∀ j v, (enc x)[j]? = some v → (l.flatMap enc)[i * sz + j]? = some v
  | [], i, x, h, _, _, _ => by simp at h
  | a :: r, 0, x, h, j, v, hv => by
    simp only [List.getElem?_cons_zero, Option.some.injEq] at h
    subst h
    have hj : j < (enc a).length := (List.getElem?_eq_some_iff.1 hv).1
    rw [List.flatMap_cons, List.getElem?_append_left (by omega)]
    simpa using hv
  | a :: r, i + 1, x, h, j, v, hv => by
    simp only [List.getElem?_cons_succ] at h
    have ih := flat_at hs r i x h j v hv
    rw [List.flatMap_cons, List.getElem?_append_right (by rw [hs a]; have := Nat.add_mul i 1 sz; omega), hs a]
    have e : (i + 1) * sz + j - sz = i * sz + j := by have := Nat.add_mul i 1 sz; omega
    rw [e]; exact ih

theorem flat_length {α : Type} {enc : α → List Value} {sz : Nat} (hs : ∀ x, (enc x).length = sz) (l : List α) : (l.flatMap enc).length = l.length * sz := by
  induction l with
  | nil => simp
  | cons a r ih => simp [ih, hs a, Nat.succ_mul]; omega

/-- What the call owns reads as a list. -/
theorem Rd.of_own {α : Type} {enc : α → List Value} {sz : Nat} (hs : ∀ x, (enc x).length = sz) {w : World} {base : Nat} {e : TypeId} {v : Value} {n : Nat} {l : List α} (hl : l.length = n) (h : w.ownsRow base e sz v n (l.flatMap enc)) :
    ∃ A cap, v = .slice A n cap ∧ Rd enc sz w base A n l := by
  obtain ⟨hlen, h⟩ := h
  rcases h with ⟨rfl, h0⟩ | ⟨g, cap, cur, rfl, hb, hh, h1, h2, h3, h4⟩
  · subst h0
    obtain rfl := List.eq_nil_of_length_eq_zero hl
    exact ⟨none, 0, rfl, Rd.nil _ _ _⟩
  · refine ⟨_, cap, rfl, hl, by unfold maxLen at h2; omega, fun _ => ⟨g, 0, rfl, hb, fun i x hx j u hu => ?_⟩⟩
    have hfl := flat_at hs l i x hx j u hu
    have hown : w.ownsRow base e sz (.slice (some ⟨g, 0, none⟩) n cap) n (l.flatMap enc) := ⟨hlen, .inr ⟨g, cap, cur, rfl, hb, hh, h1, h2, h3, h4⟩⟩
    have hc := hown.cellAt (i * sz + j) (by rw [← hlen]; exact (List.getElem?_eq_some_iff.1 hfl).1)
    rw [hfl] at hc
    simpa using hc

/-- Old cells, old marks: as they were. -/
theorem bcell {W w1 : World} (hb : Below W.heap.size W w1) : (∀ b o, b < W.heap.size → w1.cell? ⟨b, o, none⟩ = W.cell? ⟨b, o, none⟩) ∧ (∀ b o, b < W.heap.size → w1.frozen? ⟨b, o, none⟩ = W.frozen? ⟨b, o, none⟩) :=
  ⟨fun b o h => hb.cell (p := ⟨b, o, none⟩) h, fun b o h => hb.frozen (p := ⟨b, o, none⟩) h⟩

/-- A cell from before a new block, and behind what was done after it. -/
theorem keep_cell {wr w1 : World} {o : Obj} (hb : Below (wr.alloc o).heap.size (wr.alloc o) w1) {b off : Nat} {v : Value} (h : wr.cell? ⟨b, off, none⟩ = some v) : w1.cell? ⟨b, off, none⟩ = some v := by
  have hlt := World.block_lt_of_cell? wr _ h
  have e1 : w1.heap[b]? = (wr.alloc o).heap[b]? := hb.block b (by simp at hlt ⊢; omega)
  have e2 : (wr.alloc o).heap[b]? = wr.heap[b]? := Below.heap_alloc wr o b hlt
  rw [← h]
  exact World.cell?_of_block (e1.trans e2)
theorem keep_new {wr w1 : World} {c : Array Value} {T : TypeId} (hb : Below (wr.alloc (.cells c T)).heap.size (wr.alloc (.cells c T)) w1) : w1.heap[wr.heap.size]? = some (.cells c T) := by
  rw [hb.block _ (by simp)]
  show (wr.heap.push _)[wr.heap.size]? = _
  simp
theorem cell_at_block {w : World} {b off : Nat} {c : Array Value} {T : TypeId} {v : Value} (h : w.heap[b]? = some (.cells c T)) (hv : c[off]? = some v) : w.cell? ⟨b, off, none⟩ = some v := by
  simp [World.cell?, h, hv]
theorem free_at_block {w : World} {b off : Nat} {c : Array Value} {T : TypeId} (h : w.heap[b]? = some (.cells c T)) : w.frozen? ⟨b, off, none⟩ = false := by
  simp [World.frozen?, h]
theorem box4 {wr w1 : World} {v0 v1 v2 v3 : Value} {T : TypeId} (hb : Below (wr.alloc (.cells #[v0, v1, v2, v3] T)).heap.size (wr.alloc (.cells #[v0, v1, v2, v3] T)) w1) :
    w1.cell? ⟨wr.heap.size, 0, none⟩ = some v0 ∧ w1.cell? ⟨wr.heap.size, 1, none⟩ = some v1 ∧ w1.cell? ⟨wr.heap.size, 2, none⟩ = some v2 ∧ w1.cell? ⟨wr.heap.size, 3, none⟩ = some v3 :=
  ⟨cell_at_block (keep_new hb) rfl, cell_at_block (keep_new hb) rfl, cell_at_block (keep_new hb) rfl, cell_at_block (keep_new hb) rfl⟩
/-- A new block, and behind what was done after it: below the old heap nothing has turned. -/
theorem below_box {B : Nat} {w wr w1 : World} {o : Obj} (h : Below B w wr) (hB : B ≤ wr.heap.size) (hb : Below (wr.alloc o).heap.size (wr.alloc o) w1) : Below B w w1 :=
  (h.alloc hB _).trans (hb.mono (by simp; omega))
theorem _root_.Go.World.grownBy.then_ {a b' c : World} {row : Option Nat} (h : a.grownBy b' row) (k : b'.grownBy c row) (_h : ∀ j : Nat, row = some j → a.heap.size ≤ j ∨ row = some j) : a.grownBy c row :=
  ⟨k.os.trans h.os, k.tape.trans h.tape, k.output.trans h.output, Nat.le_trans h.size k.size, fun i hi hne => (k.block i (Nat.lt_of_lt_of_le hi h.size) hne).trans (h.block i hi hne)⟩
theorem setCell_at {w : World} {g off : Nat} {c : Array Value} {T : TypeId} (h : w.heap[g]? = some (.cells c T)) (v : Value) : (w.setCell ⟨g, off, none⟩ v).heap[g]? = some (.cells (c.setIfInBounds off v) T) ∧ w.grownBy (w.setCell ⟨g, off, none⟩ v) (some g) := by
  refine ⟨by simp [World.setCell, Array.getElem?_modify, h], rfl, rfl, rfl, by simp [World.setCell], fun i _ hi => ?_⟩
  have : g ≠ i := fun e => hi (by rw [e])
  simp [World.setCell, Array.getElem?_modify, this]
theorem set3 {w : World} {g : Nat} {a0 b0 c0 : Value} {T : TypeId} (h : w.heap[g]? = some (.cells #[a0, b0, c0] T)) (a b c : Value) :
    (((w.setCell ⟨g, 0, none⟩ a).setCell ⟨g, 1, none⟩ b).setCell ⟨g, 2, none⟩ c).heap[g]? = some (.cells #[a, b, c] T) ∧ w.grownBy (((w.setCell ⟨g, 0, none⟩ a).setCell ⟨g, 1, none⟩ b).setCell ⟨g, 2, none⟩ c) (some g) := by
  obtain ⟨h1, g1⟩ := setCell_at (off := 0) h a
  obtain ⟨h2, g2⟩ := setCell_at (off := 1) h1 b
  obtain ⟨h3, g3⟩ := setCell_at (off := 2) h2 c
  exact ⟨h3, (g1.then_ g2 (fun j e => .inr e)).then_ g3 (fun j e => .inr e)⟩

theorem _root_.Go.RowKit.Below.drew_left {B : Nat} {w W : World} (h : Below B w.drew W) : Below B w W := ⟨h.os, h.tape, h.output, h.size, h.block⟩
theorem below_drewN {B : Nat} {w W : World} (h : Below B w W) (n : Nat) : Below B w (W.drewN n) := ⟨h.os, h.tape, h.output, h.size, h.block⟩

end Go.Proofs.Bg
end

section
/- Plain words: a slice that the call itself fills, as a list; append of one element. No program in sight. -/
namespace Go.Proofs.Bg
open Go.RowKit

/-- v is a slice of the call's own (in a block from base on) that holds the list l. -/
def Own {α : Type} (enc : α → List Value) (sz : Nat) (e : TypeId) (base : Nat) (w : World) (v : Value) (l : List α) : Prop := w.ownsRow base e sz v l.length (l.flatMap enc)

section
variable {α : Type} {enc : α → List Value} {sz : Nat} {e : TypeId} {base : Nat} {w w' : World} {v : Value} {l : List α}
theorem Own.nil (enc : α → List Value) (sz : Nat) (e : TypeId) (base : Nat) (w : World) : Own enc sz e base w (.slice none 0 0) [] := World.ownsRow_nil w base e sz
theorem Own.alloc (h : Own enc sz e base w v l) (o : Obj) : Own enc sz e base (w.alloc o) v l := World.ownsRow.alloc h o
theorem Own.drew (h : Own enc sz e base w v l) : Own enc sz e base w.drew v l := h
theorem Own.grown {row : Option Nat} (h : Own enc sz e base w v l) (hg : w.grownBy w' row) (hne : v.ownBlock = none ∨ v.ownBlock ≠ row) : Own enc sz e base w' v l := World.ownsRow.kept h hg hne
theorem Own.below (h : Own enc sz e base w v l) (hb : Below w.heap.size w w') : Own enc sz e base w' v l :=
  World.ownsRow.kept (row := none) h ⟨hb.os, hb.tape, hb.output, hb.size, fun i hi _ => hb.block i hi⟩ (by cases v.ownBlock <;> simp)
theorem Own.rd (hs : ∀ x, (enc x).length = sz) (h : Own enc sz e base w v l) : ∃ A cap, v = .slice A l.length cap ∧ Rd enc sz w base A l.length l := Rd.of_own hs rfl h
theorem Own.blk (h : Own enc sz e base w v l) : ∀ k, v.ownBlock = some k → base ≤ k ∧ k < w.heap.size := World.ownsRow.lt h
theorem Own.shape (h : Own enc sz e base w v l) : ∃ A cap, v = .slice A l.length cap := by
  rcases h.2 with ⟨rfl, h0⟩ | ⟨g, cap, cur, rfl, _⟩
  · exact ⟨none, 0, by rw [h0]⟩
  · exact ⟨_, cap, rfl⟩
end

theorem newCells (W : World) (c : Array Value) (T : TypeId) : ∀ j u, c.toList[j]? = some u → (W.alloc (.cells c T)).cell? ((⟨W.heap.size, 0, none⟩ : Addr).add j) = some u := fun j u h => by
  have e : (⟨W.heap.size, 0, none⟩ : Addr).add j = ⟨W.heap.size, j, none⟩ := by unfold Addr.add; split <;> simp_all
  rw [e]
  have hb : (W.alloc (.cells c T)).heap[W.heap.size]? = some (.cells c T) := by
    show (W.heap.push _)[W.heap.size]? = _
    simp
  exact cell_at_block hb (by simpa using h)

/-- The same, the block's number spelled as the walk has it. -/
theorem newAt (W : World) (xs : List Value) (T : TypeId) (b : Nat) (hb : b = W.heap.size) : ∀ j u, xs[j]? = some u → (W.alloc (.cells xs.toArray T)).cell? ((⟨b, 0, none⟩ : Addr).add j) = some u := by
  subst hb
  exact newCells W xs.toArray T

/-- The same, the new block some draws ago. -/
theorem newCells_drew (W : World) (c : Array Value) (T : TypeId) : ∀ j u, c.toList[j]? = some u → (W.alloc (.cells c T)).drew.cell? ((⟨W.heap.size, 0, none⟩ : Addr).add j) = some u := newCells W c T

def lenOf : Value → Nat | .slice _ n _ => n | _ => 0

/-- 'append(s, x)', x in a new block. -/
theorem wpList_app1 {α : Type} {P : Program} {w : World} {ops : Array Oper} {rest : List Oper} {o : Oper} {a : Act} {Q : Exit → Act → World → Prop} (enc : α → List Value) (sz : Nat) (e : TypeId) (z : Value) (bytes : Nat) (hinf : (P.info? e).map (fun i => (i.zero, i.size, i.bytes)) = some (some z, sz, bytes)) (hzs : z.cells.size = sz) (hsz : 0 < sz)
    (hgd : o.guard = none) (s x : Operand) (t : TypeId) (ho : o.op = .call { callee := .builtin .append, args := #[s, x], argTypes := #[t, t] }) (ht : P.underlying t = some (.slice e)) (base : Nat) (v : Value) (l : List α) (hs : a.eval s = v) (hown : Own enc sz e base w v l)
    (y : α) (ad : Addr) (c : Nat) (hx : a.eval x = .slice (some ad) 1 c) (hl : (enc y).length = sz) (hnews : ∀ j u, (enc y)[j]? = some u → w.cell? (ad.add j) = some u) (h1 : ∀ u ∈ enc y, u.oneCell' = true)
    (hbytes : (l.length + 1) * bytes ≤ 140737488355328) (h63 : l.length + 1 ≤ maxLen) (hbase : base ≤ w.heap.size)
    (h : ∀ v' w', Own enc sz e base w' v' (l ++ [y]) → w.grownBy w' v.ownBlock → (v'.ownBlock = v.ownBlock ∨ v'.ownBlock = some w.heap.size) → wpList P ops Q rest (a.put o.dst v') w') : wpList P ops Q (o :: rest) a w := by
  obtain ⟨i, hi, hz0, hz1, hz2⟩ := info_parts hinf
  refine wpList_append_own_at w hgd s x t ho base e i z sz bytes ht hi hz0 hz1 hz2 hzs hsz v l.length (l.flatMap enc) hs hown ad 1 c (enc y) hx (by rw [hl]; omega) hnews h1 h63 hbytes hbase fun v' w' h2 h3 _ h5 => h v' w' ?_ h3 h5
  unfold Own
  rw [List.length_append, List.flatMap_append]
  simpa using h2

end Go.Proofs.Bg
end

section
/- Plain words: what stands behind a sort; the order of records is a strict one. No program in sight. -/
namespace Go.Proofs.Bg
open Go.RowKit
open Go.Sort (grow putRow mapBlock flatK HoldsK Holds putRowK SWO PermIn SortedIn get_flatK size_flatK heap_grow_old)

theorem grownBy_row {α : Type} [Inhabited α] (enc : α → Value) {w : World} {g n : Nat} {os : Array Obj} (d : Array α) : w.grownBy (grow (putRow enc (Sort.ahead w n) g 0 d) os) (some g) := by
  refine ⟨rfl, rfl, rfl, by simp, fun k hk hne => ?_⟩
  rw [heap_grow_old _ _ (by simpa using hk)]
  have : g ≠ k := fun e => hne (by rw [e])
  simp [putRow, mapBlock, Sort.ahead, Array.getElem?_modify, this]

theorem holdsK_of_own {α : Type} [Inhabited α] {enc : α → List Value} {sz : Nat} (h0 : 0 < sz) (hs : ∀ x, (enc x).length = sz) {w : World} {base g cap : Nat} {e : TypeId} {l : List α} (h : Own enc sz e base w (.slice (some ⟨g, 0, none⟩) l.length cap) l) : HoldsK enc sz w g 0 l.toArray := by
  intro j hj
  rw [size_flatK] at hj
  have hj' : j < l.length * sz := by simpa using hj
  have hd : j / sz < l.length := (Nat.div_lt_iff_lt_mul h0).2 hj'
  have hm : j % sz < sz := Nat.mod_lt _ h0
  have hjj : j / sz * sz + j % sz = j := by rw [Nat.mul_comm]; exact Nat.div_add_mod j sz
  have hx : l[j / sz]? = some l[j / sz] := List.getElem?_eq_getElem hd
  have hm' : j % sz < (enc l[j / sz]).length := by rw [hs]; exact hm
  have hv : (enc l[j / sz])[j % sz]? = some ((enc l[j / sz])[j % sz]'hm') := List.getElem?_eq_getElem hm'
  have hf := flat_at hs l _ _ hx _ _ hv
  rw [hjj] at hf
  have hc := World.ownsRow.cellAt h j (by rw [← flat_length hs l]; exact (List.getElem?_eq_some_iff.1 hf).1)
  refine ⟨?_, by rw [Nat.zero_add]; exact World.ownsRow.frozenAt h j⟩
  rw [Nat.zero_add, hc, hf, id_eq, get_flatK _ _ _ _ (by simpa using hj')]
  have e1 : l.toArray[j / sz]! = l[j / sz] := by simp [hd]
  rw [e1, getElem!_pos (enc l[j / sz]) (j % sz) hm']

theorem rd_of_holdsK {α : Type} [Inhabited α] {enc : α → List Value} {sz : Nat} (hs : ∀ x, (enc x).length = sz) {w : World} {base g : Nat} {l : List α} (h : HoldsK enc sz w g 0 l.toArray) (hb : base ≤ g) (hl : l.length ≤ 9223372036854775807) : Rd enc sz w base (some ⟨g, 0, none⟩) l.length l := by
  refine ⟨rfl, hl, fun _ => ⟨g, 0, rfl, hb, fun i x hx j v hv => ?_⟩⟩
  have hi : i < l.length := (List.getElem?_eq_some_iff.1 hx).1
  have hj : j < sz := by rw [← hs x]; exact (List.getElem?_eq_some_iff.1 hv).1
  have hc := (h.cell (i := i) (c := j) (by simpa using hi) hj).1
  have e1 : l.toArray[i]! = x := by
    have := (List.getElem?_eq_some_iff.1 hx).2
    simp [hi, this]
  rw [e1] at hc
  rw [hc]
  have := (List.getElem?_eq_some_iff.1 hv)
  obtain ⟨h1, h2⟩ := this
  simp [h1, h2]

/-! ### the order of records -/
def cmpI (a b : Int) : Int := if a < b then -1 else if b < a then 1 else 0
/-- The first of three numbers that is not 0. -/
def or3 (a b c : Int) : Int := if a = 0 then if b = 0 then c else b else a
/-- The order of records. -/
def rcmp (x y : Rc) : Int := or3 (cmpI x.at_ y.at_) (cmpI x.key y.key) (cmpI x.val y.val)

theorem rcmp_neg (x y : Rc) : rcmp x y < 0 ↔ x.at_ < y.at_ ∨ (x.at_ = y.at_ ∧ (x.key < y.key ∨ (x.key = y.key ∧ x.val < y.val))) := by
  unfold rcmp or3 cmpI
  repeat' split
  all_goals omega
theorem rcmp_zero (x y : Rc) : rcmp x y = 0 ↔ x = y := by
  have : x = y ↔ x.at_ = y.at_ ∧ x.key = y.key ∧ x.val = y.val := by cases x; cases y; simp
  rw [this]
  unfold rcmp or3 cmpI
  repeat' split
  all_goals omega
theorem rcmp_swo : SWO (ltOf rcmp) where
  irrefl x := by unfold ltOf; rw [decide_eq_false_iff_not, rcmp_neg]; omega
  trans x y z h1 h2 := by
    unfold ltOf at *
    rw [decide_eq_true_iff, rcmp_neg] at *
    omega
  ntrans x y z h1 h2 := by
    unfold ltOf at *
    rw [decide_eq_false_iff_not, rcmp_neg] at *
    omega

/-- Sorted, and each once. -/
def Incr (l : List Rc) : Prop := l.Pairwise (fun x y => rcmp x y < 0)
instance : Inhabited Rc := ⟨⟨0, 0, 0⟩⟩
theorem incr_of_sorted {d d' : Array Rc} (hp : PermIn 0 d.size d d') (hs : SortedIn (ltOf rcmp) 0 d.size d') (hn : d.toList.Nodup) : Incr d'.toList ∧ d'.toList.Perm d.toList := by
  obtain ⟨h1, _, h3⟩ := hp
  have hp' : d'.toList.Perm d.toList := by
    have e1 : d'.extract 0 d.size = d' := by rw [← h1]; simp
    have e2 : d.extract 0 d.size = d := by simp
    rw [e1, e2] at h3
    exact h3
  refine ⟨List.pairwise_iff_getElem.2 fun i j hi hj hij => ?_, hp'⟩
  have hi' : i < d'.size := by simpa using hi
  have hj' : j < d'.size := by simpa using hj
  have h := hs i j (Nat.zero_le _) hij (by omega)
  rw [getElem!_pos d' j hj', getElem!_pos d' i hi'] at h
  have hne : d'[i] ≠ d'[j] := by
    intro e
    have hnn := (hp'.nodup_iff).2 hn
    have := (List.getElem_inj hnn (h₀ := hi) (h₁ := hj)).1 (by simpa using e)
    omega
  unfold ltOf at h
  rw [decide_eq_false_iff_not, rcmp_neg] at h
  have hz := mt (rcmp_zero d'[i] d'[j]).1 hne
  have hx : rcmp d'[i] d'[j] < 0 := by
    rw [rcmp_neg]
    have : ¬ (d'[i].at_ = d'[j].at_ ∧ d'[i].key = d'[j].key ∧ d'[i].val = d'[j].val) := by
      intro hc
      apply hne
      cases hu : d'[i]; cases hv : d'[j]
      rw [hu, hv] at hc
      simp at hc
      simp [hc]
    omega
  simpa using hx

end Go.Proofs.Bg
end

section
/- Contracts of the small functions of package bag: within, cmp.Compare, cmp.Or, the order of records, isRec, isBag. -/
namespace Go.Proofs.Bg
open Go.RowKit Go.Sort

def withinB (a b c : Int) : Bool := decide (b ≤ a) && decide (a ≤ c)
theorem within_any (a b c : Int) (w : World) : Calls Tryd.prog 61 #[.int .i64 a, .int .i64 b, .int .i64 c] w fun e w' => e = .returned (.bool (withinB a b c)) ∧ w = w' := by
  go_enter Tryd.func61, Tryd.ntmps61
  go_wp2
  all_goals
    go_ret
    exact ⟨ret_bool (by simp [withinB]; try omega), rfl⟩

theorem cmpCompare_any (a b : Int) (w : World) : Calls Tryd.prog 45 #[.int .i64 a, .int .i64 b] w fun e w' => e = .returned (.int .i64 (cmpI a b)) ∧ w = w' := by
  rcases Int.lt_trichotomy a b with h | h | h
  · go_enter Tryd.func45, Tryd.ntmps45
    go_wp2
    go_ret
    exact ⟨ret_int (by rw [cmpI, if_pos h]), rfl⟩
  · subst h
    go_enter Tryd.func45, Tryd.ntmps45
    go_wp2
    go_ret
    exact ⟨ret_int (by simp [cmpI]), rfl⟩
  · have h' : ¬ a < b := by omega
    go_enter Tryd.func45, Tryd.ntmps45
    go_wp2
    go_ret
    exact ⟨ret_int (by rw [cmpI, if_neg (by omega), if_pos h]), rfl⟩


theorem cmpOr_any (g cap : Nat) (a b c : Int) (w : World) (h0 : w.cell? ⟨g, 0, none⟩ = some (.int .i64 a)) (h1 : w.cell? ⟨g, 1, none⟩ = some (.int .i64 b)) (h2 : w.cell? ⟨g, 2, none⟩ = some (.int .i64 c)) :
    Calls Tryd.prog 75 #[.slice (some ⟨g, 0, none⟩) 3 cap] w fun e w' => e = .returned (.int .i64 (or3 a b c)) ∧ w = w' := by
  go_enter Tryd.func75, Tryd.ntmps75
  go_wp2_with fail
  go_loop [8] (fun i => ∃ k : Nat, k ≤ 3 ∧ i = .int .i64 k ∧ (0 < k → a = 0) ∧ (1 < k → b = 0) ∧ (2 < k → c = 0)) (fun i => 3 - (intOf i).toNat)
  case atStart => exact ⟨0, by omega, rfl, by omega, by omega, by omega⟩
  case round =>
    obtain ⟨k, hk, rfl, ha, hb, hc⟩ := hrel
    rcases (by omega : k = 0 ∨ k = 1 ∨ k = 2 ∨ k = 3) with rfl | rfl | rfl | rfl
    · by_cases h : a = 0
      · have hx : (a != 0) = false := by rw [h]; rfl
        clear ha hb hc
        have H := Lib.hid h
        clear h
        go_wp2
        exact ⟨⟨1, by omega, rfl, fun _ => H.out, fun h => absurd h (by omega), fun h => absurd h (by omega)⟩, by simp [intOf]⟩
      · have hx : (a != 0) = true := by simp [h]
        clear ha hb hc
        have H := Lib.hid h
        clear h
        go_wp2
        go_ret
        exact ⟨ret_int (by have := H.out; simp [or3, this]), rfl⟩
    · have ea : a = 0 := ha (by omega)
      by_cases h : b = 0
      · have hx : (b != 0) = false := by rw [h]; rfl
        clear ha hb hc
        have H := Lib.hid h
        clear h
        have Ea := Lib.hid ea
        clear ea
        go_wp2
        exact ⟨⟨2, by omega, rfl, fun _ => Ea.out, fun _ => H.out, fun h => absurd h (by omega)⟩, by simp [intOf]⟩
      · have hx : (b != 0) = true := by simp [h]
        clear ha hb hc
        have H := Lib.hid h
        clear h
        have Ea := Lib.hid ea
        clear ea
        go_wp2
        go_ret
        exact ⟨ret_int (by have := H.out; simp [or3, Ea.out,  this]), rfl⟩
    · have ea : a = 0 := ha (by omega)
      have eb : b = 0 := hb (by omega)
      by_cases h : c = 0
      · have hx : (c != 0) = false := by rw [h]; rfl
        clear ha hb hc
        have H := Lib.hid h
        clear h
        have Ea := Lib.hid ea
        clear ea
        have Eb := Lib.hid eb
        clear eb
        go_wp2
        exact ⟨⟨3, by omega, rfl, fun _ => Ea.out, fun _ => Eb.out, fun _ => H.out⟩, by simp [intOf]⟩
      · have hx : (c != 0) = true := by simp [h]
        clear ha hb hc
        have H := Lib.hid h
        clear h
        have Ea := Lib.hid ea
        clear ea
        have Eb := Lib.hid eb
        clear eb
        go_wp2
        go_ret
        exact ⟨ret_int (by simp [or3, Ea.out, Eb.out]), rfl⟩
    · have ea : a = 0 := ha (by omega)
      have eb : b = 0 := hb (by omega)
      have ec : c = 0 := hc (by omega)
      clear ha hb hc
      have Ea := Lib.hid ea
      have Eb := Lib.hid eb
      have Ec := Lib.hid ec
      clear ea eb ec
      go_wp2
      go_ret
      exact ⟨ret_int (by simp [or3, Ea.out, Eb.out, Ec.out]), rfl⟩


set_option maxRecDepth 100000 in
set_option maxHeartbeats 400000 in
theorem compare_any (x y : Rc) (w : World) :
    Calls Tryd.prog 63 #[.agg #[.int .i64 x.at_, .int .i64 x.key, .int .i64 x.val], .agg #[.int .i64 y.at_, .int .i64 y.key, .int .i64 y.val]] w fun e w' => e = .returned (.int .i64 (rcmp x y)) ∧ ∃ q os, w' = grow (w.drewN q) os := by
  have hc : ∀ (a b : Int) (w : World), Calls Tryd.prog 45 #[.int .i64 a, .int .i64 b] w fun e w' => e = .returned (.int .i64 (cmpI a b)) ∧ w' = w := fun a b w => (cmpCompare_any a b w).mono fun _ _ h => ⟨h.1, h.2.symm⟩
  have HC := Lib.hid hc
  clear hc
  go_enter Tryd.func63, Tryd.ntmps63
  go_wp2_with fail
  refine wp_region_still_tail 15 (by kernel_rfl) (by kernel_rfl) ?_
  simp only [List.take_succ_cons, List.take_zero, List.drop_succ_cons, List.drop_zero]
  change wpStill _ _ (World.drew _) _ _ _
  repeat (first | (still_call (HC.out _ _ _)) | still_step)
  refine wpStill_nil ?_
  change wpList _ _ _ _ _ (World.drew ((w.alloc _).alloc _))
  go_wp2_with fail
  refine (cmpOr_any _ _ (cmpI x.at_ y.at_) (cmpI x.key y.key) (cmpI x.val y.val) _ (by go_simp) (by go_simp) (by go_simp)).mono ?_
  rintro e w' ⟨rfl, rfl⟩
  go_wp2
  go_ret
  exact ⟨rfl, 1, _, by rw [alloc_eq_grow, alloc_eq_grow, alloc_eq_grow, grow_grow, grow_grow]; rfl⟩

theorem grow_below (w : World) (q : Nat) (os : Array Obj) : Below w.heap.size w (grow (w.drewN q) os) := by
  have h : ∀ q, (w.drewN q).heap = w.heap ∧ (w.drewN q).os = w.os ∧ (w.drewN q).tape = w.tape ∧ (w.drewN q).output = w.output := fun q => ⟨rfl, rfl, rfl, rfl⟩
  obtain ⟨h1, h2, h3, h4⟩ := h q
  refine ⟨h2, h3, h4, by simp [grow], fun k hk => ?_⟩
  show ((w.drewN q).heap ++ os)[k]? = w.heap[k]?
  rw [h1, Array.getElem?_append_left hk]

theorem compare_below (x y : Rc) (w : World) :
    Calls Tryd.prog 63 #[.agg #[.int .i64 x.at_, .int .i64 x.key, .int .i64 x.val], .agg #[.int .i64 y.at_, .int .i64 y.key, .int .i64 y.val]] w fun e w' => e = .returned (.int .i64 (rcmp x y)) ∧ Below w.heap.size w w' :=
  (compare_any x y w).mono fun _ _ ⟨he, q, os, hw⟩ => ⟨he, by rw [hw]; exact grow_below w q os⟩

/-- A record, an item as they must be. -/
def recB (r : Rc) : Bool := withinB r.at_ 0 200 && (withinB r.key (-1000000000) 1000000000 && withinB r.val (-1000000000) 1000000000)

theorem isRec_any (r : Rc) (w : World) : Calls Tryd.prog 62 #[.agg #[.int .i64 r.at_, .int .i64 r.key, .int .i64 r.val]] w fun e w' => e = .returned (.bool (recB r)) ∧ Below w.heap.size w w' := by
  have h1 := within_any
  have H1 := Lib.hid h1
  clear h1
  cases e1 : withinB r.at_ 0 200 <;> cases e2 : withinB r.key (-1000000000) 1000000000 <;> cases e3 : withinB r.val (-1000000000) 1000000000
  all_goals
    have E1 := Lib.hid e1
    have E2 := Lib.hid e2
    have E3 := Lib.hid e3
    clear e1 e2 e3
    go_enter Tryd.func62, Tryd.ntmps62
    go_wp2_with (go_at_call 61; refine (H1.out _ _ _ _).mono ?_; rintro e w' ⟨rfl, rfl⟩; first | rw [E1.out] | rw [E2.out] | rw [E3.out])
    go_ret
    exact ⟨ret_bool (by simp [recB, E1.out, E2.out, E3.out]), (Below.refl _ _).alloc (Nat.le_refl _) _⟩
end Go.Proofs.Bg
end

section
/- Plain words: a map that a walk reads and writes, as the list of its entries in the order in which they came in. No program in sight. -/
namespace Go.Proofs.Bg
open Go.RowKit
open Go.ChangeMaps (setBlock heap_setBlock_same heap_setBlock_other)
open Go.Maps (Keyed)
open Go.ChangeMaps (modify_eq_set)

section kv
variable {K V : Type} [DecidableEq K]
def getKV : List (K × V) → K → Option V
  | [], _ => none
  | p :: r, k => if p.1 = k then some p.2 else getKV r k
def putKV : List (K × V) → K → V → List (K × V)
  | [], k, v => [(k, v)]
  | p :: r, k, v => if p.1 = k then (k, v) :: r else p :: putKV r k v

theorem getKV_not : ∀ {kv : List (K × V)} {k : K}, k ∉ kv.map Prod.fst → getKV kv k = none
  | [], _, _ => rfl
  | p :: r, k, h => by
    simp only [List.map_cons, List.mem_cons, not_or] at h
    rw [getKV, if_neg (fun e => h.1 e.symm), getKV_not h.2]
theorem putKV_not : ∀ {kv : List (K × V)} {k : K} (v : V), k ∉ kv.map Prod.fst → putKV kv k v = kv ++ [(k, v)]
  | [], _, _, _ => rfl
  | p :: r, k, v, h => by
    simp only [List.map_cons, List.mem_cons, not_or] at h
    rw [putKV, if_neg (fun e => h.1 e.symm), putKV_not v h.2, List.cons_append]
theorem getKV_at : ∀ {kv : List (K × V)} {j : Nat} {p : K × V}, (kv.map Prod.fst).Nodup → kv[j]? = some p → getKV kv p.1 = some p.2
  | [], j, p, _, h => by simp at h
  | q :: r, 0, p, _, h => by
    simp only [List.getElem?_cons_zero, Option.some.injEq] at h
    subst h
    simp [getKV]
  | q :: r, j + 1, p, hn, h => by
    simp only [List.getElem?_cons_succ] at h
    simp only [List.map_cons, List.nodup_cons] at hn
    have hm : p.1 ∈ r.map Prod.fst := List.mem_map.2 ⟨p, List.mem_of_getElem? h, rfl⟩
    rw [getKV, if_neg (fun e => hn.1 (by rw [e]; exact hm)), getKV_at hn.2 h]
theorem putKV_at : ∀ {kv : List (K × V)} {j : Nat} {p : K × V} (v : V), (kv.map Prod.fst).Nodup → kv[j]? = some p → putKV kv p.1 v = kv.set j (p.1, v)
  | [], j, p, _, _, h => by simp at h
  | q :: r, 0, p, v, _, h => by
    simp only [List.getElem?_cons_zero, Option.some.injEq] at h
    subst h
    simp [putKV]
  | q :: r, j + 1, p, v, hn, h => by
    simp only [List.getElem?_cons_succ] at h
    simp only [List.map_cons, List.nodup_cons] at hn
    have hm : p.1 ∈ r.map Prod.fst := List.mem_map.2 ⟨p, List.mem_of_getElem? h, rfl⟩
    rw [putKV, if_neg (fun e => hn.1 (by rw [e]; exact hm)), putKV_at v hn.2 h, List.set_cons_succ]
theorem keys_putKV (kv : List (K × V)) (k : K) (v : V) : (putKV kv k v).map Prod.fst = if k ∈ kv.map Prod.fst then kv.map Prod.fst else kv.map Prod.fst ++ [k] := by
  induction kv with
  | nil => simp [putKV]
  | cons p r ih =>
    by_cases h : p.1 = k
    · simp [putKV, h]
    · have h' : ¬ k = p.1 := fun e => h e.symm
      by_cases hm : k ∈ r.map Prod.fst
      · rw [putKV, if_neg h, List.map_cons, ih, if_pos hm, if_pos (by simp only [List.map_cons, List.mem_cons]; exact .inr hm), List.map_cons]
      · rw [putKV, if_neg h, List.map_cons, ih, if_neg hm, if_neg (by simp only [List.map_cons, List.mem_cons, not_or]; exact ⟨h', hm⟩), List.map_cons, List.cons_append]
theorem nodup_putKV {kv : List (K × V)} (h : (kv.map Prod.fst).Nodup) (k : K) (v : V) : ((putKV kv k v).map Prod.fst).Nodup := by
  rw [keys_putKV]
  split
  · exact h
  · rename_i hk
    exact List.nodup_append.2 ⟨h, by simp, fun a ha b hb e => by simp at hb; subst hb; subst e; exact hk ha⟩
theorem getKV_put (kv : List (K × V)) (k k' : K) (v : V) : getKV (putKV kv k v) k' = if k = k' then some v else getKV kv k' := by
  induction kv with
  | nil => simp [putKV, getKV]
  | cons p r ih =>
    by_cases h : p.1 = k
    · subst h
      by_cases h2 : p.1 = k' <;> simp [putKV, getKV, h2]
    · rw [putKV, if_neg h, getKV, ih, getKV]
      by_cases h2 : p.1 = k'
      · rw [if_pos h2, if_pos h2, if_neg (fun e => h (h2.trans e.symm))]
      · rw [if_neg h2, if_neg h2]
theorem mem_of_getKV : ∀ {kv : List (K × V)} {k : K} {v : V}, getKV kv k = some v → (k, v) ∈ kv
  | [], _, _, h => by simp [getKV] at h
  | p :: r, k, v, h => by
    rw [getKV] at h
    split at h
    · rename_i e
      cases h
      rw [← e]
      exact List.mem_cons_self
    · exact List.mem_cons_of_mem _ (mem_of_getKV h)
theorem getKV_of_mem {kv : List (K × V)} (hn : (kv.map Prod.fst).Nodup) {k : K} {v : V} (h : (k, v) ∈ kv) : getKV kv k = some v := by
  obtain ⟨j, hj⟩ := List.mem_iff_getElem?.1 h
  exact getKV_at (p := (k, v)) hn hj
theorem length_putKV (kv : List (K × V)) (k : K) (v : V) : (putKV kv k v).length ≤ kv.length + 1 := by
  induction kv with
  | nil => simp [putKV]
  | cons p r ih => rw [putKV]; split <;> simp; omega
end kv

section
variable {K V : Type}

/-- Block r of w is a map with these entries, in this order. -/
def MapIs (P : Program) (k : TypeId) (ek : K → Value) (ev : V → Value) (w : World) (r : Nat) (kv : List (K × V)) : Prop :=
  (kv.map Prod.fst).Nodup ∧ ∃ es clock, w.heap[r]? = some (.map es clock) ∧ (∀ x ∈ es.toList, x.born < clock) ∧ (es.toList.map (·.born)).Nodup ∧ (∀ x ∈ es.toList, ∃ l, keyOf P k x.key = some l) ∧ es.toList.map (fun x => (x.key, x.val)) = kv.map (fun p => (ek p.1, ev p.2))

variable {P : Program} {k : TypeId} {ek : K → Value} {ev : V → Value} {w : World} {r : Nat} {kv : List (K × V)}

theorem MapIs.made (w : World) (P : Program) (k : TypeId) (ek : K → Value) (ev : V → Value) : MapIs P k ek ev (w.alloc (.map #[] 0)) w.heap.size ([] : List (K × V)) :=
  ⟨by simp, #[], 0, (MapKept.heap_alloc w _).1, by simp, by simp, by simp, by simp⟩
theorem MapIs.lt (h : MapIs P k ek ev w r kv) : r < w.heap.size := by
  obtain ⟨_, es, clock, hb, _⟩ := h
  exact (Array.getElem?_eq_some_iff.1 hb).1
theorem MapIs.same {w' : World} (h : MapIs P k ek ev w r kv) (e : w'.heap[r]? = w.heap[r]?) : MapIs P k ek ev w' r kv := by
  obtain ⟨hn, es, clock, hb, h1⟩ := h
  exact ⟨hn, es, clock, e.trans hb, h1⟩
theorem MapIs.below {w' : World} (h : MapIs P k ek ev w r kv) (hb : Below w.heap.size w w') : MapIs P k ek ev w' r kv := h.same (hb.block r h.lt)
theorem MapIs.grown {w' : World} {row : Option Nat} (h : MapIs P k ek ev w r kv) (hg : w.grownBy w' row) (hne : some r ≠ row) : MapIs P k ek ev w' r kv := h.same (hg.block r h.lt hne)
theorem MapIs.alloc (h : MapIs P k ek ev w r kv) (o : Obj) : MapIs P k ek ev (w.alloc o) r kv := h.same (Below.heap_alloc w o r h.lt)
theorem MapIs.nodup (h : MapIs P k ek ev w r kv) : (kv.map Prod.fst).Nodup := h.1
theorem MapIs.drew (h : MapIs P k ek ev w r kv) : MapIs P k ek ev w.drew r kv := h

theorem MapIs.zip_at {es : List MapEntry} (he : es.map (fun x => (x.key, x.val)) = kv.map (fun p => (ek p.1, ev p.2))) {j : Nat} {e0 : MapEntry} (h : es[j]? = some e0) : ∃ p, kv[j]? = some p ∧ e0.key = ek p.1 ∧ e0.val = ev p.2 := by
  have h1 : (es.map (fun x => (x.key, x.val)))[j]? = some (e0.key, e0.val) := by simp [h]
  rw [he, List.getElem?_map] at h1
  cases hk : kv[j]? with
  | none => rw [hk] at h1; simp at h1
  | some p =>
    rw [hk] at h1
    simp only [Option.map_some, Option.some.injEq, Prod.mk.injEq] at h1
    exact ⟨p, rfl, h1.1.symm, h1.2.symm⟩
theorem MapIs.zip_not {es : List MapEntry} (he : es.map (fun x => (x.key, x.val)) = kv.map (fun p => (ek p.1, ev p.2))) {key : K} (h : ∀ e ∈ es, e.key ≠ ek key) : key ∉ kv.map Prod.fst := by
  intro hm
  obtain ⟨p, hp, rfl⟩ := List.mem_map.1 hm
  have : (ek p.1, ev p.2) ∈ es.map (fun x => (x.key, x.val)) := by rw [he]; exact List.mem_map.2 ⟨p, hp, rfl⟩
  obtain ⟨e, h1, h2⟩ := List.mem_map.1 this
  simp only [Prod.mk.injEq] at h2
  exact h e h1 h2.1

variable [DecidableEq K]
/-- What the search finds. -/
theorem MapIs.find (L : Keyed P k) (hinj : ∀ a b, ek a = ek b → a = b) (hn : (kv.map Prod.fst).Nodup) {es : Array MapEntry} (hk : ∀ x ∈ es.toList, ∃ l, keyOf P k x.key = some l) (he : es.toList.map (fun x => (x.key, x.val)) = kv.map (fun p => (ek p.1, ev p.2)))
    {key : K} {kl : Lit} (hkey : keyOf P k (ek key) = some kl) (w : World) :
    ((Instr.findKey k (ek key) es.toList).run P w = .ok none w ∧ key ∉ kv.map Prod.fst) ∨
    ∃ j e0 v, (Instr.findKey k (ek key) es.toList).run P w = .ok (some (j, ev v)) w ∧ es[j]? = some e0 ∧ e0.key = ek key ∧ e0.val = ev v ∧ kv[j]? = some (key, v) ∧ getKV kv key = some v := by
  rcases L.find w hkey es.toList hk with ⟨h1, h2⟩ | ⟨j, e0, h1, h2, h3⟩
  · exact .inl ⟨h1, MapIs.zip_not he h2⟩
  · obtain ⟨p, hp, e1, e2⟩ := MapIs.zip_at he h2
    have : p.1 = key := hinj _ _ (e1.symm.trans h3)
    obtain ⟨p1, p2⟩ := p
    cases this
    exact .inr ⟨j, e0, p2, by rw [← e2]; exact h1, by simpa using h2, h3, e2, hp, getKV_at hn hp⟩

theorem MapIs.lookup {t e : TypeId} (h : MapIs P k ek ev w r kv) (L : Keyed P k) (hinj : ∀ a b, ek a = ek b → a = b) (ht : P.underlying t = some (.map k e)) {z : Value} (hz : ∀ u : World, (zeroValue e).run P u = .ok z u) {key : K} {kl : Lit} (hkey : keyOf P k (ek key) = some kl) :
    (Instr.lookup t (.map (some r)) (ek key) false).run P w = .ok (match getKV kv key with | some v => ev v | none => z) w := by
  obtain ⟨hn, es, clock, hb, _, _, hk, he⟩ := h
  rcases MapIs.find L hinj hn hk he hkey w with ⟨h1, h2⟩ | ⟨j, e0, v, h1, _, _, _, _, h6⟩
  · rw [getKV_not h2]
    simp [Instr.lookup, run_underlying ht, MapKept.run_getObj_map hb, L.check w _ hkey, h1, hz, Result.andThen]
  · rw [h6]
    simp [Instr.lookup, run_underlying ht, MapKept.run_getObj_map hb, L.check w _ hkey, h1, Result.andThen]

theorem MapIs.stored {w : World} {es : Array MapEntry} {clock : Nat} (hb : w.heap[r]? = some (.map es clock)) (es' : Array MapEntry) (clock' : Nat) : w.grownBy (setBlock w r (.map es' clock')) (some r) :=
  ⟨rfl, rfl, rfl, by simp [setBlock], fun i _ hi => heap_setBlock_other hb _ (fun e => hi (by rw [e]))⟩

theorem MapIs.isSet {w : World} {es : Array MapEntry} {clock : Nat} (hn : (kv.map Prod.fst).Nodup) (hb : w.heap[r]? = some (.map es clock)) (hl : ∀ x ∈ es.toList, x.born < clock) (hd : (es.toList.map (·.born)).Nodup) (hk : ∀ x ∈ es.toList, ∃ l, keyOf P k x.key = some l) (he : es.toList.map (fun x => (x.key, x.val)) = kv.map (fun p => (ek p.1, ev p.2)))
    {key : K} {kl : Lit} (hkey : keyOf P k (ek key) = some kl) {j : Nat} {e0 : MapEntry} {v0 : V} (v : V) (h2 : es[j]? = some e0) (h4 : kv[j]? = some (key, v0)) :
    MapIs P k ek ev (setBlock w r (.map (es.modify j fun e' => { e' with key := ek key, val := ev v }) clock)) r (putKV kv key v) := by
  have h2' : es.toList[j]? = some e0 := by simpa using h2
  have hset : (es.modify j fun e' => { e' with key := ek key, val := ev v }).toList = es.toList.set j { e0 with key := ek key, val := ev v } := by
    rw [Array.toList_modify, modify_eq_set _ _ _ _ h2']
  have hmem : ∀ x ∈ es.toList.set j { e0 with key := ek key, val := ev v }, x ∈ es.toList ∨ x = { e0 with key := ek key, val := ev v } := fun x hx => by
    rcases List.mem_or_eq_of_mem_set hx with h | h
    · exact .inl h
    · exact .inr h
  refine ⟨nodup_putKV hn _ _, _, clock, heap_setBlock_same hb _, ?_, ?_, ?_, ?_⟩
  · rw [hset]
    intro x hx
    rcases hmem x hx with h | rfl
    · exact hl x h
    · exact hl e0 (List.mem_of_getElem? h2')
  · rw [hset, List.map_set]
    have : (es.toList.map (·.born)).set j e0.born = es.toList.map (·.born) := WideElems.set_self _ _ _ (by simp [h2'])
    simpa [this] using hd
  · rw [hset]
    intro x hx
    rcases hmem x hx with h | rfl
    · exact hk x h
    · exact ⟨kl, hkey⟩
  · rw [hset, List.map_set, he, putKV_at (p := (key, v0)) v hn h4, List.map_set]

theorem MapIs.isPush {w : World} {es : Array MapEntry} {clock : Nat} (hn : (kv.map Prod.fst).Nodup) (hb : w.heap[r]? = some (.map es clock)) (hl : ∀ x ∈ es.toList, x.born < clock) (hd : (es.toList.map (·.born)).Nodup) (hk : ∀ x ∈ es.toList, ∃ l, keyOf P k x.key = some l) (he : es.toList.map (fun x => (x.key, x.val)) = kv.map (fun p => (ek p.1, ev p.2)))
    {key : K} {kl : Lit} (hkey : keyOf P k (ek key) = some kl) (v : V) (h2 : key ∉ kv.map Prod.fst) :
    MapIs P k ek ev (setBlock w r (.map (es.push ⟨ek key, ev v, clock⟩) (clock + 1))) r (putKV kv key v) := by
  refine ⟨nodup_putKV hn _ _, _, clock + 1, heap_setBlock_same hb _, ?_, ?_, ?_, ?_⟩
  · intro x hx
    simp only [Array.toList_push, List.mem_append, List.mem_singleton] at hx
    rcases hx with hx | rfl
    · have := hl x hx; omega
    · simp
  · simp only [Array.toList_push, List.map_append, List.map_cons, List.map_nil]
    refine List.nodup_append.2 ⟨hd, by simp, fun a ha c hc e1 => ?_⟩
    simp only [List.mem_singleton] at hc
    obtain ⟨x, hx, rfl⟩ := List.mem_map.1 ha
    have := hl x hx
    omega
  · intro x hx
    simp only [Array.toList_push, List.mem_append, List.mem_singleton] at hx
    rcases hx with hx | rfl
    · exact hk x hx
    · exact ⟨kl, hkey⟩
  · simp only [Array.toList_push, List.map_append, List.map_cons, List.map_nil, he, putKV_not v h2]

/-- 'm[k] = v'. -/
theorem MapIs.update {t e : TypeId} (h : MapIs P k ek ev w r kv) (L : Keyed P k) (hinj : ∀ a b, ek a = ek b → a = b) (ht : P.underlying t = some (.map k e)) {key : K} {kl : Lit} (hkey : keyOf P k (ek key) = some kl) (v : V) :
    ∃ w', (Instr.mapUpdate t (.map (some r)) (ek key) (ev v)).run P w = .ok () w' ∧ MapIs P k ek ev w' r (putKV kv key v) ∧ w.grownBy w' (some r) := by
  obtain ⟨hn, es, clock, hb, hl, hd, hk, he⟩ := h
  rcases MapIs.find L hinj hn hk he hkey w with ⟨h1, h2⟩ | ⟨j, e0, v0, h1, h2, h3, h4, h5, _⟩
  · refine ⟨_, ?_, MapIs.isPush hn hb hl hd hk he hkey v h2, MapIs.stored hb _ _⟩
    simp [Instr.mapUpdate, run_underlying ht, MapKept.run_getObj_map hb, L.check w false hkey, h1, MapKept.run_setObj_map _ hb, Result.andThen, setBlock]
  · refine ⟨_, ?_, MapIs.isSet hn hb hl hd hk he hkey v h2 h5, MapIs.stored hb _ _⟩
    simp [Instr.mapUpdate, run_underlying ht, MapKept.run_getObj_map hb, L.check w false hkey, h1, h2, h3, L.stays w hkey, MapKept.run_setObj_map _ hb, Result.andThen, setBlock]

/-- 'm[k] op= v': the entry, and the store into it. -/
theorem MapIs.entry {t e : TypeId} (h : MapIs P k ek ev w r kv) (L : Keyed P k) (hinj : ∀ a b, ek a = ek b → a = b) (ht : P.underlying t = some (.map k e)) {z : V} (hz : ∀ u : World, (zeroValue e).run P u = .ok (ev z) u) {key : K} {kl : Lit} (hkey : keyOf P k (ek key) = some kl) :
    ∃ st w1, (Instr.mapEntry t (.map (some r)) (ek key)).run P w = .ok (.tuple #[ev ((getKV kv key).getD z), .int .i64 ((st : Nat) : Int)]) w1 ∧ MapIs P k ek ev w1 r (putKV kv key ((getKV kv key).getD z)) ∧ w.grownBy w1 (some r) ∧ w1.heap.size = w.heap.size ∧
      ∀ (w2 : World) (v : V), w2.heap[r]? = w1.heap[r]? → ∃ w3, (Instr.entryStore t (.map (some r)) (.int .i64 ((st : Nat) : Int)) (ev v)).run P w2 = .ok () w3 ∧ MapIs P k ek ev w3 r (putKV kv key v) ∧ w2.grownBy w3 (some r) ∧ w3.heap.size = w2.heap.size := by
  obtain ⟨hn, es, clock, hb, hl, hd, hk, he⟩ := h
  rcases MapIs.find L hinj hn hk he hkey w with ⟨h1, h2⟩ | ⟨j, e0, v0, h1, h2, h3, h4, h5, h6⟩
  · refine ⟨clock, setBlock w r (.map (es.push ⟨ek key, ev z, clock⟩) (clock + 1)), ?_, by rw [getKV_not h2]; exact MapIs.isPush hn hb hl hd hk he hkey z h2, MapIs.stored hb _ _, by simp [setBlock], fun w2 v hw2 => ?_⟩
    · rw [getKV_not h2]
      simp [Instr.mapEntry, run_underlying ht, MapKept.run_getObj_map hb, L.check w false hkey, h1, hz, MapKept.run_setObj_map _ hb, Result.andThen, setBlock, goInt]
    · rw [heap_setBlock_same hb] at hw2
      have hidx : (es.push ⟨ek key, ev z, clock⟩).findIdx? (fun e => ((e.born : Nat) : Int) == ((clock : Nat) : Int)) = some es.size := by
        rw [WideElems.findIdx_arr]
        have := WideElems.findIdx_born (l := (es.push ⟨ek key, ev z, clock⟩).toList) (j := es.size) (e0 := ⟨ek key, ev z, clock⟩) (by
          simp only [Array.toList_push, List.map_append, List.map_cons, List.map_nil]
          refine List.nodup_append.2 ⟨hd, by simp, fun a ha c hc e1 => ?_⟩
          simp only [List.mem_singleton] at hc
          obtain ⟨x, hx, rfl⟩ := List.mem_map.1 ha
          have := hl x hx
          omega) (by simp)
        exact this
      have hmod : (es.push ⟨ek key, ev z, clock⟩).modify es.size (fun e => { e with val := ev v }) = es.push ⟨ek key, ev v, clock⟩ := by
        apply Array.ext'
        rw [Array.toList_modify, Array.toList_push, Array.toList_push, ← Array.length_toList, WideElems.modify_last]
      have hb' : (setBlock w2 r (.map es clock)).heap[r]? = some (.map es clock) := heap_setBlock_same hw2 _
      have hfin := MapIs.isPush (r := r) hn hb' hl hd hk he hkey v h2
      have e2 : setBlock (setBlock w2 r (.map es clock)) r (.map (es.push ⟨ek key, ev v, clock⟩) (clock + 1)) = setBlock w2 r (.map (es.push ⟨ek key, ev v, clock⟩) (clock + 1)) := by
        simp [setBlock]
      rw [e2] at hfin
      refine ⟨_, ?_, hfin, MapIs.stored hw2 _ _, by simp [setBlock]⟩
      simp [Instr.entryStore, MapKept.run_getObj_map hw2, asInt, asIntOf, hidx, hmod, MapKept.run_setObj_map _ hw2, Result.andThen, setBlock]
  · have h2' : es.toList[j]? = some e0 := by simpa using h2
    have hsame : es.modify j (fun e => { e with key := ek key }) = es := by
      apply Array.ext'
      rw [Array.toList_modify, modify_eq_set _ _ _ _ h2']
      have : ({ e0 with key := ek key } : MapEntry) = e0 := by rw [← h3]
      rw [this]
      exact WideElems.set_self _ _ _ h2'
    refine ⟨e0.born, setBlock w r (.map es clock), ?_, ?_, MapIs.stored hb _ _, by simp [setBlock], fun w2 v hw2 => ?_⟩
    · rw [h6]
      simp [Instr.mapEntry, run_underlying ht, MapKept.run_getObj_map hb, L.check w false hkey, h1, h2, h3, L.stays w hkey, hsame, MapKept.run_setObj_map _ hb, Result.andThen, setBlock, goInt]
    · rw [h6]
      show MapIs P k ek ev _ r (putKV kv key v0)
      rw [putKV_at (p := (key, v0)) v0 hn h5, WideElems.set_self _ _ _ h5]
      exact ⟨hn, es, clock, heap_setBlock_same hb _, hl, hd, hk, he⟩
    · rw [heap_setBlock_same hb] at hw2
      have hidx : es.findIdx? (fun e => ((e.born : Nat) : Int) == ((e0.born : Nat) : Int)) = some j := by
        rw [WideElems.findIdx_arr]
        exact WideElems.findIdx_born hd h2'
      have hmod : es.modify j (fun e => { e with val := ev v }) = es.modify j (fun e' => { e' with key := ek key, val := ev v }) := by
        apply Array.ext'
        rw [Array.toList_modify, Array.toList_modify, modify_eq_set _ _ _ _ h2', modify_eq_set _ _ _ _ h2', ← h3]
      refine ⟨_, ?_, MapIs.isSet hn hw2 hl hd hk he hkey v h2 h5, MapIs.stored hw2 _ _, by simp [setBlock]⟩
      simp [Instr.entryStore, MapKept.run_getObj_map hw2, asInt, asIntOf, hidx, hmod, MapKept.run_setObj_map _ hw2, Result.andThen, setBlock]

end

section
variable {K V : Type}

/-- Block it goes round the map r; the keys done have come. -/
def RangeIs (P : Program) (k : TypeId) (ek : K → Value) (ev : V → Value) (w : World) (r it : Nat) (kv : List (K × V)) (done : List K) : Prop :=
  (kv.map Prod.fst).Nodup ∧ it ≠ r ∧ done.Nodup ∧ (∀ d ∈ done, d ∈ kv.map Prod.fst) ∧ ∃ es clock seen, w.heap[r]? = some (.map es clock) ∧ (∀ x ∈ es.toList, x.born < clock) ∧ (es.toList.map (·.born)).Nodup ∧ (∀ x ∈ es.toList, ∃ l, keyOf P k x.key = some l) ∧ es.toList.map (fun x => (x.key, x.val)) = kv.map (fun p => (ek p.1, ev p.2)) ∧
    w.heap[it]? = some (.mapIter (some r) clock seen clock) ∧ (∀ x ∈ es.toList, x.born ∈ seen.toList ↔ x.key ∈ done.map ek)

variable {P : Program} {k : TypeId} {ek : K → Value} {ev : V → Value} {w : World} {r it : Nat} {kv : List (K × V)} {done : List K}

theorem RangeIs.map (h : RangeIs P k ek ev w r it kv done) : MapIs P k ek ev w r kv := by
  obtain ⟨h1, _, _, _, es, clock, seen, a, b, c, d, e, _⟩ := h
  exact ⟨h1, es, clock, a, b, c, d, e⟩
theorem RangeIs.lt (h : RangeIs P k ek ev w r it kv done) : it < w.heap.size := by
  obtain ⟨_, _, _, _, es, clock, seen, _, _, _, _, _, hb, _⟩ := h
  exact (Array.getElem?_eq_some_iff.1 hb).1
theorem RangeIs.ne (h : RangeIs P k ek ev w r it kv done) : it ≠ r := h.2.1
theorem RangeIs.same {w' : World} (h : RangeIs P k ek ev w r it kv done) (e1 : w'.heap[r]? = w.heap[r]?) (e2 : w'.heap[it]? = w.heap[it]?) : RangeIs P k ek ev w' r it kv done := by
  obtain ⟨h1, h2, h3, h4, es, clock, seen, a, b, c, d, e, f, g⟩ := h
  exact ⟨h1, h2, h3, h4, es, clock, seen, e1.trans a, b, c, d, e, e2.trans f, g⟩
theorem RangeIs.grown {w' : World} {row : Option Nat} (h : RangeIs P k ek ev w r it kv done) (hg : w.grownBy w' row) (hr : some r ≠ row) (hi : some it ≠ row) : RangeIs P k ek ev w' r it kv done :=
  h.same (hg.block r h.map.lt hr) (hg.block it h.lt hi)
theorem RangeIs.alloc (h : RangeIs P k ek ev w r it kv done) (o : Obj) : RangeIs P k ek ev (w.alloc o) r it kv done := h.grown (World.grownBy_alloc w o none) (by simp) (by simp)
theorem RangeIs.count (h : RangeIs P k ek ev w r it kv done) : done.length ≤ kv.length := by
  have := List.Nodup.length_le_of_subset h.2.2.1 (fun d hd => h.2.2.2.1 d hd)
  simpa using this

theorem MapIs.range {t e : TypeId} (h : MapIs P k ek ev w r kv) (ht : P.underlying t = some (.map k e)) :
    ∃ w', (Instr.range t (.map (some r))).run P w = .ok (.pointer (some ⟨w.heap.size, 0, none⟩)) w' ∧ RangeIs P k ek ev w' r w.heap.size kv [] ∧ w.grownBy w' none ∧ w'.heap.size = w.heap.size + 1 := by
  have hlt := h.lt
  obtain ⟨hn, es, clock, hb, hl, hd, hk, he⟩ := h
  refine ⟨w.alloc (.mapIter (some r) clock #[] clock), ?_, ⟨hn, by omega, by simp, by simp, es, clock, #[], (Below.heap_alloc w _ r hlt).trans hb, hl, hd, hk, he, (MapKept.heap_alloc w _).1, by simp⟩, World.grownBy_alloc w _ none, by simp⟩
  simp [Instr.range, run_underlying ht, MapKept.run_getObj_map hb, Result.andThen, newObj, Sem.run]

theorem RangeIs.next (h : RangeIs P k ek ev w r it kv done) (hinj : ∀ a b, ek a = ek b → a = b) (ty : TypeId) :
    (done.Perm (kv.map Prod.fst) ∧ (Instr.next (.pointer (some ⟨it, 0, none⟩)) false ty).run P w = .ok (.tuple #[.bool false]) w) ∨
    ∃ key v w', done.length < kv.length ∧ (key, v) ∈ kv ∧ (Instr.next (.pointer (some ⟨it, 0, none⟩)) false ty).run P w = .ok (.tuple #[.bool true, ek key, ev v]) w' ∧ RangeIs P k ek ev w' r it kv (done ++ [key]) ∧ w.grownBy w' (some it) ∧ w'.heap.size = w.heap.size ∧
      (Instr.entry (.pointer (some ⟨it, 0, none⟩))).run P w' = .ok (.tuple #[ek key, ev v]) w' := by
  have hall := h
  obtain ⟨hn, hne, hdn, hds, es, clock, seen, hb, hl, hd, hk, he, hi, hs⟩ := h
  have hleft : ∀ x, x ∈ (leftOf es seen).toList ↔ x ∈ es.toList ∧ x.born ∉ seen.toList := fun x => by simp [leftOf]
  rcases run_next_at (P := P) w ty it r clock clock seen es clock hi hb hl (Nat.le_refl _) with ⟨h0, hrun⟩ | ⟨e, hm, w1, hw1, hrun⟩
  · refine .inl ⟨(List.perm_ext_iff_of_nodup hdn hn).2 fun a => ⟨hds a, fun ha => ?_⟩, hrun⟩
    obtain ⟨p, hp, rfl⟩ := List.mem_map.1 ha
    have : (ek p.1, ev p.2) ∈ es.toList.map (fun x => (x.key, x.val)) := by rw [he]; exact List.mem_map.2 ⟨p, hp, rfl⟩
    obtain ⟨x, hx, hxe⟩ := List.mem_map.1 this
    simp only [Prod.mk.injEq] at hxe
    have hnil : (leftOf es seen).toList = [] := by
      apply List.eq_nil_of_length_eq_zero
      simpa using h0
    have hsx : x.born ∈ seen.toList := Classical.byContradiction fun hc => by
      have := (hleft x).2 ⟨hx, hc⟩
      rw [hnil] at this
      cases this
    have hkx := (hs x hx).1 hsx
    rw [hxe.1] at hkx
    obtain ⟨d, hd1, hd2⟩ := List.mem_map.1 hkx
    rw [← hinj _ _ hd2]
    exact hd1
  · obtain ⟨hme, hms⟩ := (hleft e).1 hm
    obtain ⟨j, hj⟩ := List.mem_iff_getElem?.1 hme
    obtain ⟨p, hp, ek1, ev1⟩ := MapIs.zip_at he hj
    have hnd : p.1 ∉ done := fun hc => hms ((hs e hme).2 (by rw [ek1]; exact List.mem_map.2 ⟨p.1, hc, rfl⟩))
    have hpm : p ∈ kv := List.mem_of_getElem? hp
    have hb1 : w1.heap[r]? = some (.map es clock) := by rcases hw1 with rfl | rfl <;> exact hb
    have hi1 : w1.heap[it]? = some (.mapIter (some r) clock seen clock) := by rcases hw1 with rfl | rfl <;> exact hi
    have hilt : it < w1.heap.size := (Array.getElem?_eq_some_iff.1 hi1).1
    have hdn' : (done ++ [p.1]).Nodup := List.nodup_append.2 ⟨hdn, by simp, fun a ha b hb e => by simp at hb; subst hb; subst e; exact hnd ha⟩
    have hds' : ∀ d ∈ done ++ [p.1], d ∈ kv.map Prod.fst := fun d hd => by
      rcases List.mem_append.1 hd with h | h
      · exact hds d h
      · simp at h; subst h; exact List.mem_map.2 ⟨p, hpm, rfl⟩
    have hbr : (setBlock w1 it (.mapIter (some r) clock (seen.push e.born) clock)).heap[r]? = some (.map es clock) := by
      show (w1.heap.setIfInBounds it _)[r]? = _
      rw [Array.getElem?_setIfInBounds_ne hne]
      exact hb1
    have hbi : (setBlock w1 it (.mapIter (some r) clock (seen.push e.born) clock)).heap[it]? = some (.mapIter (some r) clock (seen.push e.born) clock) := by
      show (w1.heap.setIfInBounds it _)[it]? = _
      rw [Array.getElem?_setIfInBounds_self_of_lt hilt]
    have hsz : (setBlock w1 it (.mapIter (some r) clock (seen.push e.born) clock)).heap.size = w.heap.size := by
      have : (setBlock w1 it (.mapIter (some r) clock (seen.push e.born) clock)).heap.size = w1.heap.size := by simp [setBlock]
      rw [this]
      rcases hw1 with rfl | rfl <;> rfl
    refine .inr ⟨p.1, p.2, _, ?_, hpm, by rw [← ek1, ← ev1]; exact hrun, ⟨hn, hne, hdn', hds', es, clock, seen.push e.born, hbr, hl, hd, hk, he, hbi, fun x hx => ?_⟩, ?_, ?_, ?_⟩
    · have := List.Nodup.length_le_of_subset hdn' (fun d hd => hds' d hd)
      simp at this
      omega
    · simp only [Array.toList_push, List.mem_append, List.mem_singleton, List.map_append, List.map_cons, List.map_nil, hs x hx]
      constructor
      · rintro (h | h)
        · exact .inl h
        · obtain ⟨i, hi'⟩ := List.mem_iff_getElem?.1 hx
          have hji : j = i := (List.getElem?_inj (l := es.toList.map (·.born)) (by simpa using (List.getElem?_eq_some_iff.1 hj).1) hd).1 (by simp [hj, hi', h])
          subst hji
          rw [hj] at hi'
          cases hi'
          exact .inr ek1
      · rintro (h | h)
        · exact .inl h
        · obtain ⟨i, hi'⟩ := List.mem_iff_getElem?.1 hx
          obtain ⟨q, hq, eq1, _⟩ := MapIs.zip_at he hi'
          have : q.1 = p.1 := hinj _ _ (eq1.symm.trans h)
          have hji : j = i := (List.getElem?_inj (l := kv.map Prod.fst) (by simpa using (List.getElem?_eq_some_iff.1 hp).1) hn).1 (by simp [hp, hq, this])
          subst hji
          rw [hj] at hi'
          cases hi'
          exact .inr rfl
    · refine ⟨?_, ?_, ?_, ?_, fun i _ hi' => ?_⟩
      · rcases hw1 with rfl | rfl <;> rfl
      · rcases hw1 with rfl | rfl <;> rfl
      · rcases hw1 with rfl | rfl <;> rfl
      · exact Nat.le_of_eq hsz.symm
      · show (w1.heap.setIfInBounds it _)[i]? = _
        rw [Array.getElem?_setIfInBounds_ne (fun e => hi' (by rw [e]))]
        rcases hw1 with rfl | rfl <;> rfl
    · exact hsz
    · rw [← ek1, ← ev1]
      exact run_entry_at _ it r clock seen es clock e hbi hbr hme hd

end

theorem _root_.Go.World.grownBy_drew {w w' : World} {row : Option Nat} (h : w.grownBy w' row) : w.grownBy w'.drew row := ⟨h.os, h.tape, h.output, h.size, h.block⟩

/-! ### at the operations -/
section
variable {K V : Type} {P : Program} {ops : Array Oper} {rest : List Oper} {o : Oper} {a : Act} {Q : Exit → Act → World → Prop} {w : World}
theorem wpList_range_is (hg : o.guard = none) (m : Operand) (t : TypeId) (hop : o.op = Op.range t m) {k e : TypeId} (ht : P.underlying t = some (.map k e)) {ek : K → Value} {ev : V → Value} {r : Nat} {kv : List (K × V)}
    (hm : a.eval m = .map (some r)) (h : MapIs P k ek ev w r kv)
    (hK : ∀ w', RangeIs P k ek ev w' r w.heap.size kv [] → w.grownBy w' none → w'.heap.size = w.heap.size + 1 → wpList P ops Q rest (a.put o.dst (.pointer (some ⟨w.heap.size, 0, none⟩))) w') :
    wpList P ops Q (o :: rest) a w := by
  refine wpList_plain hg fun K' hK' => ?_
  obtain ⟨w', hrun, r1, r2, r3⟩ := h.range ht
  unfold Oper.wp
  simp [execOp, hop, hm, hrun, Result.andThen]
  exact hK' _ _ (hK w' r1 r2 r3)
theorem wpList_next_is (hg : o.guard = none) (i : Operand) (hop : o.op = Op.next i false) {k : TypeId} {ek : K → Value} {ev : V → Value} {r it : Nat} {kv : List (K × V)} {done : List K} (hinj : ∀ a b, ek a = ek b → a = b)
    (hit : a.eval i = .pointer (some ⟨it, 0, none⟩)) (h : RangeIs P k ek ev w r it kv done)
    (hDone : done.Perm (kv.map Prod.fst) → wpList P ops Q rest (a.put o.dst (.tuple #[.bool false])) w)
    (hMore : ∀ (key : K) (v : V) (w' : World), done.length < kv.length → (key, v) ∈ kv → RangeIs P k ek ev w' r it kv (done ++ [key]) → w.grownBy w' (some it) → w'.heap.size = w.heap.size → (Instr.entry (.pointer (some ⟨it, 0, none⟩))).run P w' = .ok (.tuple #[ek key, ev v]) w' →
      wpList P ops Q rest (a.put o.dst (.tuple #[.bool true, ek key, ev v])) w') :
    wpList P ops Q (o :: rest) a w := by
  refine wpList_plain hg fun K' hK' => ?_
  unfold Oper.wp
  rcases h.next hinj o.type with ⟨hp, hrun⟩ | ⟨key, v, w', h1, h2, hrun, h3, h4, h5, h6⟩
  · simp [execOp, hop, hit, hrun, Result.andThen]
    exact hK' _ _ (hDone hp)
  · simp [execOp, hop, hit, hrun, Result.andThen]
    exact hK' _ _ (hMore key v w' h1 h2 h3 h4 h5 h6)
theorem MapIs.len {ek : K → Value} {ev : V → Value} {k e t : TypeId} {r : Nat} {kv : List (K × V)} (h : MapIs P k ek ev w r kv) (ht : P.underlying t = some (.map k e)) (ty : TypeId) : (Builtin.len_ #[t] ty #[.map (some r)]).run P w = .ok (.int .i64 (kv.length : Int)) w := by
  obtain ⟨_, es, clock, hb, _, _, _, he⟩ := h
  have e1 : es.size = kv.length := by
    have := congrArg List.length he
    simpa using this
  rw [← e1]
  simp [Builtin.len_, run_underlying ht, MapKept.run_getObj_map hb, goInt, Result.andThen]
theorem wpList_len_is (hg : o.guard = none) (m : Operand) (t : TypeId) (hop : o.op = Op.call { callee := Callee.builtin Builtin.len, args := #[m], argTypes := #[t] }) {k e : TypeId} (ht : P.underlying t = some (.map k e)) {ek : K → Value} {ev : V → Value} {r : Nat} {kv : List (K × V)}
    (hm : a.eval m = .map (some r)) (h : MapIs P k ek ev w r kv) (hK : wpList P ops Q rest (a.put o.dst (.int .i64 (kv.length : Int))) w) : wpList P ops Q (o :: rest) a w := by
  refine wpList_plain hg fun K' hK' => ?_
  unfold Oper.wp
  simp [execOp, hop, resolve, invoke, builtin, hm, h.len ht o.type, Result.andThen]
  exact hK' _ _ hK
theorem wpList_mapUpdate_is [DecidableEq K] (hg : o.guard = none) (m x v : Operand) (t : TypeId) (hop : o.op = Op.mapUpdate t m x v) {k e : TypeId} (L : Go.Maps.Keyed P k) (ht : P.underlying t = some (.map k e)) {ek : K → Value} {ev : V → Value} {r : Nat} {kv : List (K × V)} (hinj : ∀ a b, ek a = ek b → a = b)
    (hm : a.eval m = .map (some r)) (h : MapIs P k ek ev w r kv) (key : K) (val : V) {kl : Lit} (hx : a.eval x = ek key) (hv : a.eval v = ev val) (hkey : keyOf P k (ek key) = some kl)
    (hK : ∀ w', MapIs P k ek ev w' r (putKV kv key val) → w.grownBy w' (some r) → wpList P ops Q rest (a.put o.dst undef) w') :
    wpList P ops Q (o :: rest) a w := by
  refine wpList_plain hg fun K' hK' => ?_
  obtain ⟨w', hrun, r1, r2⟩ := h.update L hinj ht hkey val
  unfold Oper.wp
  simp [execOp, hop, hm, hx, hv, hrun, Result.andThen]
  exact hK' _ _ (hK w' r1 r2)
end
end Go.Proofs.Bg
end

section
/- The contract of sums.put: one more item in the map of sums. -/
namespace Go.Proofs.Bg
open Go.RowKit

theorem laidOut : laidOutB Tryd.prog = true := by kernel_rfl
theorem rowOrd : (104 : TypeId) < Tryd.prog.types.size := of_decide_eq_true (by kernel_rfl)
theorem law_struct {P : Program} (hl : laidOutB P = true) {m : Nat} (hm : m + 1 ≤ 10000) {k : TypeId} (hrow : k < P.types.size) (hk : P.keyTypeAt m k = true) {fs : Array Field} (hu : P.underlying k = some (.struct fs)) : Go.Maps.Keyed P k :=
  Go.Maps.Keyed.of_law (deep_law_laid hl hm hrow hk (by rw [hu]))
theorem lawOrd : Go.Maps.Keyed Tryd.prog 104 := law_struct laidOut (m := 2) (by omega) rowOrd (by kernel_rfl) Tryd.underlying104
theorem lawInt : Go.Maps.Keyed Tryd.prog 3 := Go.Maps.int_keyed Tryd.underlying3

def I64 (x : Int) : Prop := -9223372036854775808 ≤ x ∧ x ≤ 9223372036854775807
def Rc.ok (r : Rc) : Prop := I64 r.at_ ∧ I64 r.key ∧ I64 r.val
def ekR (r : Rc) : Value := .agg r.vs.toArray
def evI (n : Int) : Value := .int .i64 n
theorem ekR_inj (a b : Rc) (h : ekR a = ekR b) : a = b := by
  cases a; cases b
  simp [ekR, Rc.vs] at h
  simp [h]
theorem keyR (r : Rc) (h : r.ok) : ∃ l, keyOf Tryd.prog 104 (ekR r) = some l := by
  obtain ⟨⟨a1, a2⟩, ⟨b1, b2⟩, ⟨c1, c2⟩⟩ := h
  have e1 : (Lit.int .i64 r.at_).wf = true := WalkArith.wf_i64 ⟨a1, a2⟩
  have e2 : (Lit.int .i64 r.key).wf = true := WalkArith.wf_i64 ⟨b1, b2⟩
  have e3 : (Lit.int .i64 r.val).wf = true := WalkArith.wf_i64 ⟨c1, c2⟩
  have k0 : Tryd.prog.keyType 104 = true := by kernel_rfl
  have c0 : Tryd.prog.cellsOf 104 = 3 := by kernel_rfl
  have c3 : Tryd.prog.cellsOf 3 = 1 := by kernel_rfl
  have hs : 0 < Tryd.prog.types.size := of_decide_eq_true (by kernel_rfl)
  obtain ⟨d, hd⟩ : ∃ d, Tryd.prog.types.size = d + 1 := ⟨Tryd.prog.types.size - 1, by omega⟩
  unfold keyOf
  rw [Tryd.underlying104, hd]
  simp [k0, ekR, Rc.vs, Value.formed, Value.cells, Tryd.underlying104, Tryd.underlying3, c0, c3, Program.keyLits, e1, e2, e3]
theorem zeroI (u : World) : (zeroValue 3).run Tryd.prog u = .ok (evI 0) u := by kernel_rfl

theorem put_any (r : Nat) (kv : List (Rc × Int)) (x : Rc) (n old : Int) (w : World) (h : MapIs Tryd.prog 104 ekR evI w r kv) (hx : x.ok) (ho : (getKV kv x).getD 0 = old) (hb : I64 (old + n)) :
    Calls Tryd.prog 32 #[.map (some r), .agg #[.int .i64 x.at_, .int .i64 x.key, .int .i64 x.val], .int .i64 n] w fun e w' => e = .returned (.tuple #[]) ∧ MapIs Tryd.prog 104 ekR evI w' r (putKV kv x (old + n)) ∧ w.grownBy w' (some r) := by
  obtain ⟨kl, hkl⟩ := keyR x hx
  have hM := (h.alloc (.cells #[.int .i64 x.at_, .int .i64 x.key, .int .i64 x.val] 31)).drew
  have hlk := hM.lookup lawOrd ekR_inj Tryd.underlying63 zeroI hkl
  have hlk' : (Instr.lookup 63 (.map (some r)) (.agg #[.int .i64 x.at_, .int .i64 x.key, .int .i64 x.val]) false).run Tryd.prog (w.alloc (.cells #[.int .i64 x.at_, .int .i64 x.key, .int .i64 x.val] 31)).drew = .ok (.int .i64 old) (w.alloc (.cells #[.int .i64 x.at_, .int .i64 x.key, .int .i64 x.val] 31)).drew := by
    refine hlk.trans ?_
    rw [← ho]
    cases getKV kv x <;> rfl
  obtain ⟨st, w1, hme, hM1, hg1, hsz, hst⟩ := hM.entry lawOrd ekR_inj Tryd.underlying63 (z := (0 : Int)) zeroI hkl
  obtain ⟨w3, hes, hM3, hg3, _⟩ := hst w1 (old + n) rfl
  have hlk1 := hM1.lookup lawOrd ekR_inj Tryd.underlying63 zeroI hkl
  rw [getKV_put, if_pos rfl, ho] at hlk1
  have hlk1' : (Instr.lookup 63 (.map (some r)) (.agg #[.int .i64 x.at_, .int .i64 x.key, .int .i64 x.val]) false).run Tryd.prog w1 = .ok (.int .i64 old) w1 := hlk1
  obtain ⟨b1, b2⟩ := hb
  have hme' : (Instr.mapEntry 63 (.map (some r)) (.agg #[.int .i64 x.at_, .int .i64 x.key, .int .i64 x.val])).run Tryd.prog (w.alloc (.cells #[.int .i64 x.at_, .int .i64 x.key, .int .i64 x.val] 31)).drew = .ok (.tuple #[.int .i64 old, .int .i64 (st : Int)]) w1 := by
    refine hme.trans ?_
    rw [ho]
    rfl
  have hes' : (Instr.entryStore 63 (.map (some r)) (.int .i64 (st : Int)) (.int .i64 (old + n))).run Tryd.prog w1 = .ok () w3 := hes
  have hw : IntKind.i64.wrap (old + n) = old + n := IntWalk.i64_in _ ⟨b1, b2⟩
  have hgg : w.grownBy w3 (some r) := ((World.grownBy_drew (World.grownBy_alloc w _ _)).andThen hg1 (fun j e => .inr e)).andThen hg3 (fun j e => .inr e)
  have HM3 := Lib.hid hM3
  have HG := Lib.hid hgg
  clear hM hM1 hlk hlk1 hst hme hes hM3 hg1 hg3 hgg hsz ho h hkl
  go_enter Tryd.func32, Tryd.ntmps32
  go_wp2_with fail
  go_region
  go_end0
  exact ⟨rfl, HM3.out, HG.out⟩
end Go.Proofs.Bg
end

section
/- The contract of keys at map[ordered]int: all keys of the map, sorted. -/
namespace Go.Proofs.Bg
open Go.RowKit

theorem infoOrd : (Tryd.prog.info? 104).map (fun i => (i.zero, i.size, i.bytes)) = some (some (.agg #[.int .i64 0, .int .i64 0, .int .i64 0]), 3, 24) := by kernel_rfl

/-- What the loop holds: a plain word for the walk. -/
def KeysRel (w : World) (r it : Nat) (kv : List (Rc × Int)) (v : Value) (done : List Rc) (wr : World) : Prop :=
  RangeIs Tryd.prog 104 ekR evI wr r it kv done ∧ Own Rc.vs 3 104 w.heap.size wr v done ∧ v.ownBlock ≠ some it ∧ Below w.heap.size w wr ∧ w.heap.size ≤ it

open Go.Sort (grow HoldsK) in
/-- The sort of the keys that were collected: any list that the call owns. -/
theorem sortR_any (base : Nat) (A : Option Addr) (cap : Nat) (l : List Rc) (w : World) (h : Own Rc.vs 3 104 base w (.slice A l.length cap) l) (hn : l.Nodup) (hlen : l.length < 4611686018427387904) :
    Calls Tryd.prog 76 #[.slice A l.length cap, .func (.func 63) #[] #[]] w fun e w' => e = .returned (.tuple #[]) ∧ ∃ l', l'.length = l.length ∧ Incr l' ∧ l'.Perm l ∧ Rd Rc.vs 3 w' base A l.length l' ∧ w.grownBy w' (Value.slice A l.length cap).ownBlock := by
  by_cases h0 : l = []
  · subst h0
    have hc := AnyF.slices_SortFunc_none Tryd.sortOrd A cap (.func (.func 63) #[] #[]) w
    change Calls Tryd.prog 76 _ _ _ at hc
    exact hc.mono fun e w' ⟨he, hw⟩ => ⟨he, [], rfl, List.Pairwise.nil, List.Perm.refl _, Rd.nil _ _ _, by rw [hw]; exact World.grownBy.refl _ _⟩
  · have hpos : 0 < l.length := List.length_pos_iff.2 h0
    have hH := h
    rcases h.2 with ⟨_, e0⟩ | ⟨g, cap', cur, hv, hbase, hb, _⟩
    · omega
    · cases hv
      have hgl : g < w.heap.size := (Array.getElem?_eq_some_iff.1 hb).1
      have eg : ∀ args w, (callFunc 63 args).run Tryd.prog w = .ok (.enter 63 args) w := enters_of Tryd.func63 (by kernel_rfl) rfl
      have hHK : HoldsK Rc.vs 3 w g 0 l.toArray := holdsK_of_own (by omega) Rc.vs_length hH
      have hc := AnyQ.slices_SortFunc Tryd.sortOrd 3 Tryd.isAgg104 Tryd.sizeOf104 Rc.vs Rc.vs_length (fun x v hv => by simp [Rc.vs] at hv; rcases hv with rfl | rfl | rfl <;> rfl) rcmp rcmp_swo 63 #[] g 0 cap l.toArray w eg (fun _ _ _ _ x y => compare_any x y _) hHK hgl (by simpa using hlen)
      change Calls Tryd.prog 76 _ _ _ at hc
      simp only [List.size_toArray] at hc
      refine hc.mono ?_
      rintro e w' ⟨he, d', n, os, hp, hs, hw⟩
      have hsz : d'.size = l.length := by simpa using hp.1
      obtain ⟨hi, hpm⟩ := incr_of_sorted (d := l.toArray) (by simpa using hp) (by simpa using hs) (by simpa using hn)
      refine ⟨he, d'.toList, by simpa using hsz, hi, by simpa using hpm, ?_, ?_⟩
      · have hk : HoldsK Rc.vs 3 w' g 0 d' := by
          rw [hw]
          unfold sortWorldK
          refine Go.Sort.holdsK_grow Rc.vs 3 _ _ _ _ _ ?_ (Go.Sort.holdsK_putRowK Rc.vs 3 _ _ _ l.toArray d' (Go.Sort.holdsK_ahead Rc.vs 3 _ _ _ _ _ hHK) (by simpa using hsz))
          simpa [Go.Sort.putRowK] using hgl
        have := rd_of_holdsK (l := d'.toList) Rc.vs_length (by simpa using hk) hbase (by simp [hsz]; omega)
        simpa [hsz] using this
      · rw [hw]
        exact grownBy_row id _

set_option maxRecDepth 100000 in
set_option maxHeartbeats 1000000 in
theorem keysR_any (r : Nat) (kv : List (Rc × Int)) (w : World) (h : MapIs Tryd.prog 104 ekR evI w r kv) (hlen : kv.length * 24 ≤ 140737488355328) :
    Calls Tryd.prog 65 #[.map (some r), .func (.func 63) #[] #[]] w fun e w' => ∃ A cap l, e = .returned (.slice A l.length cap) ∧ Incr l ∧ l.Perm (kv.map Prod.fst) ∧ Rd Rc.vs 3 w' w.heap.size A l.length l ∧ Below w.heap.size w w' := by
  obtain ⟨i0, hi, hz0, hz1, hz2⟩ := info_parts infoOrd
  go_enter Tryd.func65, Tryd.ntmps65
  go_wp2_with (first
    | (at_len; refine wpList_len_is rfl _ _ rfl Tryd.underlying62 rfl h ?_)
    | (at_make; refine wpList_make_own w rfl _ _ _ rfl w.heap.size 104 i0 _ 3 Tryd.underlying107 hi hz0 hz1 .i64 .i64 _ kv.length rfl rfl rfl (by rw [hz2]; omega) (by unfold maxLen; omega) (Nat.le_refl _) ?_; intro w1 hown1 hg1)
    | (at_range; refine wpList_range_is rfl _ _ rfl Tryd.underlying62 rfl (h.grown hg1 (by simp)) ?_; intro w2 hrg hg2 hsz2))
  have hown2 : Own Rc.vs 3 104 w.heap.size w2 (.slice (some ⟨w.heap.size, 0, none⟩) 0 kv.length) [] := World.ownsRow.kept hown1 hg2 (.inr (by simp [Value.ownBlock]))
  have hne : (Value.slice (some ⟨w.heap.size, 0, none⟩) 0 kv.length).ownBlock ≠ some w1.heap.size := fun e => by
    have := (World.ownsRow.lt hown1 w.heap.size rfl).2
    simp [Value.ownBlock] at e
    omega
  have hB2 : Below w.heap.size w w2 := ((Below.refl _ _).grown hg1 (Nat.le_refl _) (by simp)).grown hg2 hg1.size (by simp)
  have hrel0 : KeysRel w r w1.heap.size kv (.slice (some ⟨w.heap.size, 0, none⟩) 0 kv.length) [] w2 := ⟨hrg, hown2, hne, hB2, hg1.size⟩
  have hrl := h.lt
  generalize w1.heap.size = it at hrel0
  clear hown1 hown2 hne hB2 hrg hg1 hg2 hsz2 h
  go_frame
  go_loopw [5, 6] (fun v _ wr => ∃ done, KeysRel w r it kv v done wr) (fun v _ _ => kv.length - lenOf v)
  case atStart => exact ⟨[], hrel0⟩
  case round =>
    clear hrel0
    obtain ⟨done, hrg, hown, hne, hB, hit⟩ := hrel
    obtain ⟨A, cap, rfl⟩ := hown.shape
    have HB := Lib.hid hB
    clear hB
    go_wp2_with (first
      | (at_next; refine wpList_next_is rfl _ rfl ekR_inj rfl hrg (fun hp => ?_) (fun key v w3 hlt hmem hrg3 hg3 hsz3 hen => ?_); rotate_left 1; (change wpList _ _ _ _ (Act.put _ _ (Value.tuple #[.bool true, .agg #[.int .i64 key.at_, .int .i64 key.key, .int .i64 key.val], .int .i64 v])) _; change _ = Result.ok (Value.tuple #[.agg #[.int .i64 key.at_, .int .i64 key.key, .int .i64 key.val], .int .i64 v]) w3 at hen; have HSZ := Lib.hid hsz3; clear hsz3))
      | (at_builtin; go_loud (refine wpList_app1 Rc.vs 3 104 _ 24 infoOrd rfl (by decide) rfl _ _ _ rfl Tryd.underlying107 w.heap.size _ done rfl (((hown.grown hg3 (.inr hne)).alloc _).alloc _) key _ _ rfl rfl (newAt _ _ _ _ (by simp)) (by simp [Rc.vs, Value.oneCell']) (by omega) (by unfold maxLen; omega) (by have := HB.out.size; have := HSZ.out; simp; omega) (fun v4 w4 hown4 hg4 hloc => ?_))))
    · refine ⟨⟨done ++ [key], ?_, hown4, ?_, ?_, hit⟩, ?_⟩
      · exact ((hrg3.alloc _).alloc _).grown hg4 (fun e => by have := (hown.blk r e.symm).1; omega) (fun e => hne e.symm)
      · rcases hloc with e | e
        · rw [e]; exact hne
        · rw [e]
          intro e2
          have := hrg3.lt
          simp at e2
          omega
      · exact (((HB.out.grown hg3 HB.out.size (fun k hk => by cases hk; exact hit)).alloc (by have := HB.out.size; have := HSZ.out; omega) _).alloc (by have := HB.out.size; have := HSZ.out; simp; omega) _).grown hg4 (by have := HB.out.size; have := HSZ.out; simp; omega) (fun k hk => (hown.blk k hk).1)
      · obtain ⟨A4, cap4, rfl⟩ := hown4.shape
        simp [lenOf]
        omega
    · have hnd : done.Nodup := hrg.2.2.1
      have hcnt := hrg.count
      have hown' := hown
      have hc := sortR_any w.heap.size A cap done wr hown hnd (by omega)
      have HC := Lib.hid hc
      clear hrg hne hc hown
      go_wp2_with (go_at_call 76; refine HC.out.mono ?_; rintro e w5 ⟨rfl, l', hl', hi', hp', hr', hg'⟩)
      go_ret
      refine ⟨A, cap, l', by rw [hl']; rfl, hi', hp'.trans hp, by rw [hl']; exact hr', HB.out.grown hg' HB.out.size (fun k hk => (hown'.blk k hk).1)⟩
end Go.Proofs.Bg
end

section
/- The contract of isBag: it tells whether a list of items is a formed bag. -/
namespace Go.Proofs.Bg
open Go.RowKit Go.Sort

def itB (x : It) : Bool := recB x.r && (!(x.n == 0) && withinB x.n (-1000000) 1000000)
/-- Item k is formed, and stands behind the one before it. -/
def stepB (l : List It) (k : Nat) : Bool :=
  match l[k]? with
  | some x => itB x && (match k with | 0 => true | j + 1 => match l[j]? with | some y => decide (rcmp y.r x.r < 0) | none => true)
  | none => true
def bagTo (l : List It) (k : Nat) : Bool := (List.range k).all (stepB l)
def bagB (l : List It) : Bool := bagTo l l.length && decide (l.length ≤ 300)

theorem bagTo_succ (l : List It) (k : Nat) : bagTo l (k + 1) = (bagTo l k && stepB l k) := by simp [bagTo, List.range_succ]
theorem bagTo_false {l : List It} {k n : Nat} (h : stepB l k = false) (hk : k < n) : bagTo l n = false := by
  unfold bagTo
  rw [List.all_eq_false]
  exact ⟨k, List.mem_range.2 hk, by simp [h]⟩

theorem bagB_false {l : List It} {k n : Nat} (h : stepB l k = false) (hl : l.length = n) (hk : k < n) : bagB l = false := by
  unfold bagB
  rw [bagTo_false h (by omega)]
  rfl
theorem bagB_true {l : List It} {n : Nat} (h : bagTo l n = true) (hl : l.length = n) : bagB l = decide (n ≤ 300) := by
  subst hl
  unfold bagB
  rw [h]
  rfl

/-- What the loop holds: a plain word for the walk. -/
def BagRel (l : List It) (w : World) (k : Nat) (wr : World) : Prop := bagTo l k = true ∧ Below w.heap.size w wr

set_option maxRecDepth 100000 in
set_option maxHeartbeats 1000000 in
theorem isBag_any (A : Option Addr) (n cap : Nat) (l : List It) (w : World) (hR : Rd It.vs 4 w 0 A n l) :
    Calls Tryd.prog 29 #[.slice A n cap] w fun e w' => e = .returned (.bool (bagB l)) ∧ Below w.heap.size w w' := by
  have hn := hR.le
  have HR := Lib.hid hR
  clear hR
  go_enter Tryd.func29, Tryd.ntmps29
  go_wp2_with fail
  go_loopw [2, 3, 4, 7] (fun _ _ _ i wr => ∃ k : Nat, k ≤ n ∧ i = .int .i64 k ∧ BagRel l w k wr) (fun _ _ _ i _ => n - (intOf i).toNat)
  case atStart => exact ⟨0, by omega, rfl, rfl, Below.refl _ _⟩
  case round =>
    obtain ⟨k, hk, rfl, hto, hB⟩ := hrel
    have hRk := HR.out.below hB
    have HB := Lib.hid hB
    have HT := Lib.hid hto
    clear hB hto
    by_cases hlt : k < n
    · obtain ⟨b, off, x, rfl, _, hx, c0, c1, c2, c3⟩ := hRk.it_at hlt
      have HX := Lib.hid hx
      clear hx
      cases hr : recB x.r with
      | false =>
        have HRC := Lib.hid hr
        clear hr hRk
        go_wp2_with (go_at_call 62; refine (isRec_any x.r _).mono ?_; rintro e w' ⟨rfl, hb1⟩; rw [HRC.out]; have HB1 := Lib.hid hb1; clear hb1)
        go_ret
        refine ⟨ret_bool ?_, ?_⟩
        · have : stepB l k = false := by simp [stepB, HX.out, itB, HRC.out]
          rw [bagB_false this HR.out.len hlt]
        · exact below_box HB.out HB.out.size HB1.out
      | true =>
        have HRC := Lib.hid hr
        clear hr
        cases hz : (x.n == 0) with
        | true =>
          clear hRk
          go_wp2_with (go_at_call 62; refine (isRec_any x.r _).mono ?_; rintro e w' ⟨rfl, hb1⟩; rw [HRC.out]; obtain ⟨f0, f1, f2, f3⟩ := box4 hb1; have HB1 := Lib.hid hb1; clear hb1)
          go_ret
          refine ⟨ret_bool ?_, ?_⟩
          · have : stepB l k = false := by simp [stepB, HX.out, itB, HRC.out, hz]
            rw [bagB_false this HR.out.len hlt]
          · exact below_box HB.out HB.out.size HB1.out
        | false =>
          cases hm : withinB x.n (-1000000) 1000000 with
          | false =>
            have HM := Lib.hid hm
            clear hRk hm
            go_wp2_with (first | (go_at_call 62; refine (isRec_any x.r _).mono ?_; rintro e w' ⟨rfl, hb1⟩; rw [HRC.out]; obtain ⟨f0, f1, f2, f3⟩ := box4 hb1; have HB1 := Lib.hid hb1; clear hb1) | (go_at_call 61; refine (within_any _ _ _ _).mono ?_; rintro e w' ⟨rfl, rfl⟩; rw [HM.out]))
            go_ret
            refine ⟨ret_bool ?_, ?_⟩
            · have : stepB l k = false := by simp [stepB, HX.out, itB, HRC.out, HM.out]
              rw [bagB_false this HR.out.len hlt]
            · exact below_box HB.out HB.out.size HB1.out
          | true =>
            have HM := Lib.hid hm
            clear hm
            cases k with
            | zero =>
              clear hRk
              simp only [Nat.zero_mul, Nat.add_zero] at c0 c1 c2 c3
              go_wp2_with (first | (go_at_call 62; refine (isRec_any x.r _).mono ?_; rintro e w' ⟨rfl, hb1⟩; rw [HRC.out]; obtain ⟨f0, f1, f2, f3⟩ := box4 hb1; have HB1 := Lib.hid hb1; clear hb1) | (go_at_call 61; refine (within_any _ _ _ _).mono ?_; rintro e w' ⟨rfl, rfl⟩; rw [HM.out]))
              go_quiet (fail)
              go_wp2
              go_roundw
              case rel =>
                refine ⟨1, by omega, rfl, ?_, ?_⟩
                · rw [bagTo_succ]; simp [bagTo, stepB, HX.out, itB, HRC.out, HM.out, hz]
                · exact below_drewN (below_box HB.out HB.out.size HB1.out) _
              case measure => simp [intOf]; omega
            | succ j =>
              obtain ⟨b', off', y, hbb, _, hy, d0, d1, d2, d3⟩ := hRk.it_at (show j < n by omega)
              cases hbb
              have HY := Lib.hid hy
              clear hy hRk
              go_wp2_with (first | (go_at_call 62; refine (isRec_any x.r _).mono ?_; rintro e w' ⟨rfl, hb1⟩; rw [HRC.out]; obtain ⟨f0, f1, f2, f3⟩ := box4 hb1; have e0 := keep_cell hb1 d0; have e1 := keep_cell hb1 d1; have e2 := keep_cell hb1 d2; have HB1 := Lib.hid hb1; clear hb1) | (go_at_call 61; refine (within_any _ _ _ _).mono ?_; rintro e w' ⟨rfl, rfl⟩; rw [HM.out]))
              have hw : IntKind.i64.wrap (j : Int) = j := IntWalk.i64_in _ (by omega)
              have hw0 : (0 : Int) ≤ j := by omega
              have hw1 : (j : Int) < n := by omega
              have hw2 : (j : Int).toNat = j := by omega
              refine wp_region_still_tail 11 (by kernel_rfl) (by kernel_rfl) ?_
              simp only [List.take_succ_cons, List.take_zero, List.drop_succ_cons, List.drop_zero]
              repeat still_step
              refine wpStill_nil ?_
              change wpList _ _ _ _ _ (World.drew _)
              clear hw hw0 hw1 hw2
              by_cases hcmp : rcmp y.r x.r < 0
              · have hcd : decide (0 ≤ rcmp y.r x.r) = false := by simp; omega
                go_wp2_with (go_at_call 63; refine (compare_below y.r x.r _).mono ?_; rintro e w2 ⟨rfl, hb2⟩; have HB2 := Lib.hid hb2; clear hb2)
                go_roundw
                case rel =>
                  refine ⟨j + 1 + 1, by omega, by go_num, ?_, ?_⟩
                  · rw [bagTo_succ, HT.out]; simp [stepB, HX.out, HY.out, itB, HRC.out, HM.out, hz, hcmp]
                  · exact (below_box HB.out HB.out.size HB1.out).trans (HB2.out.drew_left.mono (by have := HB.out.size; have := HB1.out.size; simp at this ⊢; omega))
                case measure => simp [intOf]; omega
              · have hcd : decide (0 ≤ rcmp y.r x.r) = true := by simp; omega
                go_wp2_with (go_at_call 63; refine (compare_below y.r x.r _).mono ?_; rintro e w2 ⟨rfl, hb2⟩; have HB2 := Lib.hid hb2; clear hb2)
                go_ret
                refine ⟨ret_bool ?_, ?_⟩
                · have : stepB l (j + 1) = false := by simp [stepB, HX.out, HY.out, hcmp]
                  rw [bagB_false this HR.out.len hlt]
                · exact (below_box HB.out HB.out.size HB1.out).trans (HB2.out.drew_left.mono (by have := HB.out.size; have := HB1.out.size; simp at this ⊢; omega))
    · have hk' : k = n := by omega
      subst hk'
      clear hRk hlt
      go_wp2
      go_ret
      exact ⟨ret_bool (by rw [bagB_true HT.out HR.out.len]; simp; omega), HB.out⟩
end Go.Proofs.Bg
end

section
/- The contracts of sums.items and sums.bag. -/
namespace Go.Proofs.Bg
open Go.RowKit

theorem infoIt : (Tryd.prog.info? 33).map (fun i => (i.zero, i.size, i.bytes)) = some (some (.agg #[.int .i64 0, .int .i64 0, .int .i64 0, .int .i64 0]), 4, 32) := by kernel_rfl

/-- The items of some records, by a map of sums. -/
def itemsOf (kv : List (Rc × Int)) : List Rc → List It
  | [] => []
  | k :: r => if (getKV kv k).getD 0 = 0 then itemsOf kv r else ⟨k, (getKV kv k).getD 0⟩ :: itemsOf kv r
theorem itemsOf_append (kv : List (Rc × Int)) (a b : List Rc) : itemsOf kv (a ++ b) = itemsOf kv a ++ itemsOf kv b := by
  induction a with
  | nil => rfl
  | cons x r ih =>
    simp only [List.cons_append, itemsOf, ih]
    split <;> rfl
theorem itemsOf_length (kv : List (Rc × Int)) (a : List Rc) : (itemsOf kv a).length ≤ a.length := by
  induction a with
  | nil => simp [itemsOf]
  | cons x r ih => rw [itemsOf]; split <;> simp <;> omega
theorem itemsOf_take (kv : List (Rc × Int)) (ks : List Rc) (j : Nat) (x : Rc) (h : ks[j]? = some x) : itemsOf kv (ks.take (j + 1)) = if (getKV kv x).getD 0 = 0 then itemsOf kv (ks.take j) else itemsOf kv (ks.take j) ++ [⟨x, (getKV kv x).getD 0⟩] := by
  have e : ks.take (j + 1) = ks.take j ++ [x] := by rw [List.take_add_one, h]; rfl
  rw [e, itemsOf_append]
  simp only [itemsOf]
  split <;> simp

/-- What the loop holds. -/
def ItemsRel (w1 : World) (kv : List (Rc × Int)) (ks : List Rc) (j : Nat) (v : Value) (wr : World) : Prop :=
  Own It.vs 4 33 w1.heap.size wr v (itemsOf kv (ks.take j)) ∧ Below w1.heap.size w1 wr

set_option maxRecDepth 100000 in
set_option maxHeartbeats 1000000 in
theorem items_any (r : Nat) (kv : List (Rc × Int)) (w : World) (h : MapIs Tryd.prog 104 ekR evI w r kv) (hok : ∀ k ∈ kv.map Prod.fst, Rc.ok k) (hlen : kv.length * 32 ≤ 140737488355328) :
    Calls Tryd.prog 42 #[.map (some r)] w fun e w' => ∃ A cap ks, e = .returned (.slice A (itemsOf kv ks).length cap) ∧ Incr ks ∧ ks.Perm (kv.map Prod.fst) ∧ Rd It.vs 4 w' w.heap.size A (itemsOf kv ks).length (itemsOf kv ks) ∧ Below w.heap.size w w' := by
  have hk := keysR_any r kv w h (by omega)
  have HK := Lib.hid hk
  clear hk
  go_enter Tryd.func42, Tryd.ntmps42
  go_wp2_with (go_at_call 65; refine HK.out.mono ?_; rintro e w1 ⟨A, cap, ks, rfl, hinc, hperm, hrd, hB⟩)
  have hM1 := h.below hB
  have hn : ks.length = kv.length := by rw [hperm.length_eq]; simp
  have hnle := hrd.le
  generalize hnk : ks.length = n at *
  have HN := Lib.hid hnk
  have HB := Lib.hid hB
  have HR := Lib.hid hrd
  have HI := Lib.hid hinc
  have HP := Lib.hid hperm
  have hok' : ∀ (j : Nat) (x : Rc), ks[j]? = some x → x.ok := fun j x hx => hok x (HP.out.subset (List.mem_of_getElem? hx))
  have HO := Lib.hid hok'
  have HM := Lib.hid hM1
  have HL := Lib.hid hn
  clear hB hrd hinc hperm hnk hok hok' hM1 h hn
  go_loopw [3, 5, 6, 10] (fun v _ _ i wr => ∃ k : Nat, k ≤ n ∧ i = .int .i64 k ∧ ItemsRel w1 kv ks k v wr) (fun _ _ _ i _ => n - (intOf i).toNat)
  case atStart => exact ⟨0, by omega, rfl, Own.nil _ _ _ _ _, Below.refl _ _⟩
  case round =>
    obtain ⟨k, hk, rfl, hown, hBr⟩ := hrel
    obtain ⟨A3, cap3, rfl⟩ := hown.shape
    have hRk := HR.out.below hBr
    have hMk := HM.out.below hBr
    have HBr := Lib.hid hBr
    clear hBr
    by_cases hlt : k < n
    · obtain ⟨b, off, x, rfl, _, hx, c0, c1, c2⟩ := hRk.rc_at hlt
      obtain ⟨kl, hkl⟩ := keyR x (HO.out k x hx)
      have hlk := (hMk.alloc (.cells #[.int .i64 x.at_, .int .i64 x.key, .int .i64 x.val] 104)).lookup lawOrd ekR_inj Tryd.underlying63 zeroI hkl
      obtain ⟨old, hold⟩ : ∃ old, (getKV kv x).getD 0 = old := ⟨_, rfl⟩
      have hlk' : (Instr.lookup 63 (.map (some r)) (.agg #[.int .i64 x.at_, .int .i64 x.key, .int .i64 x.val]) false).run Tryd.prog (wr.alloc (.cells #[.int .i64 x.at_, .int .i64 x.key, .int .i64 x.val] 104)) = .ok (.int .i64 old) (wr.alloc (.cells #[.int .i64 x.at_, .int .i64 x.key, .int .i64 x.val] 104)) := by
        refine hlk.trans ?_
        rw [← hold]
        cases getKV kv x <;> rfl
      have ht := itemsOf_take kv ks k x hx
      have hll := itemsOf_length kv (ks.take k)
      have hll2 : (itemsOf kv (ks.take k)).length + 1 ≤ kv.length := by have := HL.out; have := HN.out; rw [List.length_take] at hll; omega
      have hs1 := HB.out.size
      have hs2 := HBr.out.size
      rw [hold] at ht
      generalize itemsOf kv (ks.take k) = L at *
      have HT := Lib.hid ht
      have HX := Lib.hid hx
      clear ht hx hlk hold hkl hRk hMk hll
      cases hz : (old != 0) with
      | false =>
        go_wp2_with fail
        refine ⟨⟨k + 1, by omega, by go_num, ?_, HBr.out.alloc hs2 _⟩, by simp [intOf]; omega⟩
        rw [HT.out, if_pos (by simpa using hz)]
        exact hown.alloc _
      | true =>
        go_wp2_with (at_builtin; refine wpList_app1 It.vs 4 33 _ 32 infoIt rfl (by decide) rfl _ _ _ rfl Tryd.underlying23 w1.heap.size _ L rfl ((hown.alloc _).alloc _) ⟨x, old⟩ _ _ rfl rfl (newAt _ _ _ _ (by simp)) (by simp [It.vs, Value.oneCell']) (by omega) (by unfold maxLen; omega) (by simp; omega) (fun v4 w4 hown4 hg4 _ => ?_))
        obtain ⟨A4, cap4, rfl⟩ := hown4.shape
        refine ⟨⟨k + 1, by omega, by go_num, ?_, ((HBr.out.alloc hs2 _).alloc (by simp; omega) _).grown hg4 (by simp; omega) (fun j hj => (hown.blk j hj).1)⟩, by simp [intOf]; omega⟩
        rw [HT.out, if_neg (by simpa using hz)]
        exact hown4
    · have hk' : k = n := by omega
      subst hk'
      clear hRk hMk hlt
      go_wp2_with fail
      go_ret
      have e1 : ks.take k = ks := List.take_of_length_le (by rw [HN.out]; exact Nat.le_refl _)
      rw [e1] at hown ⊢
      obtain ⟨A5, cap5, he5, hr5⟩ := hown.rd It.vs_length
      cases he5
      exact ⟨A3, cap3, ks, rfl, HI.out, HP.out, hr5.low HB.out.size, HB.out.trans (HBr.out.mono HB.out.size)⟩
end Go.Proofs.Bg
end

section
/- Plain law: the bag of items. No program, no memory. -/
namespace Go.Proofs.Bg

/-- How often a record is there in a list of items. -/
def sumN : List It → Rc → Int
  | [], _ => 0
  | x :: r, k => (if x.r = k then x.n else 0) + sumN r k
theorem sumN_append (a b : List It) (k : Rc) : sumN (a ++ b) k = sumN a k + sumN b k := by
  induction a with
  | nil => simp [sumN]
  | cons x r ih => simp only [List.cons_append, sumN, ih]; omega
theorem sumN_perm {a b : List It} (h : a.Perm b) (k : Rc) : sumN a k = sumN b k := by
  induction h with
  | nil => rfl
  | cons x _ ih => simp only [sumN, ih]
  | swap x y l => simp only [sumN]; omega
  | trans _ _ h1 h2 => exact h1.trans h2
theorem sumN_none {l : List It} {k : Rc} (h : k ∉ l.map (·.r)) : sumN l k = 0 := by
  induction l with
  | nil => rfl
  | cons x r ih =>
    simp only [List.map_cons, List.mem_cons, not_or] at h
    rw [sumN, if_neg (fun e => h.1 e.symm), ih h.2]
    rfl

def Bdd (B : Int) (l : List It) : Prop := ∀ x ∈ l, -B ≤ x.n ∧ x.n ≤ B
theorem sumN_bdd {B : Int} (hB : 0 ≤ B) {l : List It} (h : Bdd B l) (k : Rc) : -(B * l.length) ≤ sumN l k ∧ sumN l k ≤ B * l.length := by
  induction l with
  | nil => simp [sumN]
  | cons x r ih =>
    have h1 := h x List.mem_cons_self
    have h2 := ih (fun y hy => h y (List.mem_cons_of_mem _ hy))
    have e : B * ((x :: r).length : Int) = B * (r.length : Int) + B := by
      rw [List.length_cons, Int.natCast_add, Int.mul_add]
      simp
    rw [sumN, e]
    split <;> omega

theorem rcmp_total (x y : Rc) : rcmp x y < 0 ∨ x = y ∨ rcmp y x < 0 := by
  have : x = y ↔ x.at_ = y.at_ ∧ x.key = y.key ∧ x.val = y.val := by cases x; cases y; simp
  rw [this, rcmp_neg, rcmp_neg]
  omega
theorem rcmp_trans {x y z : Rc} (h1 : rcmp x y < 0) (h2 : rcmp y z < 0) : rcmp x z < 0 := by
  rw [rcmp_neg] at *
  omega
theorem rcmp_irr (x : Rc) : ¬ rcmp x x < 0 := by
  rw [rcmp_neg]
  omega

/-- m is the bag of the items l. -/
structure IsBag (m l : List It) : Prop where
  incr : Incr (m.map (·.r))
  not0 : ∀ x ∈ m, x.n ≠ 0
  sums : ∀ k, sumN m k = sumN l k

theorem incr_not_head {x : Rc} {r : List Rc} (h : Incr (x :: r)) : x ∉ r := fun hm => rcmp_irr x ((List.pairwise_cons.1 h).1 x hm)
theorem incr_tail {x : Rc} {r : List Rc} (h : Incr (x :: r)) : Incr r := (List.pairwise_cons.1 h).2

/-- There is one such bag. -/
theorem IsBag.uniq : ∀ {m m' l : List It}, IsBag m l → IsBag m' l → m = m'
  | [], [], _, _, _ => rfl
  | [], y :: r, l, h, h' => by
    have h1 := h.sums y.r
    rw [← h'.sums y.r] at h1
    rw [sumN, sumN, if_pos rfl, sumN_none (incr_not_head (by simpa using h'.incr))] at h1
    exact absurd (by omega) (h'.not0 y List.mem_cons_self)
  | x :: r, [], l, h, h' => by
    have h1 := h'.sums x.r
    rw [← h.sums x.r] at h1
    rw [sumN, sumN, if_pos rfl, sumN_none (incr_not_head (by simpa using h.incr))] at h1
    exact absurd (by omega) (h.not0 x List.mem_cons_self)
  | x :: r, y :: s, l, h, h' => by
    have hx : x.r ∉ r.map (·.r) := incr_not_head (by simpa using h.incr)
    have hy : y.r ∉ s.map (·.r) := incr_not_head (by simpa using h'.incr)
    have hxs : ∀ z ∈ r.map (·.r), rcmp x.r z < 0 := (List.pairwise_cons.1 (by simpa [Incr] using h.incr : (x.r :: r.map (·.r)).Pairwise fun a b => rcmp a b < 0)).1
    have hys : ∀ z ∈ s.map (·.r), rcmp y.r z < 0 := (List.pairwise_cons.1 (by simpa [Incr] using h'.incr : (y.r :: s.map (·.r)).Pairwise fun a b => rcmp a b < 0)).1
    have e1 : ∀ k, sumN (x :: r) k = sumN (y :: s) k := fun k => (h.sums k).trans (h'.sums k).symm
    have er : x.r = y.r := by
      rcases rcmp_total x.r y.r with hc | hc | hc
      · have hn : x.r ∉ (y :: s).map (·.r) := by
          simp only [List.map_cons, List.mem_cons, not_or]
          refine ⟨fun e => rcmp_irr y.r (by rw [e] at hc; exact hc), fun hm => rcmp_irr x.r (rcmp_trans hc (hys _ hm))⟩
        have := e1 x.r
        rw [sumN_none hn, sumN, if_pos rfl, sumN_none hx] at this
        exact absurd (by omega) (h.not0 x List.mem_cons_self)
      · exact hc
      · have hn : y.r ∉ (x :: r).map (·.r) := by
          simp only [List.map_cons, List.mem_cons, not_or]
          refine ⟨fun e => rcmp_irr x.r (by rw [e] at hc; exact hc), fun hm => rcmp_irr y.r (rcmp_trans hc (hxs _ hm))⟩
        have := e1 y.r
        rw [sumN_none hn, sumN, if_pos rfl, sumN_none hy] at this
        exact absurd (by omega) (h'.not0 y List.mem_cons_self)
    have en : x.n = y.n := by
      have := e1 x.r
      rw [sumN, sumN, if_pos rfl, if_pos er.symm, sumN_none hx, er, sumN_none hy] at this
      omega
    have exy : x = y := by cases x; cases y; simp at er en; simp [er, en]
    subst exy
    have : r = s := IsBag.uniq (l := r)
      ⟨incr_tail (by simpa using h.incr), fun z hz => h.not0 z (List.mem_cons_of_mem _ hz), fun _ => rfl⟩
      ⟨incr_tail (by simpa using h'.incr), fun z hz => h'.not0 z (List.mem_cons_of_mem _ hz), fun k => by
        have := e1 k
        simp only [sumN] at this
        omega⟩
    rw [this]

/-! ### the bag of items, computed -/
def insIt (x : It) : List It → List It
  | [] => [x]
  | y :: r => if rcmp x.r y.r < 0 then x :: y :: r else if x.r = y.r then ⟨y.r, y.n + x.n⟩ :: r else y :: insIt x r
def gather : List It → List It
  | [] => []
  | x :: r => insIt x (gather r)
def canon (l : List It) : List It := (gather l).filter (fun x => x.n != 0)

theorem insIt_sum (x : It) (m : List It) (k : Rc) : sumN (insIt x m) k = (if x.r = k then x.n else 0) + sumN m k := by
  induction m with
  | nil => rfl
  | cons y r ih =>
    rw [insIt]
    split
    · rfl
    · split
      · rename_i h
        simp only [sumN, h]
        split <;> omega
      · simp only [sumN, ih]
        omega
theorem insIt_mem (x : It) (m : List It) : ∀ k ∈ (insIt x m).map (·.r), k = x.r ∨ k ∈ m.map (·.r) := by
  induction m with
  | nil => intro k hk; simp [insIt] at hk; exact .inl hk
  | cons y r ih =>
    intro k hk
    rw [insIt] at hk
    split at hk
    · simp at hk ⊢; rcases hk with h | h | h
      · exact .inl h
      · exact .inr (.inl h)
      · exact .inr (.inr h)
    · split at hk
      · rename_i h
        simp at hk ⊢
        rcases hk with h | h
        · exact .inr (.inl h)
        · exact .inr (.inr h)
      · simp only [List.map_cons, List.mem_cons] at hk ⊢
        rcases hk with h | h
        · exact .inr (.inl h)
        · rcases ih k h with h | h
          · exact .inl h
          · exact .inr (.inr h)
theorem insIt_incr (x : It) (m : List It) (h : Incr (m.map (·.r))) : Incr ((insIt x m).map (·.r)) := by
  induction m with
  | nil => simp [insIt, Incr]
  | cons y r ih =>
    have h' : (y.r :: r.map (·.r)).Pairwise fun a b => rcmp a b < 0 := by simpa [Incr] using h
    obtain ⟨h1, h2⟩ := List.pairwise_cons.1 h'
    rw [insIt]
    split
    · rename_i hc
      show ((x.r :: y.r :: r.map (·.r))).Pairwise _
      refine List.pairwise_cons.2 ⟨fun z hz => ?_, h'⟩
      rcases List.mem_cons.1 hz with e | hm
      · rw [e]; exact hc
      · exact rcmp_trans hc (h1 z hm)
    · split
      · exact h'
      · rename_i hc hne
        show ((y.r :: (insIt x r).map (·.r))).Pairwise _
        refine List.pairwise_cons.2 ⟨fun z hz => ?_, ih h2⟩
        rcases insIt_mem x r z hz with e | hm
        · rw [e]
          rcases rcmp_total x.r y.r with h | h | h
          · exact absurd h hc
          · exact absurd h hne
          · exact h
        · exact h1 z hm
theorem gather_sum (l : List It) (k : Rc) : sumN (gather l) k = sumN l k := by
  induction l with
  | nil => rfl
  | cons x r ih => rw [gather, insIt_sum, ih, sumN]
theorem gather_incr (l : List It) : Incr ((gather l).map (·.r)) := by
  induction l with
  | nil => simp [gather, Incr]
  | cons x r ih => exact insIt_incr x _ ih
theorem filter_sum (l : List It) (k : Rc) : sumN (l.filter (fun x => x.n != 0)) k = sumN l k := by
  induction l with
  | nil => rfl
  | cons x r ih =>
    rw [List.filter_cons]
    split
    · rw [sumN, sumN, ih]
    · rename_i h
      have : x.n = 0 := by simpa using h
      rw [ih, sumN, this]
      split <;> omega
theorem incr_filter {l : List It} (p : It → Bool) (h : Incr (l.map (·.r))) : Incr ((l.filter p).map (·.r)) :=
  List.Pairwise.sublist (List.Sublist.map _ List.filter_sublist) h
theorem canon_is (l : List It) : IsBag (canon l) l :=
  ⟨incr_filter _ (gather_incr l), fun x hx => by simpa using (List.mem_filter.1 hx).2, fun k => by rw [canon, filter_sum, gather_sum]⟩
theorem IsBag.eq {m l : List It} (h : IsBag m l) : m = canon l := h.uniq (canon_is l)
theorem canon_eq {l l' : List It} (h : ∀ k, sumN l k = sumN l' k) : canon l = canon l' :=
  IsBag.uniq (l := l') ⟨(canon_is l).incr, (canon_is l).not0, fun k => ((canon_is l).sums k).trans (h k)⟩ (canon_is l')
end Go.Proofs.Bg
end

section
/- Sums of items: what the map of sums holds; the contracts of put, items and bag in these words. -/
namespace Go.Proofs.Bg
open Go.RowKit

/-- Block r of w is the map of the sums of the items L. -/
def SumIs (w : World) (r : Nat) (L : List It) : Prop :=
  ∃ kv, MapIs Tryd.prog 104 ekR evI w r kv ∧ (∀ k, k ∈ kv.map Prod.fst ↔ k ∈ L.map (·.r)) ∧ (∀ k, (getKV kv k).getD 0 = sumN L k) ∧ kv.length ≤ L.length

theorem SumIs.made (w : World) : SumIs (w.alloc (.map #[] 0)) w.heap.size [] := ⟨[], MapIs.made w _ _ _ _, by simp, fun _ => rfl, Nat.le_refl _⟩
theorem SumIs.lt {w : World} {r : Nat} {L : List It} (h : SumIs w r L) : r < w.heap.size := by
  obtain ⟨kv, hm, _⟩ := h
  exact hm.lt
theorem SumIs.below {w w' : World} {r : Nat} {L : List It} (h : SumIs w r L) (hb : Below w.heap.size w w') : SumIs w' r L := by
  obtain ⟨kv, hm, h1⟩ := h
  exact ⟨kv, hm.below hb, h1⟩
theorem SumIs.alloc {w : World} {r : Nat} {L : List It} (h : SumIs w r L) (o : Obj) : SumIs (w.alloc o) r L := by
  obtain ⟨kv, hm, h1⟩ := h
  exact ⟨kv, hm.alloc o, h1⟩

theorem put_sum (r : Nat) (L : List It) (x : It) (w : World) (h : SumIs w r L) (hx : x.r.ok) (hb : I64 (sumN L x.r + x.n)) :
    Calls Tryd.prog 32 #[.map (some r), .agg #[.int .i64 x.r.at_, .int .i64 x.r.key, .int .i64 x.r.val], .int .i64 x.n] w fun e w' => e = .returned (.tuple #[]) ∧ SumIs w' r (L ++ [x]) ∧ w.grownBy w' (some r) := by
  obtain ⟨kv, hm, hk, hs, hl⟩ := h
  refine (put_any r kv x.r x.n (sumN L x.r) w hm hx (hs x.r) hb).mono fun e w' ⟨he, hm', hg⟩ => ⟨he, ⟨_, hm', fun k => ?_, fun k => ?_, ?_⟩, hg⟩
  · rw [keys_putKV]
    simp only [List.map_append, List.map_cons, List.map_nil, List.mem_append, List.mem_singleton, ← hk k]
    split
    · rename_i hc
      constructor
      · exact .inl
      · rintro (h | h)
        · exact h
        · rw [h]; exact hc
    · simp
  · rw [getKV_put, sumN_append]
    by_cases e : x.r = k
    · subst e
      simp [sumN]
    · simp [sumN, e, hs k]
  · have := length_putKV kv x.r (sumN L x.r + x.n)
    simp
    omega

theorem itemsOf_sum (kv : List (Rc × Int)) (ks : List Rc) (hn : ks.Nodup) (k : Rc) : sumN (itemsOf kv ks) k = if k ∈ ks then (getKV kv k).getD 0 else 0 := by
  induction ks with
  | nil => rfl
  | cons x r ih =>
    obtain ⟨h1, h2⟩ := List.nodup_cons.1 hn
    rw [itemsOf]
    by_cases e : x = k
    · subst e
      split
      · rename_i hz
        rw [ih h2, if_neg h1, if_pos List.mem_cons_self, hz]
      · rw [sumN, if_pos rfl, ih h2, if_neg h1, if_pos List.mem_cons_self]
        exact Int.add_zero _
    · have e' : ¬ k = x := fun h => e h.symm
      split
      · rw [ih h2]; simp [e']
      · rw [sumN, if_neg e, ih h2]; simp [e']
theorem itemsOf_sub (kv : List (Rc × Int)) (ks : List Rc) : List.Sublist ((itemsOf kv ks).map (·.r)) ks := by
  induction ks with
  | nil => exact List.Sublist.refl _
  | cons x r ih =>
    rw [itemsOf]
    split
    · exact ih.cons _
    · exact ih.cons_cons _
theorem itemsOf_not0 (kv : List (Rc × Int)) (ks : List Rc) : ∀ x ∈ itemsOf kv ks, x.n ≠ 0 := by
  induction ks with
  | nil => intro x hx; cases hx
  | cons y r ih =>
    intro x hx
    rw [itemsOf] at hx
    split at hx
    · exact ih x hx
    · rename_i h
      rcases List.mem_cons.1 hx with e | hm
      · subst e; exact h
      · exact ih x hm

def OkAll (L : List It) : Prop := ∀ x ∈ L, x.r.ok

theorem items_sum (r : Nat) (L : List It) (w : World) (h : SumIs w r L) (hok : OkAll L) (hlen : L.length * 32 ≤ 140737488355328) :
    Calls Tryd.prog 42 #[.map (some r)] w fun e w' => ∃ A cap, e = .returned (.slice A (canon L).length cap) ∧ Rd It.vs 4 w' w.heap.size A (canon L).length (canon L) ∧ Below w.heap.size w w' := by
  obtain ⟨kv, hm, hk, hs, hl⟩ := h
  refine (items_any r kv w hm (fun k hkm => ?_) (by omega)).mono ?_
  · obtain ⟨x, hx, rfl⟩ := List.mem_map.1 ((hk k).1 hkm)
    exact hok x hx
  · rintro e w' ⟨A, cap, ks, rfl, hi, hp, hr, hb⟩
    have hn : ks.Nodup := hp.nodup_iff.2 hm.nodup
    have he : itemsOf kv ks = canon L := IsBag.eq ⟨List.Pairwise.sublist (itemsOf_sub kv ks) hi, itemsOf_not0 kv ks, fun k => by
      rw [itemsOf_sum kv ks hn k, ← hs k]
      split
      · rfl
      · rename_i hc
        have : k ∉ kv.map Prod.fst := fun h => hc (hp.mem_iff.2 h)
        rw [getKV_not this]
        rfl⟩
    rw [he] at hr ⊢
    exact ⟨A, cap, rfl, hr, hb⟩

/-- What a call hands back: a bag, or nothing with an error. -/
def bagOr (L : List It) : List It := if bagB (canon L) then canon L else []
def errOr (L : List It) : Int := if bagB (canon L) then 0 else 3

theorem bag_sum (r : Nat) (L : List It) (w : World) (h : SumIs w r L) (hok : OkAll L) (hlen : L.length * 32 ≤ 140737488355328) :
    Calls Tryd.prog 31 #[.map (some r)] w fun e w' => ∃ A cap, e = .returned (.tuple #[.slice A (bagOr L).length cap, .int .i64 (errOr L)]) ∧ Rd It.vs 4 w' w.heap.size A (bagOr L).length (bagOr L) ∧ Below w.heap.size w w' := by
  have hi := items_sum r L w h hok hlen
  have HI := Lib.hid hi
  clear hi
  cases hg : bagB (canon L) with
  | true =>
    have e1 : bagOr L = canon L := by simp [bagOr, hg]
    have e2 : errOr L = 0 := by simp [errOr, hg]
    rw [e1, e2]
    have HG := Lib.hid hg
    clear hg e1 e2
    generalize canon L = m at HI HG ⊢
    go_enter Tryd.func31, Tryd.ntmps31
    go_wp2_with (go_at_call 42; refine HI.out.mono ?_; rintro e w1 ⟨A, cap, rfl, hr, hb⟩)
    have hq := isBag_any A m.length cap m w1 (hr.low (Nat.zero_le _))
    have HQ := Lib.hid hq
    have HR := Lib.hid hr
    have HB := Lib.hid hb
    clear hq hr hb HI
    go_wp2_with (go_at_call 29; refine HQ.out.mono ?_; rintro e w2 ⟨rfl, hb2⟩; rw [HG.out]; have HB2 := Lib.hid hb2; clear hb2)
    go_ret2
    exact ⟨A, cap, rfl, HR.out.below HB2.out, HB.out.trans (HB2.out.mono HB.out.size)⟩
  | false =>
    have e1 : bagOr L = [] := by simp [bagOr, hg]
    have e2 : errOr L = 3 := by simp [errOr, hg]
    rw [e1, e2]
    have HG := Lib.hid hg
    clear hg e1 e2
    generalize canon L = m at HI HG ⊢
    go_enter Tryd.func31, Tryd.ntmps31
    go_wp2_with (go_at_call 42; refine HI.out.mono ?_; rintro e w1 ⟨A, cap, rfl, hr, hb⟩)
    have hq := isBag_any A m.length cap m w1 (hr.low (Nat.zero_le _))
    have HQ := Lib.hid hq
    have HR := Lib.hid hr
    have HB := Lib.hid hb
    clear hq hr hb HI
    go_wp2_with (go_at_call 29; refine HQ.out.mono ?_; rintro e w2 ⟨rfl, hb2⟩; rw [HG.out]; have HB2 := Lib.hid hb2; clear hb2)
    go_ret2
    exact ⟨none, 0, rfl, Rd.nil _ _ _, HB.out.trans (HB2.out.mono HB.out.size)⟩

end Go.Proofs.Bg
end

section
/- The contracts of added and contrary. -/
namespace Go.Proofs.Bg
open Go.RowKit

/-- A bag that is handed over: its slice, what it reads as. -/
structure BA where
  A : Option Addr
  n : Nat
  cap : Nat
  l : List It
def BA.v (b : BA) : Value := .slice b.A b.n b.cap
/-- A row of bags. -/
def RdBs (w : World) (g : Nat) (bs : List BA) : Prop := ∀ i b, bs[i]? = some b → w.cell? ⟨g, i, none⟩ = some (.slice b.A b.n b.cap) ∧ Rd It.vs 4 w 0 b.A b.n b.l
theorem RdBs.below {w w' : World} {g : Nat} {bs : List BA} (h : RdBs w g bs) (hb : Below w.heap.size w w') : RdBs w' g bs := fun i b hi => by
  obtain ⟨h1, h2⟩ := h i b hi
  exact ⟨(hb.cell (World.block_lt_of_cell? w _ h1)).trans h1, h2.below hb⟩
def allIt (bs : List BA) : List It := bs.flatMap (·.l)
theorem allIt_take (bs : List BA) (k : Nat) (b : BA) (h : bs[k]? = some b) : allIt (bs.take (k + 1)) = allIt (bs.take k) ++ b.l := by
  unfold allIt
  rw [List.take_add_one, h]
  simp
theorem allIt_prefix (bs : List BA) (k : Nat) (b : BA) (h : bs[k]? = some b) (j : Nat) : ∃ rest, allIt bs = (allIt (bs.take k) ++ b.l.take j) ++ rest := by
  have e1 : bs = bs.take k ++ bs.drop k := (List.take_append_drop k bs).symm
  have e2 : bs.drop k = b :: bs.drop (k + 1) := by
    have hk : k < bs.length := (List.getElem?_eq_some_iff.1 h).1
    rw [List.drop_eq_getElem_cons hk, (List.getElem?_eq_some_iff.1 h).2]
  refine ⟨b.l.drop j ++ allIt (bs.drop (k + 1)), ?_⟩
  have e3 : allIt bs = allIt (bs.take k) ++ (b.l ++ allIt (bs.drop (k + 1))) := by
    rw [show allIt bs = allIt (bs.take k ++ b :: bs.drop (k + 1)) by rw [← e2, List.take_append_drop]]
    simp [allIt]
  rw [e3, List.append_assoc, ← List.append_assoc (b.l.take j), List.take_append_drop]

/-- Sums that fit: each item is formed enough, and so is every sum of some of them. -/
structure Fits (L : List It) : Prop where
  ok : OkAll L
  ex : ∃ B : Int, 0 ≤ B ∧ Bdd B L ∧ B * L.length ≤ 9223372036854775807
theorem Fits.put {L : List It} (h : Fits L) {P : List It} {x : It} {rest : List It} (e : L = (P ++ [x]) ++ rest) : x.r.ok ∧ I64 (sumN P x.r + x.n) := by
  obtain ⟨hok, B, hB, hbd, hm⟩ := h
  have hx : x ∈ L := by rw [e]; simp
  have hb' : Bdd B (P ++ [x]) := fun y hy => hbd y (by rw [e]; exact List.mem_append_left _ hy)
  have h1 := sumN_bdd hB hb' x.r
  have e2 : sumN (P ++ [x]) x.r = sumN P x.r + x.n := by rw [sumN_append]; simp [sumN]
  rw [e2] at h1
  have hle : B * ((P ++ [x]).length : Int) ≤ B * (L.length : Int) := Int.mul_le_mul_of_nonneg_left (by rw [e]; simp; omega) hB
  exact ⟨hok x hx, by unfold I64; omega⟩

def AddRel (w : World) (L : List It) (wr : World) : Prop := SumIs wr w.heap.size L ∧ Below w.heap.size w wr

set_option maxRecDepth 100000 in
set_option maxHeartbeats 1000000 in
theorem added_any (g cap nb : Nat) (bs : List BA) (w : World) (hnb : bs.length = nb) (hR : RdBs w g bs) (hf : Fits (allIt bs)) (hnle : nb ≤ 9223372036854775807) :
    Calls Tryd.prog 30 #[.slice (some ⟨g, 0, none⟩) nb cap] w fun e w' => e = .returned (.map (some w.heap.size)) ∧ SumIs w' w.heap.size (allIt bs) ∧ Below w.heap.size w w' := by
  have HR := Lib.hid hR
  have HF := Lib.hid hf
  have HN := Lib.hid hnb
  clear hR hf hnb
  have hmm := @run_makeMap Tryd.prog
  go_enter Tryd.func30, Tryd.ntmps30
  go_wp2_with fail
  go_loopw [5, 7, 11, 15, 16, 17] (fun _ _ i _ _ _ wr => ∃ k : Nat, k ≤ nb ∧ i = .int .i64 k ∧ AddRel w (allIt (bs.take k)) wr) (fun _ _ i _ _ _ _ => nb - (intOf i).toNat)
  case atStart => exact ⟨0, by omega, rfl, SumIs.made w, (Below.refl _ _).alloc (Nat.le_refl _) _⟩
  case round =>
    obtain ⟨k, hk, rfl, hS, hB⟩ := hrel
    have HS := Lib.hid hS
    have HB := Lib.hid hB
    have hRk := HR.out.below hB
    clear hS hB hmm
    by_cases hlt : k < nb
    · have hk' : k < bs.length := by rw [HN.out]; exact hlt
      obtain ⟨b, hb⟩ : ∃ b, bs[k]? = some b := ⟨_, List.getElem?_eq_getElem hk'⟩
      obtain ⟨c0, hrd⟩ := hRk k b hb
      obtain ⟨bA, bn, bcap, bl⟩ := b
      have HRd := Lib.hid hrd
      have hble := hrd.le
      have HBk := Lib.hid hb
      clear hRk hb hrd
      go_wp2_with fail
      obtain ⟨wo, rfl⟩ : ∃ wo : World, wo = wr := ⟨_, rfl⟩
      go_loopw [7, 17] (fun _ i wr => ∃ j : Nat, j ≤ bn ∧ i = .int .i64 j ∧ AddRel w (allIt (bs.take k) ++ bl.take j) wr) (fun _ i _ => bn - (intOf i).toNat)
      case atStart => exact ⟨0, by omega, rfl, by simpa using HS.out, HB.out⟩
      case round =>
        obtain ⟨j, hj, rfl, hS1, hB1⟩ := hrel
        have HRw : Hid (Rd It.vs 4 wr 0 bA bn bl) := ((HR.out.below hB1) k _ HBk.out).2
        have HS1 := Lib.hid hS1
        have HB1 := Lib.hid hB1
        clear hS1 hB1
        by_cases hjl : j < bn
        · obtain ⟨b, off, x, rfl, _, hx, c0, c1, c2, c3⟩ := HRw.out.it_at hjl
          obtain ⟨rest, hrest⟩ := allIt_prefix bs k _ HBk.out (j + 1)
          have ht : bl.take (j + 1) = bl.take j ++ [x] := by rw [List.take_add_one, hx]; rfl
          have hput := HF.out.put (P := allIt (bs.take k) ++ bl.take j) (x := x) (rest := rest) (by rw [hrest]; simp [ht])
          have HP := Lib.hid (put_sum w.heap.size _ x _ (HS1.out.alloc (.cells #[.int .i64 x.r.at_, .int .i64 x.r.key, .int .i64 x.r.val, .int .i64 x.n] 33)) hput.1 hput.2)
          have HT := Lib.hid ht
          clear hx hrest ht hput
          go_wp2_with (go_at_call 32; refine HP.out.mono ?_; rintro e w2 ⟨rfl, hs2, hg2⟩)
          refine ⟨⟨j + 1, by omega, by go_num, ?_, (HB1.out.alloc HB1.out.size _).grown hg2 (by have := HB1.out.size; simp; omega) (fun q hq => by cases hq; exact Nat.le_refl _)⟩, by simp [intOf]; omega⟩
          rw [HT.out, ← List.append_assoc]
          exact hs2
        · have hj' : j = bn := by omega
          subst hj'
          clear HRw hjl
          go_wp2_with fail
          refine ⟨⟨k + 1, by omega, by go_num, ?_, HB1.out⟩, by simp [intOf]; omega⟩
          have e := HS1.out
          have hl := (HR.out k _ HBk.out).2.len
          rw [List.take_of_length_le (l := bl) (by simp only at hl; omega)] at e
          rw [allIt_take bs k _ HBk.out]
          exact e
    · have hk' : k = nb := by omega
      subst hk'
      clear hRk hlt
      go_wp2_with fail
      go_ret
      refine ⟨rfl, ?_, HB.out⟩
      have e := HS.out
      rw [List.take_of_length_le (by rw [HN.out]; exact Nat.le_refl _)] at e
      exact e

def negIt (x : It) : It := ⟨x.r, -x.n⟩
def NegRel (w : World) (l : List It) (j : Nat) (v : Value) (wr : World) : Prop := Own It.vs 4 33 w.heap.size wr v ((l.take j).map negIt) ∧ Below w.heap.size w wr

set_option maxRecDepth 100000 in
set_option maxHeartbeats 1000000 in
theorem contrary_any (A : Option Addr) (n cap : Nat) (l : List It) (w : World) (hR : Rd It.vs 4 w 0 A n l) (hb : ∀ x ∈ l, -1000000000000000 ≤ x.n ∧ x.n ≤ 1000000000000000) (hlen : n * 32 ≤ 140737488355328) :
    Calls Tryd.prog 40 #[.slice A n cap] w fun e w' => ∃ A' cap', e = .returned (.slice A' n cap') ∧ Rd It.vs 4 w' w.heap.size A' n (l.map negIt) ∧ Below w.heap.size w w' := by
  have HR := Lib.hid hR
  have HBD := Lib.hid hb
  clear hR hb
  go_enter Tryd.func40, Tryd.ntmps40
  go_wp2_with fail
  go_loopw [3, 5, 8] (fun v _ i wr => ∃ k : Nat, k ≤ n ∧ i = .int .i64 k ∧ NegRel w l k v wr) (fun _ _ i _ => n - (intOf i).toNat)
  case atStart => exact ⟨0, by omega, rfl, Own.nil _ _ _ _ _, Below.refl _ _⟩
  case round =>
    obtain ⟨k, hk, rfl, hown, hB⟩ := hrel
    have hRk := HR.out.below hB
    have HB := Lib.hid hB
    have hsz := hB.size
    clear hB
    by_cases hlt : k < n
    · obtain ⟨b, off, x, rfl, _, hx, c0, c1, c2, c3⟩ := hRk.it_at hlt
      have ht : (l.take (k + 1)).map negIt = (l.take k).map negIt ++ [⟨x.r, -x.n⟩] := by rw [List.take_add_one, hx]; simp [negIt]
      obtain ⟨hx1, hx2⟩ := HBD.out x (List.mem_of_getElem? hx)
      have hll : ((l.take k).map negIt).length = k := by rw [List.length_map, List.length_take, HR.out.len]; omega
      generalize (l.take k).map negIt = L at *
      obtain ⟨A3, cap3, rfl⟩ := hown.shape
      have HT := Lib.hid ht
      have HX := Lib.hid hx
      have hw : IntKind.i64.wrap (-x.n) = -x.n := IntWalk.i64_in _ (by omega)
      clear ht hx hRk
      go_wp2_with (at_builtin; refine wpList_app1 It.vs 4 33 _ 32 infoIt rfl (by decide) rfl _ _ _ rfl Tryd.underlying23 w.heap.size _ L rfl ((hown.alloc _).alloc _) ⟨x.r, -x.n⟩ _ _ rfl rfl (newAt _ _ _ _ (by simp)) (by simp [It.vs, Value.oneCell']) (by omega) (by unfold maxLen; omega) (by simp; omega) (fun v4 w4 hown4 hg4 _ => ?_))
      obtain ⟨A4, cap4, rfl⟩ := hown4.shape
      refine ⟨⟨k + 1, by omega, by go_num, ?_, ((HB.out.alloc hsz _).alloc (by simp; omega) _).grown hg4 (by simp; omega) (fun j hj => (hown.blk j hj).1)⟩, by simp [intOf]; omega⟩
      rw [HT.out]
      exact hown4
    · have hk' : k = n := by omega
      subst hk'
      clear hRk hlt
      have hl : (l.take k).map negIt = l.map negIt := by rw [List.take_of_length_le (by rw [HR.out.len]; exact Nat.le_refl _)]
      rw [hl] at hown
      obtain ⟨A5, cap5, he5, hr5⟩ := hown.rd It.vs_length
      have hlen' : (l.map negIt).length = k := by rw [List.length_map, HR.out.len]
      rw [hlen'] at hr5 he5
      subst he5
      clear hl hlen'
      go_wp2_with fail
      go_ret
      exact ⟨A5, cap5, rfl, hr5, HB.out⟩
end Go.Proofs.Bg
end

section
/- The contracts of Add, Neg and New. -/
namespace Go.Proofs.Bg
open Go.RowKit

theorem itB_spec (x : It) : itB x = true ↔ (0 ≤ x.r.at_ ∧ x.r.at_ ≤ 200 ∧ -1000000000 ≤ x.r.key ∧ x.r.key ≤ 1000000000 ∧ -1000000000 ≤ x.r.val ∧ x.r.val ≤ 1000000000) ∧ x.n ≠ 0 ∧ -1000000 ≤ x.n ∧ x.n ≤ 1000000 := by
  simp [itB, recB, withinB]
  omega
theorem bagTo_spec (l : List It) : ∀ k, k ≤ l.length → (bagTo l k = true ↔ (∀ x ∈ l.take k, itB x = true) ∧ Incr ((l.take k).map (·.r)))
  | 0, _ => by simp [bagTo, Incr]
  | k + 1, h => by
    have hk : k < l.length := h
    have hx : l[k]? = some l[k] := List.getElem?_eq_getElem hk
    have ht : l.take (k + 1) = l.take k ++ [l[k]] := by rw [List.take_add_one, hx]; rfl
    rw [bagTo_succ, Bool.and_eq_true, bagTo_spec l k (by omega), ht]
    have hinc : Incr ((l.take k ++ [l[k]]).map (·.r)) ↔ Incr ((l.take k).map (·.r)) ∧ ∀ z ∈ (l.take k).map (·.r), rcmp z l[k].r < 0 := by
      unfold Incr
      rw [List.map_append, List.pairwise_append]
      simp
    rw [hinc]
    have hstep : stepB l k = true ↔ itB l[k] = true ∧ ∀ j y, k = j + 1 → l[j]? = some y → rcmp y.r l[k].r < 0 := by
      unfold stepB
      rw [hx]
      cases k with
      | zero => simp
      | succ j =>
        have hj : l[j]? = some l[j] := List.getElem?_eq_getElem (by omega)
        simp only [hj, Bool.and_eq_true, decide_eq_true_eq]
        constructor
        · rintro ⟨h1, h2⟩
          refine ⟨h1, fun j' y e hy => ?_⟩
          cases e
          rw [hj] at hy
          cases hy
          exact h2
        · rintro ⟨h1, h2⟩
          exact ⟨h1, h2 j _ rfl hj⟩
    rw [hstep]
    constructor
    · rintro ⟨⟨h1, h2⟩, h3, h4⟩
      refine ⟨fun x hx => ?_, h2, ?_⟩
      · rcases List.mem_append.1 hx with hm | hm
        · exact h1 x hm
        · simp at hm; rw [hm]; exact h3
      · cases k with
        | zero => simp
        | succ j =>
          have hj : l[j]? = some l[j] := List.getElem?_eq_getElem (by omega)
          have hlast := h4 j _ rfl hj
          have ht2 : l.take (j + 1) = l.take j ++ [l[j]] := by rw [List.take_add_one, hj]; rfl
          rw [ht2] at h2 ⊢
          unfold Incr at h2
          rw [List.map_append, List.pairwise_append] at h2
          intro z hz
          rw [List.map_append] at hz
          rcases List.mem_append.1 hz with hm | hm
          · exact rcmp_trans (h2.2.2 z hm l[j].r (by simp)) hlast
          · simp at hm; rw [hm]; exact hlast
    · rintro ⟨h1, h2, h3⟩
      refine ⟨⟨fun x hx => h1 x (List.mem_append_left _ hx), h2⟩, h1 _ (List.mem_append_right _ (by simp)), fun j y e hy => ?_⟩
      cases e
      exact h3 _ (List.mem_map.2 ⟨y, List.mem_of_getElem? (i := j) (by rw [List.getElem?_take_of_lt (by omega)]; exact hy), rfl⟩)
theorem bagB_spec (l : List It) : bagB l = true ↔ (∀ x ∈ l, itB x = true) ∧ Incr (l.map (·.r)) ∧ l.length ≤ 300 := by
  unfold bagB
  rw [Bool.and_eq_true, bagTo_spec l _ (Nat.le_refl _), List.take_length]
  simp [and_assoc]

theorem itB_ok {x : It} (h : itB x = true) : x.r.ok := by
  rw [itB_spec] at h
  unfold Rc.ok I64
  omega
theorem fits_two {a b : List It} (ha : bagB a = true) (hb : bagB b = true) : Fits (a ++ b) := by
  rw [bagB_spec] at ha hb
  have h : ∀ x ∈ a ++ b, itB x = true := fun x hx => (List.mem_append.1 hx).elim (ha.1 x) (hb.1 x)
  refine ⟨fun x hx => itB_ok (h x hx), 1000000, by omega, fun x hx => ?_, ?_⟩
  · have := (itB_spec x).1 (h x hx); omega
  · rw [List.length_append]; omega

theorem bchain {w w1 w2 : World} (h : Below w.heap.size w w1) (k : Below w1.heap.size w1 w2) : Below w.heap.size w w2 := h.trans (k.mono h.size)

/-- What a call hands back: a bag in new memory, and an error. -/
def RetBag (w : World) (p : List It × Int) (e : Ending) (w' : World) : Prop :=
  ∃ A cap, e = .returned (.tuple #[.slice A p.1.length cap, .int .i64 p.2]) ∧ Rd It.vs 4 w' w.heap.size A p.1.length p.1 ∧ Below w.heap.size w w'

def addR (a b : List It) : List It × Int := if bagB a && bagB b then (bagOr (a ++ b), errOr (a ++ b)) else ([], 2)
def negR (a : List It) : List It × Int := if bagB a then (a.map negIt, 0) else ([], 2)

theorem new_block (w : World) (c : Array Value) (T : TypeId) : (w.alloc (.cells c T)).heap[w.heap.size]? = some (.cells c T) := by
  show (w.heap.push _)[w.heap.size]? = _
  simp
theorem below_new (w : World) (o : Obj) : Below w.heap.size w (w.alloc o) := (Below.refl _ _).alloc (Nat.le_refl _) _
theorem rdBs1 {w : World} {A : Option Addr} {n capA : Nat} {a : List It} (T : TypeId) (hA : Rd It.vs 4 w 0 A n a) : RdBs (w.alloc (.cells #[.slice A n capA] T)) w.heap.size [⟨A, n, capA, a⟩] := fun i b hi => by
  cases i with
  | zero =>
    cases hi
    exact ⟨cell_at_block (new_block w _ T) rfl, hA.below (below_new w _)⟩
  | succ j => simp at hi
theorem rdBs2 {w : World} {A B : Option Addr} {n m capA capB : Nat} {a b : List It} (T : TypeId) (hA : Rd It.vs 4 w 0 A n a) (hB : Rd It.vs 4 w 0 B m b) : RdBs (w.alloc (.cells #[.slice A n capA, .slice B m capB] T)) w.heap.size [⟨A, n, capA, a⟩, ⟨B, m, capB, b⟩] := fun i b hi => by
  cases i with
  | zero =>
    cases hi
    exact ⟨cell_at_block (new_block w _ T) rfl, hA.below (below_new w _)⟩
  | succ j =>
    cases j with
    | zero =>
      cases hi
      exact ⟨cell_at_block (new_block w _ T) rfl, hB.below (below_new w _)⟩
    | succ j => simp at hi

set_option maxRecDepth 100000 in
set_option maxHeartbeats 1000000 in
theorem Add_any (A B : Option Addr) (n m capA capB : Nat) (a b : List It) (w : World) (hA : Rd It.vs 4 w 0 A n a) (hB : Rd It.vs 4 w 0 B m b) :
    Calls Tryd.prog 8 #[.slice A n capA, .slice B m capB] w (RetBag w (addR a b)) := by
  have q1 := isBag_any A n capA a w hA
  have Q1 := Lib.hid q1
  have HA := Lib.hid hA
  have HB := Lib.hid hB
  clear q1 hA hB
  cases ga : bagB a with
  | false =>
    have e1 : addR a b = ([], 2) := by simp [addR, ga]
    rw [e1]
    have GA := Lib.hid ga
    clear ga e1
    go_enter Tryd.func8, Tryd.ntmps8
    go_wp2_with (go_at_call 29; refine Q1.out.mono ?_; rintro e w1 ⟨rfl, hb1⟩; rw [GA.out]; have HB1 := Lib.hid hb1; clear hb1)
    go_ret2
    exact ⟨none, 0, rfl, Rd.nil _ _ _, HB1.out⟩
  | true =>
    cases gb : bagB b with
    | false =>
      have e1 : addR a b = ([], 2) := by simp [addR, gb]
      rw [e1]
      have GA := Lib.hid ga
      have GB := Lib.hid gb
      clear ga gb e1
      go_enter Tryd.func8, Tryd.ntmps8
      go_wp2_with fail
      refine Q1.out.mono ?_
      rintro e w1 ⟨rfl, hb1⟩
      rw [GA.out]
      have Q2 := Lib.hid (isBag_any B m capB b w1 (HB.out.below hb1))
      have HB1 := Lib.hid hb1
      clear hb1
      go_wp2_with (go_at_call 29; refine Q2.out.mono ?_; rintro e w2 ⟨rfl, hb2⟩; rw [GB.out]; have HB2 := Lib.hid hb2; clear hb2)
      go_ret2
      exact ⟨none, 0, rfl, Rd.nil _ _ _, HB1.out.trans (HB2.out.mono HB1.out.size)⟩
    | true =>
      have e1 : addR a b = (bagOr (a ++ b), errOr (a ++ b)) := by simp [addR, ga, gb]
      rw [e1]
      have GA := Lib.hid ga
      have GB := Lib.hid gb
      clear ga gb e1
      go_enter Tryd.func8, Tryd.ntmps8
      go_wp2_with fail
      refine Q1.out.mono ?_
      rintro e w1 ⟨rfl, hb1⟩
      rw [GA.out]
      have Q2 := Lib.hid (isBag_any B m capB b w1 (HB.out.below hb1))
      have HB1 := Lib.hid hb1
      clear hb1
      go_wp2_with (go_at_call 29; refine Q2.out.mono ?_; rintro e w2 ⟨rfl, hb2⟩; rw [GB.out]; have HB2 := Lib.hid hb2; clear hb2)
      have hab := fits_two GA.out GB.out
      have hR3 := rdBs2 (capA := capA) (capB := capB) 23 (HA.out.below (HB1.out.trans (HB2.out.mono HB1.out.size))) (HB.out.below (HB1.out.trans (HB2.out.mono HB1.out.size)))
      have e2 : allIt [⟨A, n, capA, a⟩, ⟨B, m, capB, b⟩] = a ++ b := by simp [allIt]
      have HAd := Lib.hid (added_any w2.heap.size 2 2 _ _ rfl hR3 (by rw [e2]; exact hab) (by omega))
      have hlen : (a ++ b).length * 32 ≤ 140737488355328 := by
        have h1 := ((bagB_spec a).1 GA.out).2.2
        have h2 := ((bagB_spec b).1 GB.out).2.2
        rw [List.length_append]; omega
      have HLn := Lib.hid hlen
      rw [e2] at HAd
      have HF := Lib.hid hab
      clear hab hR3 e2 hlen HA HB
      go_wp2_with (go_at_call 30; refine HAd.out.mono ?_; rintro e w4 ⟨rfl, hs4, hb4⟩)
      rw [World.size_alloc] at hs4
      have HS := Lib.hid (bag_sum _ _ _ hs4 HF.out.ok HLn.out)
      have HB4 := Lib.hid hb4
      generalize a ++ b = L at *
      clear hs4 hb4 HAd
      go_wp2_with (go_at_call 31; (with_reducible refine HS.out.mono ?_); rintro e w5 ⟨A5, cap5, rfl, hr5, hb5⟩)
      go_ret2
      exact ⟨A5, cap5, rfl, hr5.low (by have := HB1.out.size; have := HB2.out.size; have := HB4.out.size; simp at this; omega), bchain (bchain (bchain (bchain HB1.out HB2.out) (below_new _ _)) HB4.out) hb5⟩

set_option maxRecDepth 100000 in
set_option maxHeartbeats 1000000 in
theorem Neg_any (A : Option Addr) (n capA : Nat) (a : List It) (w : World) (hA : Rd It.vs 4 w 0 A n a) :
    Calls Tryd.prog 13 #[.slice A n capA] w (RetBag w (negR a)) := by
  have Q1 := Lib.hid (isBag_any A n capA a w hA)
  have HA := Lib.hid hA
  clear hA
  cases ga : bagB a with
  | false =>
    have e1 : negR a = ([], 2) := by simp [negR, ga]
    rw [e1]
    have GA := Lib.hid ga
    clear ga e1
    go_enter Tryd.func13, Tryd.ntmps13
    go_wp2_with (go_at_call 29; refine Q1.out.mono ?_; rintro e w1 ⟨rfl, hb1⟩; rw [GA.out]; have HB1 := Lib.hid hb1; clear hb1)
    go_ret2
    exact ⟨none, 0, rfl, Rd.nil _ _ _, HB1.out⟩
  | true =>
    have e1 : negR a = (a.map negIt, 0) := by simp [negR, ga]
    rw [e1]
    have hsp := (bagB_spec a).1 ga
    have HSP := Lib.hid hsp
    have GA := Lib.hid ga
    have hlen := HA.out.len
    have HLn := Lib.hid hlen
    clear ga e1 hsp hlen
    go_enter Tryd.func13, Tryd.ntmps13
    go_wp2_with fail
    refine Q1.out.mono ?_
    rintro e w1 ⟨rfl, hb1⟩
    rw [GA.out]
    have HC := Lib.hid (contrary_any A n capA a w1 (HA.out.below hb1) (fun x hx => by have := (itB_spec x).1 (HSP.out.1 x hx); omega) (by have := HSP.out.2.2; have := HLn.out; omega))
    have HB1 := Lib.hid hb1
    clear hb1
    go_wp2_with (go_at_call 40; (with_reducible refine HC.out.mono ?_); rintro e w2 ⟨A2, cap2, rfl, hr2, hb2⟩)
    go_ret2
    have e3 : (a.map negIt).length = n := by rw [List.length_map, HLn.out]
    exact ⟨A2, cap2, by rw [e3]; rfl, by rw [e3]; exact hr2.low HB1.out.size, bchain HB1.out hb2⟩

def okN (x : It) : Bool := recB x.r && withinB x.n (-1000000) 1000000
def newR (l : List It) : List It × Int := if l.all okN then (bagOr l, errOr l) else ([], 2)
theorem okN_spec (x : It) : okN x = true ↔ (0 ≤ x.r.at_ ∧ x.r.at_ ≤ 200 ∧ -1000000000 ≤ x.r.key ∧ x.r.key ≤ 1000000000 ∧ -1000000000 ≤ x.r.val ∧ x.r.val ≤ 1000000000) ∧ -1000000 ≤ x.n ∧ x.n ≤ 1000000 := by
  simp [okN, recB, withinB]
  omega
theorem fits_new {l : List It} (h : ∀ x ∈ l, okN x = true) (hl : l.length * 32 ≤ 140737488355328) : Fits l := by
  refine ⟨fun x hx => ?_, 1000000, by omega, fun x hx => ?_, by omega⟩
  · have := (okN_spec x).1 (h x hx)
    unfold Rc.ok I64
    omega
  · have := (okN_spec x).1 (h x hx); omega

def NewRel (w : World) (l : List It) (k : Nat) (wr : World) : Prop := (∀ x ∈ l.take k, okN x = true) ∧ Below w.heap.size w wr

set_option maxRecDepth 100000 in
set_option maxHeartbeats 1000000 in
theorem New_any (A : Option Addr) (n capA : Nat) (l : List It) (w : World) (hR : Rd It.vs 4 w 0 A n l) (hlen : n * 32 ≤ 140737488355328) :
    Calls Tryd.prog 34 #[.slice A n capA] w (RetBag w (newR l)) := by
  have HR := Lib.hid hR
  clear hR
  go_enter Tryd.func34, Tryd.ntmps34
  go_wp2_with fail
  go_loopw [5, 8] (fun _ i wr => ∃ k : Nat, k ≤ n ∧ i = .int .i64 k ∧ NewRel w l k wr) (fun _ i _ => n - (intOf i).toNat)
  case atStart => exact ⟨0, by omega, rfl, by simp, Below.refl _ _⟩
  case round =>
    obtain ⟨k, hk, rfl, hok, hB⟩ := hrel
    have hRk := HR.out.below hB
    have HB := Lib.hid hB
    have HK := Lib.hid hok
    clear hB hok
    by_cases hlt : k < n
    · obtain ⟨b, off, x, rfl, _, hx, c0, c1, c2, c3⟩ := hRk.it_at hlt
      have HX := Lib.hid hx
      clear hx hRk
      have hno : okN x = false → newR l = ([], 2) := fun h => by
        have : l.all okN = false := List.all_eq_false.2 ⟨x, List.mem_of_getElem? HX.out, by simp [h]⟩
        simp [newR, this]
      have HNO := Lib.hid hno
      clear hno
      cases hr : recB x.r with
      | false =>
        have e1 := HNO.out (by simp [okN, hr])
        have E1 := Lib.hid e1
        have HRC := Lib.hid hr
        clear hr e1
        go_wp2_with (go_at_call 62; refine (isRec_any x.r _).mono ?_; rintro e w' ⟨rfl, hb1⟩; rw [HRC.out]; obtain ⟨f0, f1, f2, f3⟩ := box4 hb1; have HB1 := Lib.hid hb1; clear hb1)
        go_ret2
        rw [E1.out]
        exact ⟨none, 0, rfl, Rd.nil _ _ _, below_box HB.out HB.out.size HB1.out⟩
      | true =>
        have HRC := Lib.hid hr
        cases hm : withinB x.n (-1000000) 1000000 with
        | false =>
          have e1 := HNO.out (by simp [okN, hm])
          have E1 := Lib.hid e1
          have HM := Lib.hid hm
          clear hr hm e1
          go_wp2_with (first | (go_at_call 62; refine (isRec_any x.r _).mono ?_; rintro e w' ⟨rfl, hb1⟩; rw [HRC.out]; obtain ⟨f0, f1, f2, f3⟩ := box4 hb1; have HB1 := Lib.hid hb1; clear hb1) | (go_at_call 61; refine (within_any _ _ _ _).mono ?_; rintro e w' ⟨rfl, rfl⟩; rw [HM.out]))
          go_ret2
          rw [E1.out]
          exact ⟨none, 0, rfl, Rd.nil _ _ _, below_box HB.out HB.out.size HB1.out⟩
        | true =>
          have hxo : okN x = true := by simp [okN, hr, hm]
          have HXO := Lib.hid hxo
          have HM := Lib.hid hm
          clear hr hm hxo
          go_wp2_with (first | (go_at_call 62; refine (isRec_any x.r _).mono ?_; rintro e w' ⟨rfl, hb1⟩; rw [HRC.out]; obtain ⟨f0, f1, f2, f3⟩ := box4 hb1; have HB1 := Lib.hid hb1; clear hb1) | (go_at_call 61; refine (within_any _ _ _ _).mono ?_; rintro e w' ⟨rfl, rfl⟩; rw [HM.out]))
          refine ⟨⟨k + 1, by omega, by go_num, fun y hy => ?_, below_box HB.out HB.out.size HB1.out⟩, by simp [intOf]; omega⟩
          rw [List.take_add_one, HX.out] at hy
          rcases List.mem_append.1 hy with h | h
          · exact HK.out y h
          · simp at h; rw [h]; exact HXO.out
    · have hk' : k = n := by omega
      subst hk'
      clear hlt
      have hall : ∀ x ∈ l, okN x = true := fun x hx => HK.out x (by rw [List.take_of_length_le (by rw [HR.out.len]; exact Nat.le_refl _)]; exact hx)
      have hll : l.length * 32 ≤ 140737488355328 := by rw [HR.out.len]; exact hlen
      have hf := fits_new hall hll
      have e1 : newR l = (bagOr l, errOr l) := by simp [newR, List.all_eq_true.2 hall]
      have E1 := Lib.hid e1
      have hR3 := rdBs1 (capA := capA) 23 hRk
      have e2 : allIt [⟨A, k, capA, l⟩] = l := by simp [allIt]
      have HAd := Lib.hid (added_any wr.heap.size 1 1 _ _ rfl hR3 (by rw [e2]; exact hf) (by omega))
      rw [e2] at HAd
      have HF := Lib.hid hf
      have HLn := Lib.hid hll
      clear hf hR3 e2 hall hll e1 HR hRk HK
      go_wp2_with (go_at_call 30; (with_reducible refine HAd.out.mono ?_); rintro e w4 ⟨rfl, hs4, hb4⟩)
      rw [World.size_alloc] at hs4
      have HS := Lib.hid (bag_sum _ _ _ hs4 HF.out.ok HLn.out)
      have HB4 := Lib.hid hb4
      clear hs4 hb4 HAd
      go_wp2_with (go_at_call 31; (with_reducible refine HS.out.mono ?_); rintro e w5 ⟨A5, cap5, rfl, hr5, hb5⟩)
      go_ret2
      rw [E1.out]
      exact ⟨A5, cap5, rfl, hr5.low (by have := HB.out.size; have := HB4.out.size; simp at this; omega), bchain (bchain (bchain HB.out (below_new _ _)) HB4.out) hb5⟩
end Go.Proofs.Bg
end

section
/- A bag that is handed in, opened: its cells are whole numbers. -/
namespace Go.Proofs.Bg
open Go.RowKit Go.ChangeShapes Go.WideShapes Go.Deep

instance : Inhabited It := ⟨⟨⟨0, 0, 0⟩, 0⟩⟩
theorem cells40 : Tryd.prog.cellsOf 33 = 4 := by kernel_rfl
theorem cells38 : Tryd.prog.cellsOf 31 = 3 := by kernel_rfl
theorem cells3 : Tryd.prog.cellsOf 3 = 1 := by kernel_rfl
theorem spot_none {w : World} {a : Addr} {v : Value} (h : w.cell? a = some v) : a.spot = none := by
  unfold World.cell? at h
  split at h
  · split at h
    · cases h
    · rename_i hs
      cases hh : a.spot with
      | none => rfl
      | some q => rw [hh] at hs; simp at hs
  · cases h

set_option maxRecDepth 100000 in
theorem item_cells {H : Type} {enc : TypeId × Value → H} {W : World} {spare : Nat → Bool} {held : Bool} {n : Nat} {cs : List Value} {x : DataW H × List MemPlace} (h : DataW.trod enc Tryd.prog W 0 spare held n 33 cs = some x) : ∃ y : It, cs = y.vs := by
  obtain ⟨y0, y1, k, _, hlen, u0, u1⟩ := trod_struct2 Tryd.underlying33 h
  rw [cells40] at hlen
  match cs, hlen with
  | [v0, v1, v2, v3], _ =>
    simp only [cells38, cells3, List.drop, List.take] at u0 u1
    obtain ⟨z0, z1, z2, k2, _, _, w0, w1, w2⟩ := trod_struct3 Tryd.underlying31 u0
    simp only [cells3, List.drop, List.take] at w0 w1 w2
    obtain ⟨a, e0, _, _⟩ := DataW.trod_int Tryd.underlying3 w0
    obtain ⟨b, e1, _, _⟩ := DataW.trod_int Tryd.underlying3 w1
    obtain ⟨c, e2, _, _⟩ := DataW.trod_int Tryd.underlying3 w2
    obtain ⟨d, e3, _, _⟩ := DataW.trod_int Tryd.underlying3 u1
    simp only [List.cons.injEq, and_true] at e0 e1 e2 e3
    exact ⟨⟨⟨a, b, c⟩, d⟩, by rw [e0, e1, e2, e3]; rfl⟩

set_option maxRecDepth 100000 in
theorem open_bag {H : Type} {enc : TypeId × Value → H} {W : World} {base : Nat} {spare : Nat → Bool} {held : Bool} {r : Reach} {t : TypeId} {v : Value} {d : DataW H} {ps : List MemPlace} (ht : Tryd.prog.underlying t = some (.slice 33)) (hval : Value.okWide Tryd.prog W r base t v) (h : DataW.Trod enc Tryd.prog W 0 spare held t v d ps) :
    ∃ A n cap l, v = .slice A n cap ∧ Rd It.vs 4 W 0 A n l ∧ n ≤ cap ∧ cap ≤ maxLen := by
  obtain ⟨A, n, cap, rfl⟩ := okWide_slice ht hval
  obtain ⟨fuel, hf⟩ := h
  rcases open_slice ht hf with ⟨hc, _⟩ | ⟨a, len, cap', m, k, D, Pl, hc, _, hl, hm, hmm, _, hall⟩
  · simp [Value.cells] at hc
    obtain ⟨rfl, rfl, rfl⟩ := hc
    exact ⟨none, 0, 0, [], rfl, Rd.nil _ _ _, Nat.le_refl _, by unfold maxLen; omega⟩
  · simp [Value.cells] at hc
    obtain ⟨rfl, rfl, rfl⟩ := hc
    have hlm : n ≤ m := by rw [hmm]; split <;> omega
    have each : ∀ i, i < n → ∃ y : It, ∀ j v, (It.vs y)[j]? = some v → W.cell? (a.add (i * 4 + j)) = some v := fun i hi => by
      obtain ⟨cs', h1, h2⟩ := hall i (by omega)
      rw [cells40] at h1
      obtain ⟨_, hlen, hcell⟩ := World.cells?_some h1
      obtain ⟨y, rfl⟩ := item_cells h2
      refine ⟨y, fun j v hv => ?_⟩
      have hj : j < 4 := by simpa [It.vs] using (List.getElem?_eq_some_iff.1 hv).1
      have := hcell j hj
      rw [add_add] at this
      rw [this, hv]
    obtain ⟨f, hf'⟩ := choose_lt each
    refine ⟨some a, n, cap, (List.range n).map f, rfl, ⟨by simp, by unfold maxLen at hm; omega, fun h0 => ?_⟩, hl, hm⟩
    have hs : a.spot = none := by
      have := spot_none (hf' 0 h0 0 _ rfl)
      have e : (a.add (0 * 4 + 0)).spot = none := this
      have ea : a.add (0 * 4 + 0) = a := by unfold Addr.add; simp
      rwa [ea] at e
    obtain ⟨b, off, sp⟩ := a
    simp only at hs
    subst hs
    refine ⟨b, off, rfl, Nat.zero_le _, fun i x hx j v hv => ?_⟩
    have hi : i < n := by simpa using (List.getElem?_eq_some_iff.1 hx).1
    have ex : f i = x := by simpa [List.getElem?_map, List.getElem?_range hi] using hx
    subst ex
    have := hf' i hi j v hv
    have e1 : (⟨b, off, none⟩ : Addr).add (i * 4 + j) = ⟨b, off + (i * 4 + j), none⟩ := by unfold Addr.add; split <;> simp_all
    rw [e1] at this
    have e2 : off + i * 4 + j = off + (i * 4 + j) := by omega
    rw [e2]
    exact this
end Go.Proofs.Bg
end

section
/- A bag that is handed in, opened, with its size: it takes no more bytes than the form's reach. -/
namespace Go.Proofs.Bg
open Go.RowKit Go.ChangeShapes Go.WideShapes Go.Deep

theorem bytes40 : Tryd.prog.bytesOf 33 = 32 := by kernel_rfl

set_option maxRecDepth 100000 in
theorem open_bag2 {H : Type} {enc : TypeId × Value → H} {W : World} {base : Nat} {held : Bool} {r : Reach} {t : TypeId} {v : Value} {d : DataW H} {ps : List MemPlace} (ht : Tryd.prog.underlying t = some (.slice 33)) (hval : Value.okWide Tryd.prog W r base t v) (h : DataW.Trod enc Tryd.prog W 0 (fun _ => true) held t v d ps) :
    ∃ A n cap l, v = .slice A n cap ∧ Rd It.vs 4 W 0 A n l ∧ n ≤ cap ∧ (cap = 0 ∨ ∃ es sp, d = .slice es sp ∧ es.length + sp.length = cap) := by
  obtain ⟨A, n, cap, rfl⟩ := okWide_slice ht hval
  obtain ⟨fuel, hf⟩ := h
  rcases open_slice ht hf with ⟨hc, _⟩ | ⟨a, len, cap', m, k, D, Pl, hc, _, hl, hm, hmm, hd, hall⟩
  · simp [Value.cells] at hc
    obtain ⟨rfl, rfl, rfl⟩ := hc
    exact ⟨none, 0, 0, [], rfl, Rd.nil _ _ _, Nat.le_refl _, .inl rfl⟩
  · simp [Value.cells] at hc
    obtain ⟨rfl, rfl, rfl⟩ := hc
    have hmc : m = cap := by simpa using hmm
    have hlm : n ≤ m := by omega
    have each : ∀ i, i < n → ∃ y : It, ∀ j v, (It.vs y)[j]? = some v → W.cell? (a.add (i * 4 + j)) = some v := fun i hi => by
      obtain ⟨cs', h1, h2⟩ := hall i (by omega)
      rw [cells40] at h1
      obtain ⟨_, hlen, hcell⟩ := World.cells?_some h1
      obtain ⟨y, rfl⟩ := item_cells h2
      refine ⟨y, fun j v hv => ?_⟩
      have hj : j < 4 := by simpa [It.vs] using (List.getElem?_eq_some_iff.1 hv).1
      have := hcell j hj
      rw [add_add] at this
      rw [this, hv]
    obtain ⟨f, hf'⟩ := choose_lt each
    refine ⟨some a, n, cap, (List.range n).map f, rfl, ⟨by simp, by unfold maxLen at hm; omega, fun h0 => ?_⟩, hl, .inr ⟨_, _, (Prod.mk.inj hd).1, by simp; omega⟩⟩
    have hs : a.spot = none := by
      have := spot_none (hf' 0 h0 0 _ rfl)
      have e : (a.add (0 * 4 + 0)).spot = none := this
      have ea : a.add (0 * 4 + 0) = a := by unfold Addr.add; simp
      rwa [ea] at e
    obtain ⟨b, off, sp⟩ := a
    simp only at hs
    subst hs
    refine ⟨b, off, rfl, Nat.zero_le _, fun i x hx j v hv => ?_⟩
    have hi : i < n := by simpa using (List.getElem?_eq_some_iff.1 hx).1
    have ex : f i = x := by simpa [List.getElem?_map, List.getElem?_range hi] using hx
    subst ex
    have := hf' i hi j v hv
    have e1 : (⟨b, off, none⟩ : Addr).add (i * 4 + j) = ⟨b, off + (i * 4 + j), none⟩ := by unfold Addr.add; split <;> simp_all
    rw [e1] at this
    have e2 : off + i * 4 + j = off + (i * 4 + j) := by omega
    rw [e2]
    exact this

/-- What the form's reach says of a bag that is handed in. -/
theorem reach_bag {H : Type} {ts : List TypeId} {ds : List (DataW H)} {t : TypeId} {d : DataW H} {cap : Nat} (h : (DataW.weightsEach Tryd.prog ts ds).all (· ≤ reachBytes) = true) (j : Nat) (ht : ts[j]? = some t) (hd : ds[j]? = some d) (hu : Tryd.prog.underlying t = some (.slice 33)) (hc : cap = 0 ∨ ∃ es sp, d = .slice es sp ∧ es.length + sp.length = cap) : cap * 32 ≤ 140737488355328 := by
  rcases hc with rfl | ⟨es, sp, rfl, rfl⟩
  · omega
  · have := sized_slice h ht hd hu
    rw [bytes40] at this
    have hr := reachBytes_lt
    omega
end Go.Proofs.Bg
end

section
/- The contract of less: a list of items whose first one is there so often less, in place. -/
namespace Go.Proofs.Bg
open Go.RowKit

def lessL (l : List It) (k : Int) : List It := match l with
  | [] => []
  | x :: r => if x.n = k then r else ⟨x.r, x.n - k⟩ :: r

/-- A window of the list l in block b, that may be written. -/
structure Win (b : Nat) (w : World) (A : Option Addr) (cap : Nat) (l : List It) : Prop where
  rd : Rd It.vs 4 w 0 A l.length l
  blk : l ≠ [] → (∃ off, A = some ⟨b, off, none⟩) ∧ l.length ≤ cap ∧ ∃ c, w.heap[b]? = some (.cells c 33)

theorem Win.kept {b : Nat} {w w' : World} {A : Option Addr} {cap : Nat} {l : List It} (h : Win b w A cap l) {row : Option Nat} (hg : w.grownBy w' row) (hne : l ≠ [] → row ≠ some b) : Win b w' A cap l := by
  by_cases hl : l = []
  · subst hl
    exact ⟨Rd.nil _ _ _, fun h => absurd rfl h⟩
  · obtain ⟨⟨off, rfl⟩, hc, c, hb⟩ := h.blk hl
    have hlt : b < w.heap.size := (Array.getElem?_eq_some_iff.1 hb).1
    have heq : w'.heap[b]? = w.heap[b]? := hg.block b hlt (fun e => hne hl e.symm)
    refine ⟨⟨h.rd.1, h.rd.2.1, fun h0 => ?_⟩, fun _ => ⟨⟨off, rfl⟩, hc, c, heq.trans hb⟩⟩
    obtain ⟨b2, off2, e2, hlo, hcell⟩ := h.rd.2.2 h0
    cases e2
    exact ⟨_, _, rfl, hlo, fun i y hy j v hv => (World.cell?_of_block (w := w) (a := ⟨b, off + i * 4 + j, none⟩) heq).trans (hcell i y hy j v hv)⟩

theorem Win.head {b : Nat} {w : World} {A : Option Addr} {cap : Nat} {x : It} {r : List It} (h : Win b w A cap (x :: r)) : ∃ off c, A = some ⟨b, off, none⟩ ∧ r.length + 1 ≤ cap ∧ r.length + 1 ≤ 9223372036854775807 ∧ w.heap[b]? = some (.cells c 33) ∧ w.cell? ⟨b, off, none⟩ = some (.int .i64 x.r.at_) ∧ w.cell? ⟨b, off + 1, none⟩ = some (.int .i64 x.r.key) ∧ w.cell? ⟨b, off + 2, none⟩ = some (.int .i64 x.r.val) ∧ w.cell? ⟨b, off + 3, none⟩ = some (.int .i64 x.n) := by
  obtain ⟨⟨off, rfl⟩, hc, c, hb⟩ := h.blk (by simp)
  obtain ⟨b2, off2, e2, _, hcell⟩ := h.rd.2.2 (by simp)
  cases e2
  have hle := h.rd.2.1
  have h0 := hcell 0 x rfl 0 _ rfl
  have h1 := hcell 0 x rfl 1 _ rfl
  have h2 := hcell 0 x rfl 2 _ rfl
  have h3 := hcell 0 x rfl 3 _ rfl
  simp only [Nat.zero_mul, Nat.add_zero] at h0 h1 h2 h3
  exact ⟨off, c, rfl, hc, hle, hb, h0, h1, h2, h3⟩

theorem Win.tail {b off o' : Nat} {w : World} {cap : Nat} {x : It} {r : List It} (h : Win b w (some ⟨b, off, none⟩) cap (x :: r)) (ho : 0 < r.length → o' = off + 4) : Win b w (some ⟨b, o', none⟩) (cap - 1) r := by
  obtain ⟨⟨_, e⟩, hc, c, hb⟩ := h.blk (by simp)
  cases e
  obtain ⟨b2, off2, e2, _, hcell⟩ := h.rd.2.2 (by simp)
  cases e2
  have hle := h.rd.2.1
  simp only [List.length_cons] at hle hc
  refine ⟨⟨rfl, by omega, fun h0 => ⟨b, o', rfl, Nat.zero_le _, fun i y hy j v hv => ?_⟩⟩, fun _ => ⟨⟨o', rfl⟩, by omega, c, hb⟩⟩
  have h1 := hcell (i + 1) y (by simpa using hy) j v hv
  rw [ho h0]
  have e3 : off + 4 + i * 4 + j = off + (i + 1) * 4 + j := by omega
  rw [e3]
  exact h1

theorem Win.setHead {b off : Nat} {w : World} {cap : Nat} {x : It} {r : List It} (h : Win b w (some ⟨b, off, none⟩) cap (x :: r)) (n : Int) : Win b (w.setCell ⟨b, off + 3, none⟩ (.int .i64 n)) (some ⟨b, off, none⟩) cap (⟨x.r, n⟩ :: r) ∧ w.grownBy (w.setCell ⟨b, off + 3, none⟩ (.int .i64 n)) (some b) := by
  obtain ⟨_, hc, c, hb⟩ := h.blk (by simp)
  obtain ⟨s1, s2⟩ := setCell_at (off := off + 3) hb (.int .i64 n)
  obtain ⟨b2, off2, e2, _, hcell⟩ := h.rd.2.2 (by simp)
  cases e2
  have hle := h.rd.2.1
  have hcell' : ∀ i y, (x :: r)[i]? = some y → ∀ j v, (It.vs y)[j]? = some v → c[off + i * 4 + j]? = some v := fun i y hy j v hv => by
    have := hcell i y hy j v hv
    simpa [World.cell?, hb] using this
  have hsz : off + 3 < c.size := by
    have := hcell' 0 x rfl 3 _ rfl
    simp only [Nat.zero_mul, Nat.add_zero] at this
    exact (Array.getElem?_eq_some_iff.1 this).1
  refine ⟨⟨⟨rfl, hle, fun _ => ⟨b, off, rfl, Nat.zero_le _, fun i y hy j v hv => ?_⟩⟩, fun _ => ⟨⟨off, rfl⟩, hc, _, s1⟩⟩, s2⟩
  refine cell_at_block s1 ?_
  rw [Array.getElem?_setIfInBounds]
  cases i with
  | zero =>
    cases hy
    simp only [Nat.zero_mul, Nat.add_zero]
    rcases (by
      have : j < 4 := by simpa [It.vs] using (List.getElem?_eq_some_iff.1 hv).1
      omega : j = 0 ∨ j = 1 ∨ j = 2 ∨ j = 3) with rfl | rfl | rfl | rfl
    · rw [if_neg (by omega)]
      have := hcell' 0 x rfl 0 v (by simpa [It.vs] using hv)
      simpa using this
    · rw [if_neg (by omega)]
      have := hcell' 0 x rfl 1 v (by simpa [It.vs] using hv)
      simpa using this
    · rw [if_neg (by omega)]
      have := hcell' 0 x rfl 2 v (by simpa [It.vs] using hv)
      simpa using this
    · rw [if_pos rfl, if_pos hsz]
      simpa [It.vs] using hv
  | succ i =>
    have hj : j < 4 := by simpa [It.vs] using (List.getElem?_eq_some_iff.1 hv).1
    rw [if_neg (by omega)]
    exact hcell' (i + 1) y (by simpa using hy) j v hv

set_option maxRecDepth 100000 in
theorem less_any (b : Nat) (A : Option Addr) (cap : Nat) (x : It) (r : List It) (k : Int) (w : World) (h : Win b w A cap (x :: r)) (hk : -9223372036854775808 ≤ x.n - k ∧ x.n - k ≤ 9223372036854775807) :
    Calls Tryd.prog 68 #[.slice A (r.length + 1) cap, .int .i64 k] w fun e w' => ∃ A' cap', e = .returned (.slice A' (lessL (x :: r) k).length cap') ∧ Win b w' A' cap' (lessL (x :: r) k) ∧ w.grownBy w' (some b) := by
  have HW := Lib.hid h
  obtain ⟨off, c, rfl, hc, hle, hb, _, _, _, c3⟩ := h.head
  have g3 := free_at_block (off := off + 3) hb
  have hw : IntKind.i64.wrap (x.n - k) = x.n - k := IntWalk.i64_in _ hk
  clear h hb hk
  by_cases he : x.n = k
  · have hq : (x.n == k) = true := by simpa using he
    have e1 : lessL (x :: r) k = r := by simp [lessL, he]
    rw [e1]
    clear e1 he
    by_cases hc1 : cap = 1
    · have hc2 : Hid (cap = 1) := hc1
      go_enter Tryd.func68, Tryd.ntmps68
      go_wp2
      go_ret
      have t := HW.out.tail (o' := off) (fun h => by have := hc2.out; omega)
      have e : cap - 1 = 0 := by have := hc2.out; omega
      rw [e] at t
      exact ⟨_, _, rfl, t, World.grownBy.refl _ _⟩
    · go_enter Tryd.func68, Tryd.ntmps68
      go_wp2
      go_ret
      exact ⟨_, _, rfl, HW.out.tail (fun h => rfl), World.grownBy.refl _ _⟩
  · have hq : (x.n == k) = false := by simpa using he
    have e1 : lessL (x :: r) k = ⟨x.r, x.n - k⟩ :: r := by simp [lessL, he]
    rw [e1]
    clear e1 he
    go_enter Tryd.func68, Tryd.ntmps68
    go_wp2
    go_ret
    exact ⟨_, _, rfl, (HW.out.setHead _).1, (HW.out.setHead _).2⟩
end Go.Proofs.Bg
end

section
/- The contract of turned. -/
namespace Go.Proofs.Bg
open Go.RowKit

/-- An edit. -/
structure Ed where
  d : Int
  old : Rc
  new : Rc
  n : Int
deriving DecidableEq
def Ed.vs (x : Ed) : List Value := [.int .i64 x.d, .int .i64 x.old.at_, .int .i64 x.old.key, .int .i64 x.old.val, .int .i64 x.new.at_, .int .i64 x.new.key, .int .i64 x.new.val, .int .i64 x.n]
theorem Ed.vs_length (x : Ed) : x.vs.length = 8 := rfl
def zRc : Rc := ⟨0, 0, 0⟩
def goneE (x : It) : Ed := ⟨2, x.r, zRc, x.n⟩
def sayE (x : It) : Ed := ⟨1, zRc, x.r, x.n⟩
theorem infoEd : (Tryd.prog.info? 72).map (fun i => (i.zero, i.size, i.bytes)) = some (some (.agg #[.int .i64 0, .int .i64 0, .int .i64 0, .int .i64 0, .int .i64 0, .int .i64 0, .int .i64 0, .int .i64 0]), 8, 64) := by kernel_rfl

def turnF : Nat → List It → List It → List Ed
  | 0, _, _ => []
  | _ + 1, [], l2 => l2.map sayE
  | _ + 1, x :: r, [] => (x :: r).map goneE
  | f + 1, x :: r, y :: s => ⟨3, x.r, y.r, min x.n y.n⟩ :: turnF f (lessL (x :: r) (min x.n y.n)) (lessL (y :: s) (min x.n y.n))
def turnL (l1 l2 : List It) : List Ed := turnF (l1.length + l2.length + 1) l1 l2

theorem lessL_length (x : It) (r : List It) (k : Int) : (lessL (x :: r) k).length = if x.n = k then r.length else r.length + 1 := by
  simp only [lessL]
  split <;> simp
def PosL (l : List It) : Prop := ∀ x ∈ l, 0 < x.n ∧ x.n ≤ 1000000000000000
theorem PosL.less {x : It} {r : List It} {k : Int} (h : PosL (x :: r)) (hk : 0 < k) (hk2 : k ≤ x.n) : PosL (lessL (x :: r) k) := by
  obtain ⟨h1, h2⟩ := h x List.mem_cons_self
  simp only [lessL]
  split
  · exact fun y hy => h y (List.mem_cons_of_mem _ hy)
  · intro y hy
    rcases List.mem_cons.1 hy with rfl | hy
    · exact ⟨by simp only; omega, by simp only; omega⟩
    · exact h y (List.mem_cons_of_mem _ hy)

/-- Nothing old has turned but two blocks. -/
structure But2 (w w' : World) (b1 b2 : Nat) : Prop where
  os : w'.os = w.os
  tape : w'.tape = w.tape
  output : w'.output = w.output
  size : w.heap.size ≤ w'.heap.size
  block : ∀ i, i < w.heap.size → i ≠ b1 → i ≠ b2 → w'.heap[i]? = w.heap[i]?
theorem But2.refl (w : World) (b1 b2 : Nat) : But2 w w b1 b2 := ⟨rfl, rfl, rfl, Nat.le_refl _, fun _ _ _ _ => rfl⟩
theorem But2.then_ {w w' w2 : World} {b1 b2 : Nat} {row : Option Nat} (h : But2 w w' b1 b2) (hg : w'.grownBy w2 row) (hr : ∀ k, row = some k → w.heap.size ≤ k ∨ k = b1 ∨ k = b2) : But2 w w2 b1 b2 :=
  ⟨hg.os.trans h.os, hg.tape.trans h.tape, hg.output.trans h.output, Nat.le_trans h.size hg.size, fun i hi h1 h2 => (hg.block i (Nat.lt_of_lt_of_le hi h.size) (fun e => by rcases hr i e.symm with h | h | h <;> omega)).trans (h.block i hi h1 h2)⟩

/-- What the first loop holds. -/
structure TRel (b1 b2 S : Nat) (w : World) (R : List Ed) (f : Nat) (l1 l2 : List It) (L : List Ed) (A1 : Option Addr) (cap1 : Nat) (A2 : Option Addr) (cap2 : Nat) (v : Value) (wr : World) : Prop where
  w1 : Win b1 wr A1 cap1 l1
  w2 : Win b2 wr A2 cap2 l2
  own : Own Ed.vs 8 72 w.heap.size wr v L
  r : L ++ turnF f l1 l2 = R
  lt : l1.length + l2.length < f
  sz : L.length + l1.length + l2.length ≤ S
  b : But2 w wr b1 b2
  p1 : PosL l1
  p2 : PosL l2
  s1 : l1 ≠ [] → b1 < w.heap.size
  s2 : l2 ≠ [] → b2 < w.heap.size
  s3 : l1 ≠ [] → l2 ≠ [] → b1 ≠ b2

/-- Behind the append: the windows are as they were. -/
theorem TRel.app {b1 b2 S : Nat} {w : World} {R : List Ed} {f : Nat} {l1 l2 : List It} {L : List Ed} {A1 A2 : Option Addr} {cap1 cap2 : Nat} {v : Value} {wr : World} (h : TRel b1 b2 S w R f l1 l2 L A1 cap1 A2 cap2 v wr) {w' : World} (hg : wr.grownBy w' v.ownBlock) : Win b1 w' A1 cap1 l1 ∧ Win b2 w' A2 cap2 l2 ∧ But2 w w' b1 b2 :=
  ⟨h.w1.kept hg (fun hl e => by have := (h.own.blk _ e).1; have := h.s1 hl; omega), h.w2.kept hg (fun hl e => by have := (h.own.blk _ e).1; have := h.s2 hl; omega), h.b.then_ hg (fun k e => .inl (h.own.blk _ e).1)⟩

/-- What the two other loops hold. -/
structure ORel (b1 b2 : Nat) (w : World) (m1 m2 : List It) (B1 : Option Addr) (c1 : Nat) (B2 : Option Addr) (c2 : Nat) (LL : List Ed) (v : Value) (wr : World) : Prop where
  own : Own Ed.vs 8 72 w.heap.size wr v LL
  w1 : Win b1 wr B1 c1 m1
  w2 : Win b2 wr B2 c2 m2
  b : But2 w wr b1 b2
  s1 : m1 ≠ [] → b1 < w.heap.size
  s2 : m2 ≠ [] → b2 < w.heap.size
theorem ORel.app {b1 b2 : Nat} {w : World} {m1 m2 : List It} {B1 B2 : Option Addr} {c1 c2 : Nat} {LL L2 : List Ed} {v v' : Value} {wr w' W : World} (h : ORel b1 b2 w m1 m2 B1 c1 B2 c2 LL v wr) (h0 : wr.grownBy W none) (hg : W.grownBy w' v.ownBlock) (ho : Own Ed.vs 8 72 w.heap.size w' v' L2) : ORel b1 b2 w m1 m2 B1 c1 B2 c2 L2 v' w' where
  own := ho
  w1 := (h.w1.kept h0 (fun _ e => by cases e)).kept hg (fun hl e => by have := (h.own.blk _ e).1; have := h.s1 hl; omega)
  w2 := (h.w2.kept h0 (fun _ e => by cases e)).kept hg (fun hl e => by have := (h.own.blk _ e).1; have := h.s2 hl; omega)
  b := (h.b.then_ h0 (fun k e => by cases e)).then_ hg (fun k e => .inl (h.own.blk _ e).1)
  s1 := h.s1
  s2 := h.s2
theorem alloc_none (w : World) (o : Obj) : w.grownBy (w.alloc o) none := ⟨rfl, rfl, rfl, by simp, fun i hi _ => Below.heap_alloc _ _ _ hi⟩
theorem alloc2_none (w : World) (o o' : Obj) : w.grownBy ((w.alloc o).alloc o') none := ⟨rfl, rfl, rfl, by simp; omega, fun i hi _ => by rw [Below.heap_alloc _ _ _ (by simp; omega), Below.heap_alloc _ _ _ hi]⟩
theorem turnF_out {f : Nat} {m1 m2 : List It} (h : m1 = [] ∨ m2 = []) : turnF (f + 1) m1 m2 = m1.map goneE ++ m2.map sayE := by
  cases m1 with
  | nil => simp [turnF]
  | cons x r =>
    rcases h with h | h
    · cases h
    · subst h; simp [turnF]
theorem own_ed {base : Nat} {w : World} {v : Value} {L : List Ed} {e : Ed} {n : Nat} {xs : List Value} (h : w.ownsRow base 72 8 v n xs) (hn : n = L.length + 1) (hx : xs = L.flatMap Ed.vs ++ e.vs) : Own Ed.vs 8 72 base w v (L ++ [e]) := by
  unfold Own
  rw [List.length_append, List.flatMap_append]
  subst hn hx
  simpa using h

set_option maxRecDepth 100000 in
set_option maxHeartbeats 2000000 in
theorem turned_any (b1 b2 : Nat) (A1 A2 : Option Addr) (cap1 cap2 : Nat) (l1 l2 : List It) (w : World) (h1 : Win b1 w A1 cap1 l1) (h2 : Win b2 w A2 cap2 l2) (hp1 : PosL l1) (hp2 : PosL l2) (hne : l1 ≠ [] → l2 ≠ [] → b1 ≠ b2) (hS2 : (l1.length + l2.length) * 64 ≤ 140737488355328) :
    Calls Tryd.prog 46 #[.slice A1 l1.length cap1, .slice A2 l2.length cap2] w fun e w' => ∃ v, e = .returned v ∧ Own Ed.vs 8 72 w.heap.size w' v (turnL l1 l2) ∧ But2 w w' b1 b2 := by
  obtain ⟨R, hR⟩ : ∃ R, turnL l1 l2 = R := ⟨_, rfl⟩
  obtain ⟨S, hS⟩ : ∃ S, l1.length + l2.length = S := ⟨_, rfl⟩
  rw [hS] at hS2
  rw [hR]
  have lt_of : ∀ {b A cap l}, Win b w A cap l → l ≠ [] → b < w.heap.size := fun hw hl => by
    obtain ⟨_, _, c, hb⟩ := hw.blk hl
    exact (Array.getElem?_eq_some_iff.1 hb).1
  have HREL : Hid (TRel b1 b2 S w R (l1.length + l2.length + 1) l1 l2 [] A1 cap1 A2 cap2 (.slice none 0 0) w) := ⟨h1, h2, Own.nil _ _ _ _ _, hR, by omega, by simp; omega, But2.refl _ _ _, hp1, hp2, lt_of h1, lt_of h2, hne⟩
  have HS2 := Lib.hid hS2
  clear h1 h2 hp1 hp2 hne hS hR hS2 lt_of
  obtain ⟨i0, hi0, hz0, hz1, hz2⟩ := info_parts infoEd
  go_enter Tryd.func46, Tryd.ntmps46
  go_wp2_with fail
  go_loopw [0, 1, 5] (fun v0 v1 v wr => ∃ f l1 l2 L A1 cap1 A2 cap2, v0 = .slice A1 l1.length cap1 ∧ v1 = .slice A2 l2.length cap2 ∧ TRel b1 b2 S w R f l1 l2 L A1 cap1 A2 cap2 v wr) (fun v0 v1 _ _ => lenOf v0 + lenOf v1)
  case atStart => exact ⟨_, _, _, _, _, _, _, _, rfl, rfl, HREL.out⟩
  case round =>
    clear HREL
    obtain ⟨f, m1, m2, L, B1, c1, B2, c2, rfl, rfl, hrel⟩ := hrel
    obtain ⟨B3, c3, rfl⟩ := hrel.own.shape
    have HR := Lib.hid hrel
    clear hrel
    -- ROUND
    have hf : ∃ f', f = f' + 1 := ⟨f - 1, by have := HR.out.lt; omega⟩
    obtain ⟨f, rfl⟩ := hf
    by_cases hm1 : m1 = []
    · have HF : Hid (L ++ (m1.map goneE ++ m2.map sayE) = R) := by show _ = _; rw [← HR.out.r, turnF_out (.inl hm1)]
      have hd1 : decide (0 < m1.length) = false := by rw [hm1]; rfl
      clear hm1
      have OR : Hid (ORel b1 b2 w m1 m2 B1 c1 B2 c2 L (.slice B3 L.length c3) wr) := ⟨HR.out.own, HR.out.w1, HR.out.w2, HR.out.b, HR.out.s1, HR.out.s2⟩
      have HSZ : Hid (L.length + m1.length + m2.length ≤ S) := HR.out.sz
      clear HR
      go_wp2_with fail
      clear hd1
      go_loopw [5, 8, 49] (fun v _ ii wi => ∃ k : Nat, k ≤ m1.length ∧ ii = .int .i64 k ∧ ORel b1 b2 w m1 m2 B1 c1 B2 c2 (L ++ (m1.take k).map goneE) v wi) (fun _ _ ii _ => m1.length - (intOf ii).toNat)
      case atStart => exact ⟨0, by omega, rfl, by simpa using OR.out⟩
      case round =>
        clear OR
        obtain ⟨k, hk, rfl, hor⟩ := hrel
        obtain ⟨A3, cap3, rfl⟩ := hor.own.shape
        have OR := Lib.hid hor
        by_cases hlt : k < m1.length
        · obtain ⟨b, off, x, rfl, _, hx, c0, e1, e2, e3⟩ := hor.w1.rd.it_at hlt
          have hle := hor.w1.rd.2.1
          have ht : L ++ (m1.take (k + 1)).map goneE = (L ++ (m1.take k).map goneE) ++ [goneE x] := by rw [List.take_add_one, hx]; simp
          have hll : (L ++ (m1.take k).map goneE).length + 1 ≤ S := by
            have := HSZ.out
            simp only [List.length_append, List.length_map, List.length_take]
            omega
          have hown := hor.own
          generalize L ++ (m1.take k).map goneE = LL at *
          have HT := Lib.hid ht
          have hs1 := hor.b.size
          have h64 : (LL.length + 1) * 64 ≤ 140737488355328 := by have := HS2.out; omega
          clear ht hx hor
          generalize hM : m1.length = M at *
          have HM := Lib.hid hM
          clear hM
          go_wp2_with (at_builtin; refine wpList_app1 Ed.vs 8 72 _ 64 infoEd rfl (by decide) rfl _ _ _ rfl Tryd.underlying40 w.heap.size _ LL rfl ((hown.alloc _).alloc _) (goneE x) _ _ rfl rfl (newAt _ _ _ _ (by simp)) (by simp [Ed.vs, goneE, zRc, Value.oneCell']) h64 (by unfold maxLen; omega) (by simp; omega) (fun v4 w4 hown4 hg4 _ => ?_))
          refine ⟨⟨k + 1, by omega, by go_num, ?_⟩, by simp [intOf]; omega⟩
          rw [HT.out]
          exact OR.out.app (alloc2_none _ _ _) hg4 hown4
        · have hk' : k = m1.length := by omega
          subst hk'
          simp only [List.take_length] at OR ⊢
          have hle := hor.w1.rd.2.1
          clear hor hlt hk
          generalize hLL : (L ++ m1.map goneE).length = Q at *
          clear hLL
          go_wp2_with fail
          go_loopw [5, 10, 64] (fun v _ ii wi => ∃ k : Nat, k ≤ m2.length ∧ ii = .int .i64 k ∧ ORel b1 b2 w m1 m2 B1 c1 B2 c2 ((L ++ m1.map goneE) ++ (m2.take k).map sayE) v wi) (fun _ _ ii _ => m2.length - (intOf ii).toNat)
          case atStart => exact ⟨0, by omega, rfl, by simpa using OR.out⟩
          case round =>
            clear OR
            obtain ⟨k, hk, rfl, hor⟩ := hrel
            obtain ⟨A3, cap3, rfl⟩ := hor.own.shape
            have OR := Lib.hid hor
            by_cases hlt : k < m2.length
            · obtain ⟨b, off, x, rfl, _, hx, c0, e1, e2, e3⟩ := hor.w2.rd.it_at hlt
              have hle := hor.w2.rd.2.1
              have ht : (L ++ m1.map goneE) ++ (m2.take (k + 1)).map sayE = ((L ++ m1.map goneE) ++ (m2.take k).map sayE) ++ [sayE x] := by rw [List.take_add_one, hx]; simp
              have hll : ((L ++ m1.map goneE) ++ (m2.take k).map sayE).length + 1 ≤ S := by
                have := HSZ.out
                simp only [List.length_append, List.length_map, List.length_take]
                omega
              have hown := hor.own
              generalize (L ++ m1.map goneE) ++ (m2.take k).map sayE = LL at *
              have HT := Lib.hid ht
              have hs1 := hor.b.size
              have h64 : (LL.length + 1) * 64 ≤ 140737488355328 := by have := HS2.out; omega
              clear ht hx hor
              generalize hM : m2.length = M at *
              have HM := Lib.hid hM
              clear hM
              go_wp2_with (at_builtin; refine wpList_app1 Ed.vs 8 72 _ 64 infoEd rfl (by decide) rfl _ _ _ rfl Tryd.underlying40 w.heap.size _ LL rfl ((hown.alloc _).alloc _) (sayE x) _ _ rfl rfl (newAt _ _ _ _ (by simp)) (by simp [Ed.vs, sayE, zRc, Value.oneCell']) h64 (by unfold maxLen; omega) (by simp; omega) (fun v4 w4 hown4 hg4 _ => ?_))
              refine ⟨⟨k + 1, by omega, by go_num, ?_⟩, by simp [intOf]; omega⟩
              rw [HT.out]
              exact OR.out.app (alloc2_none _ _ _) hg4 hown4
            · have hk' : k = m2.length := by omega
              subst hk'
              simp only [List.take_length] at OR ⊢
              have hle := hor.w2.rd.2.1
              clear hor hlt hk
              generalize hLL : ((L ++ m1.map goneE) ++ m2.map sayE).length = Q at *
              clear hLL
              go_wp2_with fail
              go_ret
              have o := OR.out.own
              rw [List.append_assoc, HF.out] at o
              exact ⟨_, rfl, o, OR.out.b⟩
    · by_cases hm2 : m2 = []
      · have HF : Hid (L ++ (m1.map goneE ++ m2.map sayE) = R) := by show _ = _; rw [← HR.out.r, turnF_out (.inr hm2)]
        have hd1 : decide (0 < m1.length) = true := by cases m1 with | nil => exact absurd rfl hm1 | cons _ _ => simp
        have hd2 : decide (0 < m2.length) = false := by rw [hm2]; rfl
        clear hm1 hm2
        have OR : Hid (ORel b1 b2 w m1 m2 B1 c1 B2 c2 L (.slice B3 L.length c3) wr) := ⟨HR.out.own, HR.out.w1, HR.out.w2, HR.out.b, HR.out.s1, HR.out.s2⟩
        have HSZ : Hid (L.length + m1.length + m2.length ≤ S) := HR.out.sz
        clear HR
        go_wp2_with fail
        clear hd1 hd2
        go_loopw [5, 8, 49] (fun v _ ii wi => ∃ k : Nat, k ≤ m1.length ∧ ii = .int .i64 k ∧ ORel b1 b2 w m1 m2 B1 c1 B2 c2 (L ++ (m1.take k).map goneE) v wi) (fun _ _ ii _ => m1.length - (intOf ii).toNat)
        case atStart => exact ⟨0, by omega, rfl, by simpa using OR.out⟩
        case round =>
          clear OR
          obtain ⟨k, hk, rfl, hor⟩ := hrel
          obtain ⟨A3, cap3, rfl⟩ := hor.own.shape
          have OR := Lib.hid hor
          by_cases hlt : k < m1.length
          · obtain ⟨b, off, x, rfl, _, hx, c0, e1, e2, e3⟩ := hor.w1.rd.it_at hlt
            have hle := hor.w1.rd.2.1
            have ht : L ++ (m1.take (k + 1)).map goneE = (L ++ (m1.take k).map goneE) ++ [goneE x] := by rw [List.take_add_one, hx]; simp
            have hll : (L ++ (m1.take k).map goneE).length + 1 ≤ S := by
              have := HSZ.out
              simp only [List.length_append, List.length_map, List.length_take]
              omega
            have hown := hor.own
            generalize L ++ (m1.take k).map goneE = LL at *
            have HT := Lib.hid ht
            have hs1 := hor.b.size
            have h64 : (LL.length + 1) * 64 ≤ 140737488355328 := by have := HS2.out; omega
            clear ht hx hor
            generalize hM : m1.length = M at *
            have HM := Lib.hid hM
            clear hM
            go_wp2_with (at_builtin; refine wpList_app1 Ed.vs 8 72 _ 64 infoEd rfl (by decide) rfl _ _ _ rfl Tryd.underlying40 w.heap.size _ LL rfl ((hown.alloc _).alloc _) (goneE x) _ _ rfl rfl (newAt _ _ _ _ (by simp)) (by simp [Ed.vs, goneE, zRc, Value.oneCell']) h64 (by unfold maxLen; omega) (by simp; omega) (fun v4 w4 hown4 hg4 _ => ?_))
            refine ⟨⟨k + 1, by omega, by go_num, ?_⟩, by simp [intOf]; omega⟩
            rw [HT.out]
            exact OR.out.app (alloc2_none _ _ _) hg4 hown4
          · have hk' : k = m1.length := by omega
            subst hk'
            simp only [List.take_length] at OR ⊢
            have hle := hor.w1.rd.2.1
            clear hor hlt hk
            generalize hLL : (L ++ m1.map goneE).length = Q at *
            clear hLL
            go_wp2_with fail
            go_loopw [5, 10, 64] (fun v _ ii wi => ∃ k : Nat, k ≤ m2.length ∧ ii = .int .i64 k ∧ ORel b1 b2 w m1 m2 B1 c1 B2 c2 ((L ++ m1.map goneE) ++ (m2.take k).map sayE) v wi) (fun _ _ ii _ => m2.length - (intOf ii).toNat)
            case atStart => exact ⟨0, by omega, rfl, by simpa using OR.out⟩
            case round =>
              clear OR
              obtain ⟨k, hk, rfl, hor⟩ := hrel
              obtain ⟨A3, cap3, rfl⟩ := hor.own.shape
              have OR := Lib.hid hor
              by_cases hlt : k < m2.length
              · obtain ⟨b, off, x, rfl, _, hx, c0, e1, e2, e3⟩ := hor.w2.rd.it_at hlt
                have hle := hor.w2.rd.2.1
                have ht : (L ++ m1.map goneE) ++ (m2.take (k + 1)).map sayE = ((L ++ m1.map goneE) ++ (m2.take k).map sayE) ++ [sayE x] := by rw [List.take_add_one, hx]; simp
                have hll : ((L ++ m1.map goneE) ++ (m2.take k).map sayE).length + 1 ≤ S := by
                  have := HSZ.out
                  simp only [List.length_append, List.length_map, List.length_take]
                  omega
                have hown := hor.own
                generalize (L ++ m1.map goneE) ++ (m2.take k).map sayE = LL at *
                have HT := Lib.hid ht
                have hs1 := hor.b.size
                have h64 : (LL.length + 1) * 64 ≤ 140737488355328 := by have := HS2.out; omega
                clear ht hx hor
                generalize hM : m2.length = M at *
                have HM := Lib.hid hM
                clear hM
                go_wp2_with (at_builtin; refine wpList_app1 Ed.vs 8 72 _ 64 infoEd rfl (by decide) rfl _ _ _ rfl Tryd.underlying40 w.heap.size _ LL rfl ((hown.alloc _).alloc _) (sayE x) _ _ rfl rfl (newAt _ _ _ _ (by simp)) (by simp [Ed.vs, sayE, zRc, Value.oneCell']) h64 (by unfold maxLen; omega) (by simp; omega) (fun v4 w4 hown4 hg4 _ => ?_))
                refine ⟨⟨k + 1, by omega, by go_num, ?_⟩, by simp [intOf]; omega⟩
                rw [HT.out]
                exact OR.out.app (alloc2_none _ _ _) hg4 hown4
              · have hk' : k = m2.length := by omega
                subst hk'
                simp only [List.take_length] at OR ⊢
                have hle := hor.w2.rd.2.1
                clear hor hlt hk
                generalize hLL : ((L ++ m1.map goneE) ++ m2.map sayE).length = Q at *
                clear hLL
                go_wp2_with fail
                go_ret
                have o := OR.out.own
                rw [List.append_assoc, HF.out] at o
                exact ⟨_, rfl, o, OR.out.b⟩
      · obtain ⟨x, r, rfl⟩ : ∃ x r, m1 = x :: r := by cases m1 with | nil => exact absurd rfl hm1 | cons x r => exact ⟨x, r, rfl⟩
        obtain ⟨y, s, rfl⟩ : ∃ y s, m2 = y :: s := by cases m2 with | nil => exact absurd rfl hm2 | cons y s => exact ⟨y, s, rfl⟩
        clear hm1 hm2
        -- BOTH
        obtain ⟨o1, k1, rfl, hc1, hl1, hb1, x0, x1, x2, x3⟩ := HR.out.w1.head
        obtain ⟨o2, k2, rfl, hc2, hl2, hb2, y0, y1, y2, y3⟩ := HR.out.w2.head
        obtain ⟨p1, p2⟩ := HR.out.p1 x List.mem_cons_self
        obtain ⟨q1, q2⟩ := HR.out.p2 y List.mem_cons_self
        have hm1 : 0 < min x.n y.n := by omega
        have hm2 : min x.n y.n ≤ x.n := by omega
        have hm3 : min x.n y.n ≤ y.n := by omega
        have ag : (Value.slice B3 L.length c3).ownBlock ≠ some b1 := fun e => by have := (HR.out.own.blk _ e).1; have := HR.out.s1 (by simp); omega
        have ak : (Value.slice B3 L.length c3).ownBlock ≠ some b2 := fun e => by have := (HR.out.own.blk _ e).1; have := HR.out.s2 (by simp); omega
        have hown : wr.ownsRow w.heap.size 72 8 (.slice B3 L.length c3) L.length (L.flatMap Ed.vs) := HR.out.own
        have hsz := HR.out.b.size
        have hL : (L.length + 1) * 64 ≤ 140737488355328 := by have := HR.out.sz; have := HS2.out; simp only [List.length_cons] at *; omega
        have lg := World.block_lt_of_cell? wr _ x0
        have lk := World.block_lt_of_cell? wr _ y0
        clear hb1 hb2
        simp only [List.length_cons]
        go_wp2_with fail
        go_region
        generalize hk : min x.n y.n = k at *
        have HK := Lib.hid hk
        go_wp2_with fail
        go_region_held3 (fun w' => w'.cell? ⟨b1, o1, none⟩ = some (.int .i64 x.r.at_) ∧ w'.cell? ⟨b1, o1 + 1, none⟩ = some (.int .i64 x.r.key) ∧ w'.cell? ⟨b1, o1 + 2, none⟩ = some (.int .i64 x.r.val) ∧ w'.cell? ⟨b2, o2, none⟩ = some (.int .i64 y.r.at_) ∧ w'.cell? ⟨b2, o2 + 1, none⟩ = some (.int .i64 y.r.key) ∧ w'.cell? ⟨b2, o2 + 2, none⟩ = some (.int .i64 y.r.val))
          (first
            | go_keep
            | (go_split_ands
               refine ⟨?_, ?_, ?_, ?_, ?_, ?_⟩
               · (rw [hgrow.cell_far _ (by simp; omega) (Ne.symm ag)]; assumption)
               · (rw [hgrow.cell_far _ (by simp; omega) (Ne.symm ag)]; assumption)
               · (rw [hgrow.cell_far _ (by simp; omega) (Ne.symm ag)]; assumption)
               · (rw [hgrow.cell_far _ (by simp; omega) (Ne.symm ak)]; assumption)
               · (rw [hgrow.cell_far _ (by simp; omega) (Ne.symm ak)]; assumption)
               · (rw [hgrow.cell_far _ (by simp; omega) (Ne.symm ak)]; assumption)))
          ((refine step_append_lies _ (by rfl) _ _ _ (by rfl) w.heap.size 72 i0 _ 8 64 Tryd.underlying40 hi0 hz0 hz1 hz2 rfl (by omega) (.slice B3 L.length c3) L.length (L.flatMap Ed.vs) (by rfl) ((hown.alloc _).drew)
              ⟨wr.heap.size, 0, none⟩ 1 1 [.int .i64 3, .int .i64 x.r.at_, .int .i64 x.r.key, .int .i64 x.r.val, .int .i64 y.r.at_, .int .i64 y.r.key, .int .i64 y.r.val, .int .i64 k] (by rfl) (by rfl) (World.news_of_block (cs := #[.int .i64 3, .int .i64 x.r.at_, .int .i64 x.r.key, .int .i64 x.r.val, .int .i64 y.r.at_, .int .i64 y.r.key, .int .i64 y.r.val, .int .i64 k]) (t := 72) (fr := (0, 0)) (heap_alloc_new wr _)) (by simp [Value.oneCell'])
              (by omega) (by unfold maxLen; omega) hL (by simp; omega) (wr.heap.size + 1) (by simp) ?_; intro gg cap w1 hown1 hgrow hat hlt))
        -- BOTHEND
        have HL1 : Hid (k ≤ x.n ∧ k ≤ y.n ∧ (k = x.n ∨ k = y.n) ∧ 0 < k) := ⟨by omega, by omega, by omega, by omega⟩
        have hwr1 : wr.grownBy w1 (Value.slice B3 L.length c3).ownBlock := ⟨hgrow.os, hgrow.tape, hgrow.output, Nat.le_trans (by simp) hgrow.size, fun i hi hne => (hgrow.block i (by simp; omega) hne).trans (Below.heap_alloc _ _ _ hi)⟩
        have AP := HR.out.app hwr1
        have HO1 := Lib.hid (own_ed (L := L) (e := ⟨3, x.r, y.r, k⟩) hown1 rfl rfl)
        have HAP := Lib.hid AP
        have LS1 := Lib.hid (less_any b1 _ c1 x r k w1 AP.1 (by omega))
        have HRR : Hid (L ++ [⟨3, x.r, y.r, k⟩] ++ turnF f (lessL (x :: r) k) (lessL (y :: s) k) = R) := by
          show _ = _
          rw [← HR.out.r, turnF, HK.out]
          simp
        clear AP hwr1 hgrow hown1 hown x0 x1 x2 x3 y0 y1 y2 y3 hm1 hm2 hm3 hat ag ak
        go_wp2_with fail
        (with_reducible refine LS1.out.mono ?_)
        rintro e w2 ⟨A5, c5, rfl, hw5, hg5⟩
        have hw6 := HAP.out.2.1.kept hg5 (fun _ e => HR.out.s3 (by simp) (by simp) (Option.some.inj e))
        have HW5 := Lib.hid hw5
        have HG5 := Lib.hid hg5
        have LS2 := Lib.hid (less_any b2 _ c2 y s k w2 hw6 (by omega))
        clear hw5 hg5 hw6 LS1
        go_wp2_with fail
        (with_reducible refine LS2.out.mono ?_)
        rintro e w3 ⟨A6, c6, rfl, hw7, hg7⟩
        have HW7 := Lib.hid hw7
        have HG7 := Lib.hid hg7
        have e1 := lessL_length x r k
        have e2 := lessL_length y s k
        have P1 := PosL.less HR.out.p1 HL1.out.2.2.2 HL1.out.1
        have P2 := PosL.less HR.out.p2 HL1.out.2.2.2 HL1.out.2.1
        have HP1 := Lib.hid P1
        have HP2 := Lib.hid P2
        clear hw7 hg7 LS2 P1 P2
        generalize lessL (x :: r) k = M1 at *
        generalize lessL (y :: s) k = M2 at *
        have lens : M1.length + M2.length < r.length + 1 + (s.length + 1) ∧ M1.length ≤ r.length + 1 ∧ M2.length ≤ s.length + 1 := by
          have := HL1.out.2.2.1
          split at e1 <;> split at e2 <;> omega
        have HLN := Lib.hid lens
        clear e1 e2 lens
        go_wp2_with fail
        have n1 : w.heap.size ≤ w1.heap.size := HAP.out.2.2.size
        refine ⟨⟨f, M1, M2, L ++ [⟨3, x.r, y.r, k⟩], A5, c5, A6, c6, rfl, rfl, ?_⟩, by have := HLN.out; simp [lenOf]; omega⟩
        have t1 := HR.out.s1 (by simp)
        have t2 := HR.out.s2 (by simp)
        have t3 := HR.out.s3 (by simp) (by simp)
        refine ⟨HW5.out.kept HG7.out (fun _ e => t3 (Option.some.inj e).symm), HW7.out, ?_, HRR.out, ?_, ?_, (HAP.out.2.2.then_ HG5.out (fun k e => .inr (.inl (Option.some.inj e).symm))).then_ HG7.out (fun k e => .inr (.inr (Option.some.inj e).symm)), HP1.out, HP2.out, fun _ => t1, fun _ => t2, fun _ _ => t3⟩
        · have o1 := HO1.out.grown HG5.out (.inr (fun e => by have := (HO1.out.blk _ e).1; omega))
          exact o1.grown HG7.out (.inr (fun e => by have := (o1.blk _ e).1; omega))
        · have := HLN.out; have := HR.out.lt; simp only [List.length_cons] at *; omega
        · have := HLN.out; have := HR.out.sz; simp only [List.length_cons, List.length_append, List.length_nil] at *; omega
end Go.Proofs.Bg
end

section
/- The contract of keys at map[int]sides: all keys of the map, increasing. -/
namespace Go.Proofs.Bg
open Go.RowKit

theorem infoInt : (Tryd.prog.info? 3).map (fun i => (i.zero, i.size, i.bytes)) = some (some (.int .i64 0), 1, 8) := by kernel_rfl
def IncrI (l : List Int) : Prop := l.Pairwise (fun x y => x < y)
theorem cmpI_swo : Go.Sort.SWO (ltOf cmpI) where
  irrefl x := by unfold ltOf cmpI; simp
  trans x y z h1 h2 := by
    unfold ltOf cmpI at *
    rw [decide_eq_true_iff] at *
    repeat' split at h1
    all_goals repeat' split at h2
    all_goals repeat' split
    all_goals omega
  ntrans x y z h1 h2 := by
    unfold ltOf cmpI at *
    rw [decide_eq_false_iff_not] at *
    repeat' split at h1
    all_goals repeat' split at h2
    all_goals repeat' split
    all_goals omega
theorem ltOf_cmpI (x y : Int) : ltOf cmpI x y = decide (x < y) := by
  unfold ltOf cmpI
  by_cases h : x < y
  · simp [h]
  · by_cases h2 : y < x <;> simp [h, h2]

open Go.Sort (grow Holds PermIn SortedIn) in
theorem incrI_of_sorted {d d' : Array Int} (hp : PermIn 0 d.size d d') (hs : SortedIn (ltOf cmpI) 0 d.size d') (hn : d.toList.Nodup) : IncrI d'.toList ∧ d'.toList.Perm d.toList := by
  obtain ⟨h1, _, h3⟩ := hp
  have hp' : d'.toList.Perm d.toList := by
    have e1 : d'.extract 0 d.size = d' := by rw [← h1]; simp
    have e2 : d.extract 0 d.size = d := by simp
    rw [e1, e2] at h3
    exact h3
  refine ⟨List.pairwise_iff_getElem.2 fun i j hi hj hij => ?_, hp'⟩
  have hi' : i < d'.size := by simpa using hi
  have hj' : j < d'.size := by simpa using hj
  have h := hs i j (Nat.zero_le _) hij (by omega)
  rw [getElem!_pos d' j hj', getElem!_pos d' i hi', ltOf_cmpI] at h
  have hne : d'[i] ≠ d'[j] := by
    intro e
    have hnn := (hp'.nodup_iff).2 hn
    have := (List.getElem_inj hnn (h₀ := hi) (h₁ := hj)).1 (by simpa using e)
    omega
  have h' : ¬ d'[j] < d'[i] := by simpa using h
  have : d'[i] < d'[j] := by omega
  simpa using this

theorem holds_of_own {w : World} {base g cap : Nat} {l : List Int} (h : Own iv 1 3 base w (.slice (some ⟨g, 0, none⟩) l.length cap) l) : Go.Sort.Holds (Value.int .i64) w g 0 l.toArray := by
  intro j hj
  have hj' : j < l.length := by simpa using hj
  have hx : l[j]? = some l[j] := List.getElem?_eq_getElem hj'
  have hf := flat_at iv_length l j _ hx 0 (.int .i64 l[j]) rfl
  have hc := World.ownsRow.cellAt h j (by first | omega | (rw [flat_length iv_length]; omega))
  have e0 : j * 1 + 0 = j := by omega
  rw [e0] at hf
  refine ⟨?_, by rw [Nat.zero_add]; exact World.ownsRow.frozenAt h j⟩
  rw [Nat.zero_add, hc, hf]
  simp [hj']
theorem rd_of_holds {w : World} {base g : Nat} {l : List Int} (h : Go.Sort.Holds (Value.int .i64) w g 0 l.toArray) (hb : base ≤ g) (hl : l.length ≤ 9223372036854775807) : Rd iv 1 w base (some ⟨g, 0, none⟩) l.length l := by
  refine ⟨rfl, hl, fun _ => ⟨g, 0, rfl, hb, fun i x hx j v hv => ?_⟩⟩
  have hi : i < l.length := (List.getElem?_eq_some_iff.1 hx).1
  have e : j = 0 ∧ v = .int .i64 x := by
    cases j with
    | zero => exact ⟨rfl, by cases hv; rfl⟩
    | succ j => cases hv
  obtain ⟨rfl, rfl⟩ := e
  have hc := (h i (by simpa using hi)).1
  have e1 : l.toArray[i]! = x := by
    have := (List.getElem?_eq_some_iff.1 hx).2
    simp [hi, this]
  rw [e1] at hc
  have e0 : 0 + i * 1 + 0 = 0 + i := by omega
  rw [e0]
  exact hc

theorem cmpE_any (a b : Int) (w : World) : Calls Tryd.prog 44 #[.int .i64 a, .int .i64 b] w fun e w' => e = .returned (.int .i64 (cmpI a b)) ∧ w = w' := by
  have HC := Lib.hid (cmpCompare_any a b w)
  generalize cmpI a b = q at HC ⊢
  go_enter Tryd.func44, Tryd.ntmps44
  go_wp2_with (go_at_call 45; (with_reducible refine HC.out.mono ?_); rintro e w' ⟨rfl, rfl⟩)
  go_ret
  exact ⟨rfl, rfl⟩

open Go.Sort (grow Holds) in
theorem sortI_any (base : Nat) (A : Option Addr) (cap : Nat) (l : List Int) (w : World) (h : Own iv 1 3 base w (.slice A l.length cap) l) (hn : l.Nodup) (hlen : l.length < 4611686018427387904) :
    Calls Tryd.prog 66 #[.slice A l.length cap, .func (.func 44) #[] #[]] w fun e w' => e = .returned (.tuple #[]) ∧ ∃ l', l'.length = l.length ∧ IncrI l' ∧ l'.Perm l ∧ Rd iv 1 w' base A l.length l' ∧ w.grownBy w' (Value.slice A l.length cap).ownBlock := by
  by_cases h0 : l = []
  · subst h0
    have hc := Tryd.slices_SortFunc_none (α := Int) A cap (.func (.func 44) #[] #[]) w
    exact hc.mono fun e w' ⟨he, hw⟩ => ⟨he, [], rfl, List.Pairwise.nil, List.Perm.refl _, Rd.nil _ _ _, by rw [hw]; exact World.grownBy.refl _ _⟩
  · have hpos : 0 < l.length := List.length_pos_iff.2 h0
    have hH := h
    rcases h.2 with ⟨_, e0⟩ | ⟨g, cap', cur, hv, hbase, hb, _⟩
    · omega
    · cases hv
      have hgl : g < w.heap.size := (Array.getElem?_eq_some_iff.1 hb).1
      have eg : ∀ args w, (callFunc 44 args).run Tryd.prog w = .ok (.enter 44 args) w := enters_of Tryd.func44 (by kernel_rfl) rfl
      have hHK := holds_of_own hH
      have hc := Tryd.slices_SortFunc (Value.int .i64) (fun _ => rfl) cmpI cmpI_swo 44 #[] g 0 cap l.toArray w eg (fun m os dk _ x y => (cmpE_any x y _).mono fun e w' ⟨he, hw⟩ => ⟨he, 0, #[], by rw [← hw, Go.Sort.grow_empty]; rfl⟩) hHK hgl (by simpa using hlen)
      simp only [List.size_toArray] at hc
      refine hc.mono ?_
      rintro e w' ⟨he, d', n, os, hp, hs, hw⟩
      have hsz : d'.size = l.length := by simpa using hp.1
      obtain ⟨hi, hpm⟩ := incrI_of_sorted (d := l.toArray) (by simpa using hp) (by simpa using hs) (by simpa using hn)
      refine ⟨he, d'.toList, by simpa using hsz, hi, by simpa using hpm, ?_, ?_⟩
      · have hk : Holds (Value.int .i64) w' g 0 d' := by
          rw [hw]
          unfold sortWorld
          refine Go.Sort.holds_grow (Value.int .i64) _ _ _ _ _ ?_ (Go.Sort.holds_putRow (Value.int .i64) _ _ _ l.toArray d' (Go.Sort.holds_ahead (Value.int .i64) _ _ _ _ _ hHK) (by simpa using hsz))
          simpa [Go.Sort.putRow, Go.Sort.mapBlock] using hgl
        have := rd_of_holds (l := d'.toList) (by simpa using hk) hbase (by simp [hsz]; omega)
        simpa [hsz] using this
      · rw [hw]
        exact grownBy_row _ _

/-- A key's two sides. -/
structure Sd where
  m : Value
  t : Value
def ekI (n : Int) : Value := .int .i64 n
def evS (s : Sd) : Value := .agg #[s.m, s.t]
theorem ekI_inj (a b : Int) (h : ekI a = ekI b) : a = b := by cases h; rfl
abbrev MapS (w : World) (r : Nat) (kv : List (Int × Sd)) : Prop := MapIs Tryd.prog 3 ekI evS w r kv
abbrev RangeS (w : World) (r it : Nat) (kv : List (Int × Sd)) (done : List Int) : Prop := RangeIs Tryd.prog 3 ekI evS w r it kv done
def KeysIRel (w : World) (r it : Nat) (kv : List (Int × Sd)) (v : Value) (done : List Int) (wr : World) : Prop :=
  RangeS wr r it kv done ∧ Own iv 1 3 w.heap.size wr v done ∧ v.ownBlock ≠ some it ∧ Below w.heap.size w wr ∧ w.heap.size ≤ it

set_option maxRecDepth 100000 in
set_option maxHeartbeats 1000000 in
theorem keysI_any (r : Nat) (kv : List (Int × Sd)) (w : World) (h : MapS w r kv) (hlen : kv.length * 24 ≤ 140737488355328) :
    Calls Tryd.prog 43 #[.map (some r), .func (.func 44) #[] #[]] w fun e w' => ∃ A cap l, e = .returned (.slice A l.length cap) ∧ IncrI l ∧ l.Perm (kv.map Prod.fst) ∧ Rd iv 1 w' w.heap.size A l.length l ∧ Below w.heap.size w w' := by
  obtain ⟨i0, hi, hz0, hz1, hz2⟩ := info_parts infoInt
  go_enter Tryd.func43, Tryd.ntmps43
  go_wp2_with (first
    | (at_len; refine wpList_len_is rfl _ _ rfl Tryd.underlying77 rfl h ?_)
    | (at_make; refine wpList_make_own w rfl _ _ _ rfl w.heap.size 3 i0 _ 1 Tryd.underlying59 hi hz0 hz1 .i64 .i64 _ kv.length rfl rfl rfl (by rw [hz2]; omega) (by unfold maxLen; omega) (Nat.le_refl _) ?_; intro w1 hown1 hg1)
    | (at_range; refine wpList_range_is rfl _ _ rfl Tryd.underlying77 rfl (h.grown hg1 (by simp)) ?_; intro w2 hrg hg2 hsz2))
  have hown2 : Own iv 1 3 w.heap.size w2 (.slice (some ⟨w.heap.size, 0, none⟩) 0 kv.length) [] := World.ownsRow.kept hown1 hg2 (.inr (by simp [Value.ownBlock]))
  have hne : (Value.slice (some ⟨w.heap.size, 0, none⟩) 0 kv.length).ownBlock ≠ some w1.heap.size := fun e => by
    have := (World.ownsRow.lt hown1 w.heap.size rfl).2
    simp [Value.ownBlock] at e
    omega
  have hB2 : Below w.heap.size w w2 := ((Below.refl _ _).grown hg1 (Nat.le_refl _) (by simp)).grown hg2 hg1.size (by simp)
  have hrel0 : KeysIRel w r w1.heap.size kv (.slice (some ⟨w.heap.size, 0, none⟩) 0 kv.length) [] w2 := ⟨hrg, hown2, hne, hB2, hg1.size⟩
  have hrl := h.lt
  generalize w1.heap.size = it at hrel0
  clear hown1 hown2 hne hB2 hrg hg1 hg2 hsz2 h
  go_frame
  go_loopw [5, 6] (fun v _ wr => ∃ done, KeysIRel w r it kv v done wr) (fun v _ _ => kv.length - lenOf v)
  case atStart => exact ⟨[], hrel0⟩
  case round =>
    clear hrel0
    obtain ⟨done, hrg, hown, hne, hB, hit⟩ := hrel
    obtain ⟨A, cap, rfl⟩ := hown.shape
    have HB := Lib.hid hB
    clear hB
    go_wp2_with (first
      | (at_next; refine wpList_next_is rfl _ rfl ekI_inj rfl hrg (fun hp => ?_) (fun key v w3 hlt hmem hrg3 hg3 hsz3 hen => ?_); rotate_left 1; (change wpList _ _ _ _ (Act.put _ _ (Value.tuple #[.bool true, .int .i64 key, .agg #[v.m, v.t]])) _; change _ = Result.ok (Value.tuple #[.int .i64 key, .agg #[v.m, v.t]]) w3 at hen; have HSZ := Lib.hid hsz3; clear hsz3))
      | (at_builtin; go_loud (refine wpList_app1 iv 1 3 _ 8 infoInt rfl (by decide) rfl _ _ _ rfl Tryd.underlying59 w.heap.size _ done rfl ((hown.grown hg3 (.inr hne)).alloc _) key _ _ rfl rfl (newAt _ _ _ _ (by simp)) (by simp [iv, Value.oneCell']) (by omega) (by unfold maxLen; omega) (by have := HB.out.size; have := HSZ.out; simp; omega) (fun v4 w4 hown4 hg4 hloc => ?_))))
    · refine ⟨⟨done ++ [key], ?_, hown4, ?_, ?_, hit⟩, ?_⟩
      · exact (hrg3.alloc _).grown hg4 (fun e => by have := (hown.blk r e.symm).1; omega) (fun e => hne e.symm)
      · rcases hloc with e | e
        · rw [e]; exact hne
        · rw [e]
          intro e2
          have := hrg3.lt
          simp at e2
          omega
      · exact ((HB.out.grown hg3 HB.out.size (fun k hk => by cases hk; exact hit)).alloc (by have := HB.out.size; have := HSZ.out; omega) _).grown hg4 (by have := HB.out.size; have := HSZ.out; simp; omega) (fun k hk => (hown.blk k hk).1)
      · obtain ⟨A4, cap4, rfl⟩ := hown4.shape
        simp [lenOf]
        omega
    · have hnd : done.Nodup := hrg.2.2.1
      have hcnt := hrg.count
      have hown' := hown
      have hc := sortI_any w.heap.size A cap done wr hown hnd (by omega)
      have HC := Lib.hid hc
      clear hrg hne hc hown
      go_wp2_with (go_at_call 66; refine HC.out.mono ?_; rintro e w5 ⟨rfl, l', hl', hi', hp', hr', hg'⟩)
      go_ret
      refine ⟨A, cap, l', by rw [hl']; rfl, hi', hp'.trans hp, by rw [hl']; exact hr', HB.out.grown hg' HB.out.size (fun k hk => (hown'.blk k hk).1)⟩
end Go.Proofs.Bg
end

section
/- Plain law: the edits from one bag to another one. -/
namespace Go.Proofs.Bg

def missL (l : List It) (k : Int) : List It := (l.filter (fun x => decide (x.r.key = k) && decide (x.n < 0))).map negIt
def thereL (l : List It) (k : Int) : List It := l.filter (fun x => decide (x.r.key = k) && !decide (x.n < 0))
def sideL (l : List It) (k : Int) (b : Bool) : List It := if b then thereL l k else missL l k
/-- What an item adds to its side. -/
def sideI (x : It) : It := if x.n < 0 then negIt x else x
theorem sideL_snoc (l : List It) (x : It) (k : Int) (b : Bool) : sideL (l ++ [x]) k b = if k = x.r.key ∧ b = !decide (x.n < 0) then sideL l k b ++ [sideI x] else sideL l k b := by
  by_cases hk : x.r.key = k
  · subst hk
    by_cases hn : x.n < 0 <;> cases b <;> simp [sideL, missL, thereL, sideI, List.filter_append, hn]
  · have : ¬ k = x.r.key := fun e => hk e.symm
    cases b <;> simp [sideL, missL, thereL, List.filter_append, hk, this]

def insI (k : Int) : List Int → List Int
  | [] => [k]
  | y :: r => if k < y then k :: y :: r else if k = y then y :: r else y :: insI k r
def keysL : List It → List Int
  | [] => []
  | x :: r => insI x.r.key (keysL r)
theorem insI_mem (k : Int) (l : List Int) (z : Int) : z ∈ insI k l ↔ z = k ∨ z ∈ l := by
  induction l with
  | nil => simp [insI]
  | cons y r ih =>
    rw [insI]
    split
    · simp
    · split
      · rename_i h; subst h; simp
      · simp only [List.mem_cons, ih]; constructor <;> (intro h; rcases h with h | h | h <;> simp [h])
theorem insI_incr (k : Int) (l : List Int) (h : IncrI l) : IncrI (insI k l) := by
  induction l with
  | nil => simp [insI, IncrI]
  | cons y r ih =>
    obtain ⟨h1, h2⟩ := List.pairwise_cons.1 h
    rw [insI]
    split
    · rename_i hc
      refine List.pairwise_cons.2 ⟨fun z hz => ?_, h⟩
      rcases List.mem_cons.1 hz with e | hm
      · omega
      · have := h1 z hm; omega
    · split
      · exact h
      · refine List.pairwise_cons.2 ⟨fun z hz => ?_, ih h2⟩
        rcases (insI_mem k r z).1 hz with e | hm
        · omega
        · exact h1 z hm
theorem keysL_mem (l : List It) (z : Int) : z ∈ keysL l ↔ z ∈ l.map (·.r.key) := by
  induction l with
  | nil => simp [keysL]
  | cons x r ih => rw [keysL, insI_mem, ih]; simp
theorem keysL_incr (l : List It) : IncrI (keysL l) := by
  induction l with
  | nil => simp [keysL, IncrI]
  | cons x r ih => exact insI_incr _ _ ih
theorem incrI_uniq : ∀ {a b : List Int}, IncrI a → IncrI b → (∀ z, z ∈ a ↔ z ∈ b) → a = b
  | [], [], _, _, _ => rfl
  | [], y :: s, _, _, h => absurd ((h y).2 List.mem_cons_self) (by simp)
  | x :: r, [], _, _, h => absurd ((h x).1 List.mem_cons_self) (by simp)
  | x :: r, y :: s, ha, hb, h => by
    obtain ⟨a1, a2⟩ := List.pairwise_cons.1 ha
    obtain ⟨b1, b2⟩ := List.pairwise_cons.1 hb
    have hxy : x = y := by
      rcases List.mem_cons.1 ((h x).1 List.mem_cons_self) with e | m
      · exact e
      · rcases List.mem_cons.1 ((h y).2 List.mem_cons_self) with e | m'
        · exact e.symm
        · have := a1 y m'; have := b1 x m; omega
    subst hxy
    have : r = s := incrI_uniq a2 b2 fun z => by
      constructor
      · intro hz
        rcases List.mem_cons.1 ((h z).1 (List.mem_cons_of_mem _ hz)) with e | m
        · have := a1 z hz; omega
        · exact m
      · intro hz
        rcases List.mem_cons.1 ((h z).2 (List.mem_cons_of_mem _ hz)) with e | m
        · have := b1 z hz; omega
        · exact m
    rw [this]

/-- The edits of the items that part two bags. -/
def edKey (d : List It) (k : Int) : List Ed := turnL (missL d k) (thereL d k)
def editsL (d : List It) : List Ed := (keysL d).flatMap (edKey d)
def diffL (a b : List It) : List It := canon (a.map negIt ++ b)
def bigE (l : List Ed) : Bool := l.any (fun x => decide (1000000 < x.n))
def editsR (a b : List It) : List Ed × Int := if bagB a && bagB b then (if bigE (editsL (diffL a b)) then ([], 3) else (editsL (diffL a b), 0)) else ([], 2)

theorem turnF_length : ∀ (f : Nat) (l1 l2 : List It), (turnF f l1 l2).length ≤ l1.length + l2.length
  | 0, _, _ => by simp [turnF]
  | f + 1, [], l2 => by simp [turnF]
  | f + 1, x :: r, [] => by simp [turnF]
  | f + 1, x :: r, y :: s => by
    rw [turnF, List.length_cons]
    have h := turnF_length f (lessL (x :: r) (min x.n y.n)) (lessL (y :: s) (min x.n y.n))
    have e1 := lessL_length x r (min x.n y.n)
    have e2 := lessL_length y s (min x.n y.n)
    have : x.n = min x.n y.n ∨ y.n = min x.n y.n := by omega
    simp only [List.length_cons]
    split at e1 <;> split at e2 <;> omega
theorem missL_length (l : List It) (k : Int) : (missL l k).length ≤ l.length := by
  rw [missL, List.length_map]; exact List.length_filter_le _ _
theorem thereL_length (l : List It) (k : Int) : (thereL l k).length ≤ l.length := List.length_filter_le _ _
theorem edKey_length (l : List It) (k : Int) : (edKey l k).length ≤ 2 * l.length := by
  have h1 := turnF_length ((missL l k).length + (thereL l k).length + 1) (missL l k) (thereL l k)
  have h2 := missL_length l k
  have h3 := thereL_length l k
  unfold edKey turnL
  omega
theorem edKey_pos {l : List It} {k : Int} (h : k ∈ l.map (·.r.key)) : edKey l k ≠ [] := by
  obtain ⟨x, hx, rfl⟩ := List.mem_map.1 h
  have hne : missL l x.r.key ≠ [] ∨ thereL l x.r.key ≠ [] := by
    by_cases hn : x.n < 0
    · refine .inl (List.ne_nil_of_mem (a := negIt x) (List.mem_map.2 ⟨x, List.mem_filter.2 ⟨hx, by simp [hn]⟩, rfl⟩))
    · exact .inr (List.ne_nil_of_mem (a := x) (List.mem_filter.2 ⟨hx, by simp; omega⟩))
  unfold edKey turnL
  cases h1 : missL l x.r.key with
  | nil =>
    cases h2 : thereL l x.r.key with
    | nil => rw [h1, h2] at hne; simp at hne
    | cons y s => simp [turnF]
  | cons y s =>
    cases h2 : thereL l x.r.key with
    | nil => simp [turnF]
    | cons z t => simp [turnF]
theorem insIt_length (x : It) (m : List It) : (insIt x m).length ≤ m.length + 1 := by
  induction m with
  | nil => simp [insIt]
  | cons y r ih => rw [insIt]; repeat' split; all_goals simp; try omega
theorem gather_length (l : List It) : (gather l).length ≤ l.length := by
  induction l with
  | nil => simp [gather]
  | cons x r ih => rw [gather]; have := insIt_length x (gather r); simp; omega
theorem canon_length (l : List It) : (canon l).length ≤ l.length := Nat.le_trans (List.length_filter_le _ _) (gather_length l)
theorem gather_mem (l : List It) : ∀ k ∈ (gather l).map (·.r), k ∈ l.map (·.r) := by
  induction l with
  | nil => simp [gather]
  | cons x r ih =>
    intro k hk
    rcases insIt_mem x _ k hk with h | h
    · simp [h]
    · have := ih k h; simp at this ⊢; exact .inr this
theorem canon_mem (l : List It) : ∀ k ∈ (canon l).map (·.r), k ∈ l.map (·.r) := fun k hk => by
  obtain ⟨x, hx, rfl⟩ := List.mem_map.1 hk
  exact gather_mem l _ (List.mem_map.2 ⟨x, (List.mem_filter.1 hx).1, rfl⟩)
theorem sumN_at {m : List It} (h : Incr (m.map (·.r))) {x : It} (hx : x ∈ m) : sumN m x.r = x.n := by
  induction m with
  | nil => cases hx
  | cons y r ih =>
    have hy := incr_not_head (by simpa using h)
    rcases List.mem_cons.1 hx with rfl | hx
    · rw [sumN, if_pos rfl, sumN_none hy]; omega
    · have : y.r ≠ x.r := fun e => hy (by rw [e]; exact List.mem_map.2 ⟨x, hx, rfl⟩)
      rw [sumN, if_neg this, ih (incr_tail (by simpa using h)) hx]; omega
theorem canon_bdd {B : Int} (hB : 0 ≤ B) {l : List It} (h : Bdd B l) : Bdd (B * l.length) (canon l) := fun x hx => by
  have e := sumN_at (canon_is l).incr hx
  rw [(canon_is l).sums] at e
  have := sumN_bdd hB h x.r
  omega
theorem bagB_neg {a : List It} (h : bagB a = true) : bagB (a.map negIt) = true := by
  rw [bagB_spec] at h ⊢
  refine ⟨fun x hx => ?_, by simpa [negIt, Function.comp_def] using h.2.1, by simpa using h.2.2⟩
  obtain ⟨y, hy, rfl⟩ := List.mem_map.1 hx
  have := (itB_spec y).1 (h.1 y hy)
  exact (itB_spec _).2 (by simp only [negIt]; omega)
/-- What the walk asks of the items that part two bags. -/
structure DOk (d : List It) : Prop where
  len : d.length ≤ 600
  ok : ∀ x ∈ d, x.r.ok ∧ -600000000 ≤ x.n ∧ x.n ≤ 600000000 ∧ x.n ≠ 0
theorem diff_ok {a b : List It} (ha : bagB a = true) (hb : bagB b = true) : DOk (diffL a b) := by
  have hf := fits_two (bagB_neg ha) hb
  have h1 := ((bagB_spec a).1 ha).2.2
  have h2 := ((bagB_spec b).1 hb).2.2
  have hB : Bdd 1000000 (a.map negIt ++ b) := fun x hx => by
    have : itB x = true := (List.mem_append.1 hx).elim (((bagB_spec _).1 (bagB_neg ha)).1 x) (((bagB_spec b).1 hb).1 x)
    have := (itB_spec x).1 this
    omega
  have hl := canon_length (a.map negIt ++ b)
  have hl2 : (a.map negIt ++ b).length ≤ 600 := by simp; omega
  refine ⟨by unfold diffL; omega, fun x hx => ?_⟩
  have hb := canon_bdd (by omega) hB x hx
  have hm := canon_mem _ _ (List.mem_map.2 ⟨x, hx, rfl⟩)
  obtain ⟨y, hy, e⟩ := List.mem_map.1 hm
  refine ⟨by rw [← e]; exact hf.ok y hy, by omega, by omega, (canon_is _).not0 x hx⟩
theorem sideL_pos {d : List It} (h : DOk d) (k : Int) (b : Bool) : PosL (sideL d k b) := by
  intro x hx
  cases b with
  | false =>
    obtain ⟨y, hy, rfl⟩ := List.mem_map.1 (show x ∈ missL d k from hx)
    obtain ⟨hy, hc⟩ := List.mem_filter.1 hy
    have := h.ok y hy
    simp at hc
    simp only [negIt]; omega
  | true =>
    obtain ⟨hy, hc⟩ := List.mem_filter.1 (show x ∈ thereL d k from hx)
    have := h.ok x hy
    simp at hc
    omega
end Go.Proofs.Bg
end

section
/- The sides of a key in memory. -/
namespace Go.Proofs.Bg
open Go.RowKit

def nilV : Value := .slice none 0 0
def sv (kv : List (Int × Sd)) (key : Int) (b : Bool) : Value := match getKV kv key with
  | some s => if b then s.t else s.m
  | none => nilV
def putSd (kv : List (Int × Sd)) (key : Int) (b : Bool) (v : Value) : List (Int × Sd) := putKV kv key (if b then ⟨sv kv key false, v⟩ else ⟨v, sv kv key true⟩)
theorem sv_put (kv : List (Int × Sd)) (key : Int) (b : Bool) (v : Value) (key' : Int) (b' : Bool) : sv (putSd kv key b v) key' b' = if key' = key ∧ b' = b then v else sv kv key' b' := by
  unfold putSd
  by_cases hk : key' = key
  · subst hk
    have : ∀ s, sv (putKV kv key' s) key' b' = if b' then s.t else s.m := fun s => by simp [sv, getKV_put]
    rw [this]
    cases b <;> cases b' <;> simp
  · have : ∀ s, sv (putKV kv key s) key' b' = sv kv key' b' := fun s => by simp [sv, getKV_put, Ne.symm hk]
    rw [this, if_neg (fun h => hk h.1)]

theorem map_not_own {w : World} {r g : Nat} {kv : List (Int × Sd)} (h : MapS w r kv) {α : Type} {enc : α → List Value} {sz : Nat} {T : TypeId} {base : Nat} {v : Value} {l : List α} (ho : Own enc sz T base w v l) (hv : v.ownBlock = some g) : g ≠ r := by
  rintro rfl
  obtain ⟨_, es, clock, hb, _⟩ := h
  rcases ho.2 with ⟨e, _⟩ | ⟨g', cap, cur, e, _, hb', _⟩
  · rw [e] at hv; cases hv
  · rw [e] at hv
    have : g' = g := Option.some.inj hv
    subst this
    rw [hb] at hb'
    cases hb'

theorem Own.low {α : Type} {enc : α → List Value} {sz : Nat} {T : TypeId} {base base' : Nat} {w : World} {v : Value} {l : List α} (h : Own enc sz T base w v l) (hb : base' ≤ base) : Own enc sz T base' w v l :=
  ⟨h.1, h.2.imp_right fun ⟨g, cap, cur, e, hg, hrest⟩ => ⟨g, cap, cur, e, Nat.le_trans hb hg, hrest⟩⟩
/-- What the first loop holds: each key's sides, each in a block of its own. -/
structure SRel (r : Nat) (w0 ws : World) (l : List It) (kv : List (Int × Sd)) (wr : World) : Prop where
  map : MapS wr r kv
  own : ∀ key b, Own It.vs 4 33 ws.heap.size wr (sv kv key b) (sideL l key b)
  dis : ∀ key b key' b', ¬ (key = key' ∧ b = b') → ∀ g, (sv kv key b).ownBlock = some g → (sv kv key' b').ownBlock ≠ some g
  keys : ∀ key, key ∈ kv.map Prod.fst ↔ key ∈ l.map (·.r.key)
  len : kv.length ≤ l.length
  below : Below w0.heap.size w0 wr
  lo : w0.heap.size ≤ r
  los : w0.heap.size ≤ ws.heap.size
  sz : ws.heap.size ≤ wr.heap.size
  kept : ∀ K, K < ws.heap.size → K ≠ r → wr.heap[K]? = ws.heap[K]?

theorem SRel.start {r : Nat} {w0 wr : World} (hm : MapS wr r []) (hb : Below w0.heap.size w0 wr) (hr : w0.heap.size ≤ r) : SRel r w0 wr [] [] wr where
  map := hm
  own key b := by cases b <;> exact Own.nil _ _ _ _ _
  dis key b key' b' _ g h := by cases h
  keys key := by simp
  len := Nat.le_refl _
  below := hb
  lo := hr
  los := hb.size
  sz := Nat.le_refl _
  kept _ _ _ := rfl
theorem SRel.rd {r : Nat} {w0 ws wr : World} {l : List It} {kv : List (Int × Sd)} (h : SRel r w0 ws l kv wr) {lo n : Nat} {A : Option Addr} {d : List It} (hr : Rd It.vs 4 ws lo A n d) (hlo : r < lo) : Rd It.vs 4 wr lo A n d := by
  refine ⟨hr.1, hr.2.1, fun h0 => ?_⟩
  obtain ⟨b, off, rfl, hl, hcell⟩ := hr.2.2 h0
  refine ⟨b, off, rfl, hl, fun i y hy j v hv => ?_⟩
  have h1 := hcell i y hy j v hv
  have hlt := World.block_lt_of_cell? ws _ h1
  have hlt' : b < ws.heap.size := hlt
  exact (World.cell?_of_block (w := ws) (a := ⟨b, off + i * 4 + j, none⟩) (h.kept b hlt' (by omega))).trans h1

theorem grownBy_none_then {a b c : World} {row : Option Nat} (h : a.grownBy b none) (k : b.grownBy c row) : a.grownBy c row :=
  ⟨k.os.trans h.os, k.tape.trans h.tape, k.output.trans h.output, Nat.le_trans h.size k.size, fun i hi hne => (k.block i (Nat.lt_of_lt_of_le hi h.size) hne).trans (h.block i hi (by simp))⟩

/-- The map as the walk meets it at the update. -/
theorem SRel.mapAt {r : Nat} {w0 ws : World} {l : List It} {kv : List (Int × Sd)} {wr W w4 w5 : World} (h : SRel r w0 ws l kv wr) {key : Int} {b : Bool} (h0 : wr.grownBy W none) (hg4 : W.grownBy w4 (sv kv key b).ownBlock) {gb : Nat} (hgb : wr.heap.size ≤ gb) (hg5 : w4.grownBy w5 (some gb)) : MapS w5 r kv := by
  have h1 : MapS W r kv := h.map.grown h0 (by simp)
  have h2 : MapS w4 r kv := h1.grown hg4 (fun e => map_not_own h.map (h.own key b) e.symm rfl)
  exact h2.grown hg5 (fun e => by have := Option.some.inj e; have := h.map.lt; omega)

theorem SRel.step {r : Nat} {w0 ws : World} {l : List It} {kv : List (Int × Sd)} {wr W w4 w5 w6 : World} (h : SRel r w0 ws l kv wr) (x : It) {v4 : Value} {gb : Nat} (h0 : wr.grownBy W none)
    (hown4 : Own It.vs 4 33 ws.heap.size w4 v4 (sideL l x.r.key (!decide (x.n < 0)) ++ [sideI x])) (hg4 : W.grownBy w4 (sv kv x.r.key (!decide (x.n < 0))).ownBlock)
    (hloc : v4.ownBlock = (sv kv x.r.key (!decide (x.n < 0))).ownBlock ∨ v4.ownBlock = some W.heap.size) (hgb : wr.heap.size ≤ gb) (hgb2 : gb < W.heap.size) (hg5 : w4.grownBy w5 (some gb))
    (hm6 : MapS w6 r (putSd kv x.r.key (!decide (x.n < 0)) v4)) (hg6 : w5.grownBy w6 (some r)) : SRel r w0 ws (l ++ [x]) (putSd kv x.r.key (!decide (x.n < 0)) v4) w6 := by
  generalize hbb : (!decide (x.n < 0)) = bb at *
  have hlt : ∀ key b g, (sv kv key b).ownBlock = some g → ws.heap.size ≤ g ∧ g < wr.heap.size ∧ g ≠ r := fun key b g e => ⟨((h.own key b).blk g e).1, ((h.own key b).blk g e).2, map_not_own h.map (h.own key b) e⟩
  have hgg : ∀ key b, ¬ (key = x.r.key ∧ b = bb) → Own It.vs 4 33 ws.heap.size w6 (sv kv key b) (sideL l key b) := fun key b hne => by
    have o1 := (h.own key b).grown h0 (by cases (sv kv key b).ownBlock <;> simp)
    have o2 := o1.grown hg4 (by
      cases e : (sv kv key b).ownBlock with
      | none => exact .inl rfl
      | some g => exact .inr (fun e2 => h.dis key b _ _ hne g e e2.symm))
    have o3 := o2.grown hg5 (.inr (fun e => by have := (hlt key b _ e).2.1; omega))
    exact o3.grown hg6 (.inr (fun e => (hlt key b _ e).2.2 rfl))
  have ho6 : Own It.vs 4 33 ws.heap.size w6 v4 (sideL l x.r.key bb ++ [sideI x]) := by
    have hb4 : ∀ g, v4.ownBlock = some g → g ≠ gb ∧ g ≠ r := fun g e => by
      have hrl := h.map.lt
      rcases hloc with e2 | e2
      · rw [e2] at e
        have := hlt _ _ g e
        exact ⟨by omega, this.2.2⟩
      · rw [e2] at e
        have := Option.some.inj e
        have := h0.size
        exact ⟨by omega, by omega⟩
    exact (hown4.grown hg5 (.inr (fun e => (hb4 _ e).1 rfl))).grown hg6 (.inr (fun e => (hb4 _ e).2 rfl))
  have hdis4 : ∀ key b g, ¬ (key = x.r.key ∧ b = bb) → v4.ownBlock = some g → (sv kv key b).ownBlock ≠ some g := fun key b g hne e e2 => by
    rcases hloc with e3 | e3
    · exact h.dis key b _ _ hne g e2 (e3 ▸ e)
    · rw [e3] at e
      have h1 := Option.some.inj e
      have h2 := (hlt _ _ _ e2).2.1
      have h3 := h0.size
      omega
  have hsw := h.sz
  have hsz6 : wr.heap.size ≤ w6.heap.size := Nat.le_trans h0.size (Nat.le_trans hg4.size (Nat.le_trans hg5.size hg6.size))
  refine ⟨hm6, fun key b => ?_, fun key b key' b' hne g => ?_, fun key => ?_, ?_, ?_, h.lo, h.los, by omega, fun K hK hKr => ?_⟩
  · rw [sv_put, sideL_snoc, hbb]
    by_cases hc : key = x.r.key ∧ b = bb
    · obtain ⟨rfl, rfl⟩ := hc
      rw [if_pos ⟨rfl, rfl⟩, if_pos ⟨rfl, rfl⟩]
      exact ho6
    · rw [if_neg hc, if_neg hc]
      exact hgg key b hc
  · rw [sv_put, sv_put]
    by_cases hc : key = x.r.key ∧ b = bb
    · rw [if_pos hc]
      have hc' : ¬ (key' = x.r.key ∧ b' = bb) := fun h => hne ⟨hc.1.trans h.1.symm, hc.2.trans h.2.symm⟩
      rw [if_neg hc']
      exact fun e => hdis4 key' b' g hc' e
    · rw [if_neg hc]
      by_cases hc' : key' = x.r.key ∧ b' = bb
      · rw [if_pos hc']
        exact fun e e2 => hdis4 key b g hc e2 e
      · rw [if_neg hc']
        exact h.dis key b key' b' hne g
  · unfold putSd
    rw [keys_putKV]
    have := h.keys key
    split
    · rename_i hm
      have hm' := (h.keys x.r.key).1 hm
      rw [this]
      simp only [List.map_append, List.mem_append, List.map_cons, List.map_nil, List.mem_singleton]
      constructor
      · exact .inl
      · rintro (h | rfl)
        · exact h
        · exact hm'
    · simp only [List.map_append, List.mem_append, List.map_cons, List.map_nil, List.mem_singleton, this]
  · unfold putSd
    have := length_putKV kv x.r.key (if bb then (⟨sv kv x.r.key false, v4⟩ : Sd) else ⟨v4, sv kv x.r.key true⟩)
    have := h.len
    rw [List.length_append]
    simp only [List.length_cons, List.length_nil]
    omega
  · have hs := h.below.size
    have b1 := h.below.grown h0 hs (fun k e => by cases e)
    have b2 := b1.grown hg4 (Nat.le_trans hs h0.size) (fun k e => Nat.le_trans h.los (hlt _ _ _ e).1)
    have b3 := b2.grown hg5 (Nat.le_trans (Nat.le_trans hs h0.size) hg4.size) (fun k e => by cases e; omega)
    exact b3.grown hg6 (Nat.le_trans (Nat.le_trans (Nat.le_trans hs h0.size) hg4.size) hg5.size) (fun k e => by cases e; exact h.lo)
  · have k0 : K < wr.heap.size := by omega
    have k1 : K < W.heap.size := Nat.lt_of_lt_of_le k0 h0.size
    have k2 : K < w4.heap.size := Nat.lt_of_lt_of_le k1 hg4.size
    have k3 : K < w5.heap.size := Nat.lt_of_lt_of_le k2 hg5.size
    refine (hg6.block K k3 (fun e => hKr (Option.some.inj e))).trans ((hg5.block K k2 (fun e => by have := Option.some.inj e; omega)).trans ((hg4.block K k1 (fun e => by have := (hlt _ _ _ e.symm).1; omega)).trans ((h0.block K k0 (by simp)).trans (h.kept K hK hKr))))

/-- What the second loop holds. -/
structure LRel (r : Nat) (w0 wa wb : World) (d : List It) (kv : List (Int × Sd)) (A : Option Addr) (n : Nat) (ks : List Int) (j : Nat) (v : Value) (wi : World) : Prop where
  own : Own Ed.vs 8 72 wb.heap.size wi v ((ks.take j).flatMap (edKey d))
  map : MapS wi r kv
  rd : Rd iv 1 wi wa.heap.size A n ks
  sl : ∀ key ∈ ks.drop j, ∀ b, Own It.vs 4 33 w0.heap.size wi (sv kv key b) (sideL d key b)
  below : Below w0.heap.size w0 wi
  lo : wb.heap.size ≤ wi.heap.size
  kb : ∀ b off, A = some ⟨b, off, none⟩ → 0 < n → b < wb.heap.size
/-- What stands over the second loop. -/
structure LFix (r : Nat) (w0 wa wb : World) (kv : List (Int × Sd)) : Prop where
  blk : ∀ key b g, (sv kv key b).ownBlock = some g → w0.heap.size ≤ g ∧ g < wa.heap.size ∧ g ≠ r
  dis : ∀ key b key' b', ¬ (key = key' ∧ b = b') → ∀ g, (sv kv key b).ownBlock = some g → (sv kv key' b').ownBlock ≠ some g
  lo : w0.heap.size ≤ r
  rlt : r < wa.heap.size
  ab : wa.heap.size ≤ wb.heap.size
  s0 : w0.heap.size ≤ wa.heap.size

theorem SRel.fix {r : Nat} {w0 ws wa wb : World} {d : List It} {kv : List (Int × Sd)} (h : SRel r w0 ws d kv wa) (hb : Below wa.heap.size wa wb) : LFix r w0 wa wb kv where
  blk key b g e := ⟨Nat.le_trans h.los ((h.own key b).blk g e).1, ((h.own key b).blk g e).2, map_not_own h.map (h.own key b) e⟩
  dis := h.dis
  lo := h.lo
  rlt := h.map.lt
  ab := hb.size
  s0 := h.below.size
theorem SRel.loop {r : Nat} {w0 ws wa wb : World} {d : List It} {kv : List (Int × Sd)} (h : SRel r w0 ws d kv wa) (hb : Below wa.heap.size wa wb) {A : Option Addr} {n : Nat} {ks : List Int} (hr : Rd iv 1 wb wa.heap.size A n ks) : LRel r w0 wa wb d kv A n ks 0 nilV wb where
  own := Own.nil _ _ _ _ _
  map := h.map.below hb
  rd := hr
  sl key _ b := ((h.own key b).below hb).low h.los
  below := h.below.trans (hb.mono h.below.size)
  lo := Nat.le_refl _
  kb b off e hn := by
    obtain ⟨b2, off2, e2, _, hcell⟩ := hr.2.2 hn
    rw [e] at e2
    cases e2
    have hx : ks[0]? = some (ks[0]'(by rw [hr.1]; exact hn)) := List.getElem?_eq_getElem _
    exact World.block_lt_of_cell? wb _ (hcell 0 _ hx 0 _ rfl)

/-- A list of the call's own as a window that may be written. -/
theorem Own.win {base : Nat} {w : World} {A : Option Addr} {n cap : Nat} {l : List It} (h : Own It.vs 4 33 base w (.slice A n cap) l) (D : Nat) : Win ((Value.slice A n cap).ownBlock.getD D) w A cap l := by
  obtain ⟨A', cap1, e1, hr⟩ := h.rd It.vs_length
  cases e1
  refine ⟨hr.low (Nat.zero_le _), fun hl => ?_⟩
  have hpos : 0 < l.length := List.length_pos_iff.2 hl
  rcases h.2 with ⟨e, e0⟩ | ⟨g, cap', cur, e, hb, hblk, hc⟩
  · omega
  · cases e
    exact ⟨⟨0, rfl⟩, by first | omega | exact hc.1 | (have := hc; omega), cur, hblk⟩

theorem Own.same {α : Type} {enc : α → List Value} {sz : Nat} {T : TypeId} {base : Nat} {w w' : World} {v : Value} {l : List α} (h : Own enc sz T base w v l) (he : ∀ g, v.ownBlock = some g → w'.heap[g]? = w.heap[g]?) : Own enc sz T base w' v l := by
  refine ⟨h.1, h.2.imp_right ?_⟩
  rintro ⟨g, cap, cur, e, hb, hblk, hrest⟩
  exact ⟨g, cap, cur, e, hb, (he g (by rw [e]; rfl)).trans hblk, hrest⟩
theorem Rd.sameI {w w' : World} {lo n : Nat} {A : Option Addr} {l : List Int} (h : Rd iv 1 w lo A n l) (he : ∀ K off, A = some ⟨K, off, none⟩ → 0 < n → lo ≤ K → K < w.heap.size → w'.heap[K]? = w.heap[K]?) : Rd iv 1 w' lo A n l := by
  refine ⟨h.1, h.2.1, fun h0 => ?_⟩
  obtain ⟨b, off, rfl, hlo, hcell⟩ := h.2.2 h0
  refine ⟨b, off, rfl, hlo, fun i y hy j v hv => ?_⟩
  have h1 := hcell i y hy j v hv
  have hlt := World.block_lt_of_cell? w _ h1
  exact (World.cell?_of_block (w := w) (a := ⟨b, off + i * 1 + j, none⟩) (he b off rfl h0 hlo hlt)).trans h1

theorem LRel.step {r : Nat} {w0 wa wb : World} {d : List It} {kv : List (Int × Sd)} {A : Option Addr} {n : Nat} {ks : List Int} {j : Nat} {v v2 : Value} {wi w1 w2 : World} {key : Int} (h : LRel r w0 wa wb d kv A n ks j v wi) (F : LFix r w0 wa wb kv) (hk : ks[j]? = some key) (hn : ks.Nodup)
    (hb : But2 wi w1 ((sv kv key false).ownBlock.getD wi.heap.size) ((sv kv key true).ownBlock.getD wi.heap.size)) (hg : w1.grownBy w2 v.ownBlock) (ho : Own Ed.vs 8 72 wb.heap.size w2 v2 ((ks.take j).flatMap (edKey d) ++ edKey d key)) : LRel r w0 wa wb d kv A n ks (j + 1) v2 w2 := by
  have hd : ks.drop j = key :: ks.drop (j + 1) := by
    have hj : j < ks.length := (List.getElem?_eq_some_iff.1 hk).1
    rw [List.drop_eq_getElem_cons hj, (List.getElem?_eq_some_iff.1 hk).2]
  have hnk : key ∉ ks.drop (j + 1) := by
    have := (List.drop_sublist j ks).nodup hn
    rw [hd] at this
    exact (List.nodup_cons.1 this).1
  have hlo := h.lo
  have ha := F.ab
  have hs0 := F.s0
  have hsafe : ∀ g, g < wi.heap.size → (∀ b, (sv kv key b).ownBlock ≠ some g) → w1.heap[g]? = wi.heap[g]? := fun g hg0 hne => by
    refine hb.block g hg0 ?_ ?_
    · cases e : (sv kv key false).ownBlock with
      | none => simp; omega
      | some q => simp; intro e2; exact hne false (by rw [e, e2])
    · cases e : (sv kv key true).ownBlock with
      | none => simp; omega
      | some q => simp; intro e2; exact hne true (by rw [e, e2])
  have hsafe2 : ∀ g, g < wi.heap.size → (∀ b, (sv kv key b).ownBlock ≠ some g) → g < wb.heap.size → w2.heap[g]? = wi.heap[g]? := fun g h1 h2 h3 =>
    (hg.block g (Nat.lt_of_lt_of_le h1 hb.size) (fun e => by have := (h.own.blk g e.symm).1; omega)).trans (hsafe g h1 h2)
  refine ⟨?_, ?_, ?_, fun key' hk' b => ?_, ?_, ?_, h.kb⟩
  · rw [List.take_add_one, hk]
    simpa using ho
  · refine h.map.same (hsafe2 r h.map.lt (fun b e => (F.blk _ _ _ e).2.2 rfl) (by have := F.rlt; omega))
  · refine h.rd.sameI fun K off e h0 h1 h2 => ?_
    exact hsafe2 K h2 (fun b e => by have := (F.blk _ _ _ e).2.1; omega) (h.kb K off e h0)
  · have hne : key' ≠ key := fun e => hnk (e ▸ hk')
    refine (h.sl key' (by rw [hd]; exact List.mem_cons_of_mem _ hk') b).same fun g e => ?_
    have := F.blk _ _ _ e
    exact hsafe2 g (by omega) (fun b' => F.dis key' b key b' (fun hc => hne hc.1) g e) (by omega)
  · have hs := h.below.size
    have b1 : Below w0.heap.size w0 w1 := h.below.trans ⟨hb.os, hb.tape, hb.output, hb.size, fun i hi => hsafe i (by omega) (fun b e => by have := (F.blk _ _ _ e).1; omega)⟩
    exact b1.grown hg (Nat.le_trans hs hb.size) (fun k e => by have := (h.own.blk k e).1; omega)
  · exact Nat.le_trans h.lo (Nat.le_trans hb.size hg.size)

/-- 'append(s, y...)', y a list of the call's own that is not empty. -/
theorem wpList_appN {α : Type} {P : Program} {w : World} {ops : Array Oper} {rest : List Oper} {o : Oper} {a : Act} {Q : Exit → Act → World → Prop} (enc : α → List Value) (sz : Nat) (e : TypeId) (z : Value) (bytes : Nat) (hinf : (P.info? e).map (fun i => (i.zero, i.size, i.bytes)) = some (some z, sz, bytes)) (hzs : z.cells.size = sz) (hsz : 0 < sz)
    (hgd : o.guard = none) (s x : Operand) (t : TypeId) (ho : o.op = .call { callee := .builtin .append, args := #[s, x], argTypes := #[t, t] }) (ht : P.underlying t = some (.slice e)) (base : Nat) (v : Value) (l : List α) (hs : a.eval s = v) (hown : Own enc sz e base w v l)
    (base2 : Nat) (vy : Value) (y : List α) (hx : a.eval x = vy) (hy : Own enc sz e base2 w vy y) (hne : y ≠ []) (h1 : ∀ q, ∀ u ∈ enc q, u.oneCell' = true)
    (hbytes : (l.length + y.length) * bytes ≤ 140737488355328) (h63 : l.length + y.length ≤ maxLen) (hbase : base ≤ w.heap.size)
    (h : ∀ v' w', Own enc sz e base w' v' (l ++ y) → w.grownBy w' v.ownBlock → (v'.ownBlock = v.ownBlock ∨ v'.ownBlock = some w.heap.size) → wpList P ops Q rest (a.put o.dst v') w') : wpList P ops Q (o :: rest) a w := by
  obtain ⟨i, hi, hz0, hz1, hz2⟩ := info_parts hinf
  have hpos : 0 < y.length := List.length_pos_iff.2 hne
  have hyy := hy
  rcases hy.2 with ⟨_, e0⟩ | ⟨g, cap, cur, rfl, hb, hblk, hrest⟩
  · omega
  · refine wpList_append_own_at w hgd s x t ho base e i z sz bytes ht hi hz0 hz1 hz2 hzs hsz v l.length (l.flatMap enc) hs hown ⟨g, 0, none⟩ y.length cap (y.flatMap enc) hx hy.1 (fun j u hu => ?_) (fun u hu => ?_) h63 hbytes hbase fun v' w' h2 h3 _ h5 => h v' w' ?_ h3 h5
    · have e1 : (⟨g, 0, none⟩ : Addr).add j = ⟨g, j, none⟩ := by unfold Addr.add; split <;> simp_all
      rw [e1, ← hu]
      exact World.ownsRow.cellAt hyy j (by have := (List.getElem?_eq_some_iff.1 hu).1; first | omega | (rw [hy.1] at this; exact this))
    · obtain ⟨q, _, hq⟩ := List.mem_flatMap.1 hu
      exact h1 q u hq
    · unfold Own
      rw [List.length_append, List.flatMap_append]
      exact h2
end Go.Proofs.Bg
end

section
/- The contracts of numbered and signed: numbers written behind bytes. -/
namespace Go.Proofs.Bg
open Go.RowKit

def bv (x : Int) : List Value := [.int .u8 x]
theorem bv_length (x : Int) : (bv x).length = 1 := rfl
theorem infoU8 : (Tryd.prog.info? 5).map (fun i => (i.zero, i.size, i.bytes)) = some (some (.int .u8 0), 1, 1) := by kernel_rfl

/-- A number from 0 on, in groups of seven bits (f groups more at most). -/
def numF : Nat → Int → List Int
  | 0, n => [n]
  | f + 1, n => if n < 128 then [n] else (n % 128 + 128) :: numF f (n / 128)
def numB (n : Int) : List Int := numF 9 n
def intB (n : Int) : List Int := if n < 0 then numB (-2 * n - 1) else numB (2 * n)
theorem numF_length : ∀ (f : Nat) (n : Int), (numF f n).length ≤ f + 1
  | 0, n => by simp [numF]
  | f + 1, n => by
    rw [numF]
    split
    · simp
    · have := numF_length f (n / 128)
      simp
      omega
theorem numB_length (n : Int) : (numB n).length ≤ 10 := numF_length 9 n
theorem intB_length (n : Int) : (intB n).length ≤ 10 := by unfold intB; split <;> exact numB_length _
def lim : Nat → Int
  | 0 => 128
  | f + 1 => 128 * lim f
theorem lim_pos : ∀ f, 128 ≤ lim f
  | 0 => by simp [lim]
  | f + 1 => by have := lim_pos f; simp only [lim]; omega

/-- Where the bytes lie: where they lay, or in new memory. -/
def Loc (w : World) (v v' : Value) : Prop := v'.ownBlock = v.ownBlock ∨ ∃ j, v'.ownBlock = some j ∧ w.heap.size ≤ j
theorem Loc.refl (w : World) (v : Value) : Loc w v v := .inl rfl
theorem Loc.step {w w1 : World} {v v1 v2 : Value} (h : Loc w v v1) (hs : w.heap.size ≤ w1.heap.size) (h2 : v2.ownBlock = v1.ownBlock ∨ v2.ownBlock = some w1.heap.size) : Loc w v v2 := by
  rcases h2 with e | e
  · rcases h with e1 | ⟨j, e1, e2⟩
    · exact .inl (e.trans e1)
    · exact .inr ⟨j, e.trans e1, e2⟩
  · exact .inr ⟨_, e, hs⟩
theorem Loc.trans {w w1 : World} {v v1 v2 : Value} (h : Loc w v v1) (h2 : Loc w1 v1 v2) (hs : w.heap.size ≤ w1.heap.size) : Loc w v v2 := by
  rcases h2 with e | ⟨j, e, hj⟩
  · rcases h with e1 | ⟨j, e1, e2⟩
    · exact .inl (e.trans e1)
    · exact .inr ⟨j, e.trans e1, e2⟩
  · exact .inr ⟨j, e, Nat.le_trans hs hj⟩
theorem Loc.grown {w w1 w2 : World} {v v1 : Value} (hg : w.grownBy w1 v.ownBlock) (h : Loc w v v1) (h2 : w1.grownBy w2 v1.ownBlock) : w.grownBy w2 v.ownBlock :=
  hg.andThen h2 fun j e => by
    rcases h with e1 | ⟨i, e1, hi⟩
    · exact .inr (e1.symm.trans e)
    · have : i = j := by rw [e1] at e; exact Option.some.inj e
      exact .inl (this ▸ hi)

/-- What the loop holds. -/
def NumRel (base : Nat) (w : World) (v : Value) (L : List Int) (n : Int) (v' : Value) (m : Int) (f : Nat) (wr : World) : Prop :=
  ∃ L', Own bv 1 5 base wr v' L' ∧ L' ++ numF f m = L ++ numB n ∧ 0 ≤ m ∧ m < lim f ∧ w.grownBy wr v.ownBlock ∧ Loc w v v'

set_option maxRecDepth 100000 in
set_option maxHeartbeats 1000000 in
theorem numbered_any (base : Nat) (v : Value) (L : List Int) (n : Int) (w : World) (h : Own bv 1 5 base w v L) (hb : base ≤ w.heap.size) (h0 : 0 ≤ n) (h1 : n < 4611686018427387904) (hl : L.length ≤ 70368744177664) :
    Calls Tryd.prog 49 #[v, .int .i64 n] w fun e w' => ∃ v', e = .returned v' ∧ Own bv 1 5 base w' v' (L ++ numB n) ∧ w.grownBy w' v.ownBlock ∧ Loc w v v' := by
  have hr0 : NumRel base w v L n v n 9 w := ⟨L, h, rfl, h0, by simp [lim]; omega, World.grownBy.refl _ _, Loc.refl _ _⟩
  have HR0 := Lib.hid hr0
  clear h hr0
  go_enter Tryd.func49, Tryd.ntmps49
  go_wp2_with fail
  go_loopw [0, 1] (fun v' i wr => ∃ (m : Int) (f : Nat), i = .int .i64 m ∧ m < 4611686018427387904 ∧ NumRel base w v L n v' m f wr) (fun _ i _ => (intOf i).toNat)
  case atStart => exact ⟨n, 9, rfl, h1, HR0.out⟩
  case round =>
    clear HR0
    obtain ⟨m, f, rfl, hm2, L', hown, he, hm0, hml, hg, hloc⟩ := hrel
    have hll : L'.length ≤ L.length + 10 := by
      have e1 := congrArg List.length he
      have e2 := numB_length n
      simp only [List.length_append] at e1
      omega
    have hsz := hg.size
    have HG := Lib.hid hg
    have HE := Lib.hid he
    have HL := Lib.hid hloc
    clear hg he hloc
    obtain ⟨A, cap, rfl⟩ := hown.shape
    by_cases hbig : 128 ≤ m
    · have hr1 : 0 ≤ m % 128 := by omega
      have hr2 : m % 128 < 128 := by omega
      go_wp2_with (at_builtin; refine wpList_app1 bv 1 5 _ 1 infoU8 rfl (by decide) rfl _ _ _ rfl Tryd.underlying46 base _ L' rfl (hown.alloc _) (m % 128 + 128) _ _ rfl rfl (newAt _ _ _ _ (by simp)) (by simp [bv, Value.oneCell']) (by omega) (by unfold maxLen; omega) (by simp; omega) (fun v4 w4 hown4 hg4 hloc4 => ?_))
      have hf : ∃ f', f = f' + 1 := by
        cases f with
        | zero => simp [lim] at hml; omega
        | succ f' => exact ⟨f', rfl⟩
      obtain ⟨f', rfl⟩ := hf
      have hd : m / 128 < m := by omega
      refine ⟨⟨m / 128, f', rfl, by omega, L' ++ [m % 128 + 128], hown4, ?_, by omega, by simp only [lim] at hml; omega, Loc.grown HG.out HL.out ((World.grownBy_alloc wr _ _).andThen hg4 (fun j e => .inr e)), HL.out.step (w1 := wr.alloc _) (by simp; omega) hloc4⟩, by simp [intOf]; omega⟩
      rw [← HE.out, numF, if_neg (by omega)]
      simp
    · have hm3 : m < 128 := by omega
      go_wp2_with (at_builtin; refine wpList_app1 bv 1 5 _ 1 infoU8 rfl (by decide) rfl _ _ _ rfl Tryd.underlying46 base _ L' rfl (hown.alloc _) m _ _ rfl rfl (newAt _ _ _ _ (by simp)) (by simp [bv, Value.oneCell']) (by omega) (by unfold maxLen; omega) (by simp; omega) (fun v4 w4 hown4 hg4 hloc4 => ?_))
      obtain ⟨A4, cap4, rfl⟩ := hown4.shape
      go_ret
      have hn : numF f m = [m] := by cases f <;> simp [numF, hm3]
      refine ⟨_, rfl, by rw [← HE.out, hn]; exact hown4, Loc.grown HG.out HL.out ((World.grownBy_alloc wr _ _).andThen hg4 (fun j e => .inr e)), HL.out.step (w1 := wr.alloc _) (by simp; omega) hloc4⟩

theorem signed_any (base : Nat) (v : Value) (L : List Int) (n : Int) (w : World) (h : Own bv 1 5 base w v L) (hb : base ≤ w.heap.size) (h0 : -1000000000000 ≤ n) (h1 : n ≤ 1000000000000) (hl : L.length ≤ 70368744177664) :
    Calls Tryd.prog 50 #[v, .int .i64 n] w fun e w' => ∃ v', e = .returned v' ∧ Own bv 1 5 base w' v' (L ++ intB n) ∧ w.grownBy w' v.ownBlock ∧ Loc w v v' := by
  obtain ⟨A, cap, rfl⟩ := h.shape
  by_cases hn : n < 0
  · have HN := Lib.hid (numbered_any base _ L (-2 * n - 1) w h hb (by omega) (by omega) hl)
    have e1 : intB n = numB (-2 * n - 1) := by rw [intB, if_pos hn]
    rw [e1]
    clear e1
    go_enter Tryd.func50, Tryd.ntmps50
    go_wp2_with fail
    refine HN.out.mono ?_
    rintro e w' ⟨v', rfl, hown, hg, hloc⟩
    have HO := Lib.hid hown
    have HG := Lib.hid hg
    have HL := Lib.hid hloc
    clear hown hg hloc
    go_wp2_with fail
    go_ret
    exact ⟨_, rfl, HO.out, HG.out, HL.out⟩
  · have HN := Lib.hid (numbered_any base _ L (2 * n) w h hb (by omega) (by omega) hl)
    have e1 : intB n = numB (2 * n) := by rw [intB, if_neg hn]
    rw [e1]
    clear e1
    go_enter Tryd.func50, Tryd.ntmps50
    go_wp2_with fail
    refine HN.out.mono ?_
    rintro e w' ⟨v', rfl, hown, hg, hloc⟩
    have HO := Lib.hid hown
    have HG := Lib.hid hg
    have HL := Lib.hid hloc
    clear hown hg hloc
    go_wp2_with fail
    go_ret
    exact ⟨_, rfl, HO.out, HG.out, HL.out⟩
end Go.Proofs.Bg
end

section
/- A slice that is handed in, opened, of whatever element: edits, whole numbers, bytes. -/
namespace Go.Proofs.Bg
open Go.RowKit Go.ChangeShapes Go.WideShapes Go.Deep Go.Joins

instance : Inhabited Rc := ⟨⟨0, 0, 0⟩⟩
instance : Inhabited Ed := ⟨⟨0, default, default, 0⟩⟩

set_option maxRecDepth 100000 in
theorem open_rows {α : Type} [Inhabited α] {H : Type} {enc : TypeId × Value → H} {W : World} {base : Nat} {held : Bool} {r : Reach} {t e : TypeId} {v : Value} {d : DataW H} {ps : List MemPlace} (en : α → List Value) (sz : Nat) (p : α → Prop) (hpos : 0 < sz) (hce : Tryd.prog.cellsOf e = sz) (hen : ∀ y, (en y).length = sz)
    (hel : ∀ n cs x, DataW.trod enc Tryd.prog W 0 (fun _ => true) held n e cs = some x → ∃ y, cs = en y ∧ p y)
    (ht : Tryd.prog.underlying t = some (.slice e)) (hval : Value.okWide Tryd.prog W r base t v) (h : DataW.Trod enc Tryd.prog W 0 (fun _ => true) held t v d ps) :
    ∃ A n cap l, v = .slice A n cap ∧ Rd en sz W 0 A n l ∧ (∀ x ∈ l, p x) ∧ n ≤ cap ∧ (cap = 0 ∨ ∃ es sp, d = .slice es sp ∧ es.length + sp.length = cap) := by
  obtain ⟨A, n, cap, rfl⟩ := okWide_slice ht hval
  obtain ⟨fuel, hf⟩ := h
  rcases open_slice ht hf with ⟨hc, _⟩ | ⟨a, len, cap', m, k, D, Pl, hc, _, hl, hm, hmm, hd, hall⟩
  · simp [Value.cells] at hc
    obtain ⟨rfl, rfl, rfl⟩ := hc
    exact ⟨none, 0, 0, [], rfl, Rd.nil _ _ _, by simp, Nat.le_refl _, .inl rfl⟩
  · simp [Value.cells] at hc
    obtain ⟨rfl, rfl, rfl⟩ := hc
    have hmc : m = cap := by simpa using hmm
    have hlm : n ≤ m := by omega
    have each : ∀ i, i < n → ∃ y : α, (∀ j v, (en y)[j]? = some v → W.cell? (a.add (i * sz + j)) = some v) ∧ p y := fun i hi => by
      obtain ⟨cs', h1, h2⟩ := hall i (by omega)
      rw [hce] at h1
      obtain ⟨_, hlen, hcell⟩ := World.cells?_some h1
      obtain ⟨y, rfl, hp⟩ := hel _ _ _ h2
      refine ⟨y, fun j v hv => ?_, hp⟩
      have hj : j < sz := by rw [← hen y]; exact (List.getElem?_eq_some_iff.1 hv).1
      have := hcell j hj
      rw [add_add] at this
      rw [this, hv]
    obtain ⟨f, hf'⟩ := choose_lt each
    refine ⟨some a, n, cap, (List.range n).map f, rfl, ⟨by simp, by unfold maxLen at hm; omega, fun h0 => ?_⟩, ?_, hl, .inr ⟨_, _, (Prod.mk.inj hd).1, by simp; omega⟩⟩
    · have hs : a.spot = none := by
        have hl0 : 0 < (en (f 0)).length := by rw [hen]; exact hpos
        have := spot_none ((hf' 0 h0).1 0 _ (List.getElem?_eq_getElem hl0))
        have e : (a.add (0 * sz + 0)).spot = none := this
        have ea : a.add (0 * sz + 0) = a := by unfold Addr.add; simp
        rwa [ea] at e
      obtain ⟨b, off, sp⟩ := a
      simp only at hs
      subst hs
      refine ⟨b, off, rfl, Nat.zero_le _, fun i x hx j v hv => ?_⟩
      have hi : i < n := by simpa using (List.getElem?_eq_some_iff.1 hx).1
      have ex : f i = x := by simpa [List.getElem?_map, List.getElem?_range hi] using hx
      subst ex
      have := (hf' i hi).1 j v hv
      have e1 : (⟨b, off, none⟩ : Addr).add (i * sz + j) = ⟨b, off + (i * sz + j), none⟩ := by unfold Addr.add; split <;> simp_all
      rw [e1] at this
      have e2 : off + i * sz + j = off + (i * sz + j) := by omega
      rw [e2]
      exact this
    · intro x hx
      obtain ⟨i, hi, rfl⟩ := List.mem_map.1 hx
      exact (hf' i (List.mem_range.1 hi)).2

set_option maxRecDepth 100000 in
/-- What the form's reach says of a slice that is handed in. -/
theorem reach_rows {H : Type} {ts : List TypeId} {ds : List (DataW H)} {t e : TypeId} {d : DataW H} {cap bytes : Nat} (hby : Tryd.prog.bytesOf e = bytes) (h : (DataW.weightsEach Tryd.prog ts ds).all (· ≤ reachBytes) = true) (j : Nat) (ht : ts[j]? = some t) (hd : ds[j]? = some d) (hu : Tryd.prog.underlying t = some (.slice e)) (hc : cap = 0 ∨ ∃ es sp, d = .slice es sp ∧ es.length + sp.length = cap) : cap * bytes ≤ 140737488355328 := by
  rcases hc with rfl | ⟨es, sp, rfl, rfl⟩
  · omega
  · have := sized_slice h ht hd hu
    rw [hby] at this
    have hr := reachBytes_lt
    omega

theorem cells79 : Tryd.prog.cellsOf 72 = 8 := by kernel_rfl
theorem cells76 : Tryd.prog.cellsOf 69 = 1 := by kernel_rfl
theorem bytes79 : Tryd.prog.bytesOf 72 = 64 := by kernel_rfl
theorem bytes3 : Tryd.prog.bytesOf 3 = 8 := by kernel_rfl
theorem cells5 : Tryd.prog.cellsOf 5 = 1 := by kernel_rfl
theorem bytes5 : Tryd.prog.bytesOf 5 = 1 := by kernel_rfl

theorem list8 {α : Type} {l : List α} (h : l.length = 8) : ∃ a b c d e f g i, l = [a, b, c, d, e, f, g, i] := by
  match l, h with
  | [a, b, c, d, e, f, g, i], _ => exact ⟨a, b, c, d, e, f, g, i, rfl⟩

set_option maxRecDepth 100000 in
theorem rec_cells {H : Type} {enc : TypeId × Value → H} {W : World} {spare : Nat → Bool} {held : Bool} {n : Nat} {v0 v1 v2 : Value} {x : DataW H × List MemPlace} (h : DataW.trod enc Tryd.prog W 0 spare held n 31 [v0, v1, v2] = some x) : ∃ y : Rc, v0 = .int .i64 y.at_ ∧ v1 = .int .i64 y.key ∧ v2 = .int .i64 y.val := by
  obtain ⟨z0, z1, z2, k2, _, _, w0, w1, w2⟩ := trod_struct3 Tryd.underlying31 h
  simp only [cells3, List.drop, List.take] at w0 w1 w2
  obtain ⟨a, e0, _, _⟩ := DataW.trod_int Tryd.underlying3 w0
  obtain ⟨b, e1, _, _⟩ := DataW.trod_int Tryd.underlying3 w1
  obtain ⟨c, e2, _, _⟩ := DataW.trod_int Tryd.underlying3 w2
  simp only [List.cons.injEq, and_true] at e0 e1 e2
  exact ⟨⟨a, b, c⟩, e0, e1, e2⟩

set_option maxRecDepth 100000 in
theorem edit_cells {H : Type} {enc : TypeId × Value → H} {W : World} {spare : Nat → Bool} {held : Bool} (n : Nat) (cs : List Value) (x : DataW H × List MemPlace) (h : DataW.trod enc Tryd.prog W 0 spare held n 72 cs = some x) : ∃ y : Ed, cs = y.vs ∧ True := by
  obtain ⟨y0, y1, y2, y3, k, _, hlen, u0, u1, u2, u3⟩ := trod_struct4 Tryd.underlying72 h
  rw [cells79] at hlen
  obtain ⟨v0, v1, v2, v3, v4, v5, v6, v7, rfl⟩ := list8 hlen
  simp only [cells76, cells38, cells3, List.drop, List.take] at u0 u1 u2 u3
  obtain ⟨a, e0, _, _⟩ := DataW.trod_int Tryd.underlying69 u0
  obtain ⟨o, e1, e2, e3⟩ := rec_cells u1
  obtain ⟨q, e4, e5, e6⟩ := rec_cells u2
  obtain ⟨d, e7, _, _⟩ := DataW.trod_int Tryd.underlying3 u3
  simp only [List.cons.injEq, and_true] at e0 e7
  exact ⟨⟨a, o, q, d⟩, by rw [e0, e1, e2, e3, e4, e5, e6, e7]; rfl, trivial⟩

set_option maxRecDepth 100000 in
theorem open_eds2 {H : Type} {enc : TypeId × Value → H} {W : World} {base : Nat} {held : Bool} {r : Reach} {t : TypeId} {v : Value} {d : DataW H} {ps : List MemPlace} (ht : Tryd.prog.underlying t = some (.slice 72)) (hval : Value.okWide Tryd.prog W r base t v) (h : DataW.Trod enc Tryd.prog W 0 (fun _ => true) held t v d ps) :
    ∃ A n cap l, v = .slice A n cap ∧ Rd Ed.vs 8 W 0 A n l ∧ n ≤ cap ∧ (cap = 0 ∨ ∃ es sp, d = .slice es sp ∧ es.length + sp.length = cap) := by
  obtain ⟨A, n, cap, l, h1, h2, _, h3, h4⟩ := open_rows Ed.vs 8 (fun _ => True) (by decide) cells79 Ed.vs_length edit_cells ht hval h
  exact ⟨A, n, cap, l, h1, h2, h3, h4⟩
set_option maxRecDepth 100000 in
theorem reach_eds {H : Type} {ts : List TypeId} {ds : List (DataW H)} {t : TypeId} {d : DataW H} {cap : Nat} (h : (DataW.weightsEach Tryd.prog ts ds).all (· ≤ reachBytes) = true) (j : Nat) (ht : ts[j]? = some t) (hd : ds[j]? = some d) (hu : Tryd.prog.underlying t = some (.slice 72)) (hc : cap = 0 ∨ ∃ es sp, d = .slice es sp ∧ es.length + sp.length = cap) : cap * 64 ≤ 140737488355328 := reach_rows bytes79 h j ht hd hu hc
set_option maxRecDepth 100000 in
theorem open_ints2 {H : Type} {enc : TypeId × Value → H} {W : World} {base : Nat} {held : Bool} {r : Reach} {t : TypeId} {v : Value} {d : DataW H} {ps : List MemPlace} (ht : Tryd.prog.underlying t = some (.slice 3)) (hval : Value.okWide Tryd.prog W r base t v) (h : DataW.Trod enc Tryd.prog W 0 (fun _ => true) held t v d ps) :
    ∃ A n cap l, v = .slice A n cap ∧ Rd iv 1 W 0 A n l ∧ (∀ x ∈ l, -9223372036854775808 ≤ x ∧ x ≤ 9223372036854775807) ∧ n ≤ cap ∧ (cap = 0 ∨ ∃ es sp, d = .slice es sp ∧ es.length + sp.length = cap) :=
  open_rows iv 1 (fun x => -9223372036854775808 ≤ x ∧ x ≤ 9223372036854775807) (by decide) cells3 iv_length (fun n cs x hx => by
    obtain ⟨z, e, _, hw⟩ := DataW.trod_int Tryd.underlying3 hx
    exact ⟨z, e, by
      simp [Lit.wf, IntKind.min, IntKind.max, IntKind.signed, IntKind.bits] at hw
      omega⟩) ht hval h
set_option maxRecDepth 100000 in
theorem reach_ints {H : Type} {ts : List TypeId} {ds : List (DataW H)} {t : TypeId} {d : DataW H} {cap : Nat} (h : (DataW.weightsEach Tryd.prog ts ds).all (· ≤ reachBytes) = true) (j : Nat) (ht : ts[j]? = some t) (hd : ds[j]? = some d) (hu : Tryd.prog.underlying t = some (.slice 3)) (hc : cap = 0 ∨ ∃ es sp, d = .slice es sp ∧ es.length + sp.length = cap) : cap * 8 ≤ 140737488355328 := reach_rows bytes3 h j ht hd hu hc
set_option maxRecDepth 100000 in
theorem open_bytes2 {H : Type} {enc : TypeId × Value → H} {W : World} {base : Nat} {held : Bool} {r : Reach} {t : TypeId} {v : Value} {d : DataW H} {ps : List MemPlace} (ht : Tryd.prog.underlying t = some (.slice 5)) (hval : Value.okWide Tryd.prog W r base t v) (h : DataW.Trod enc Tryd.prog W 0 (fun _ => true) held t v d ps) :
    ∃ A n cap l, v = .slice A n cap ∧ Rd bv 1 W 0 A n l ∧ (∀ x ∈ l, 0 ≤ x ∧ x ≤ 255) ∧ n ≤ cap ∧ (cap = 0 ∨ ∃ es sp, d = .slice es sp ∧ es.length + sp.length = cap) :=
  open_rows bv 1 (fun x => 0 ≤ x ∧ x ≤ 255) (by decide) cells5 bv_length (fun n cs x hx => by
    obtain ⟨z, e, _, hw⟩ := DataW.trod_int Tryd.underlying5 hx
    exact ⟨z, e, by
      simp [Lit.wf, IntKind.min, IntKind.max, IntKind.signed, IntKind.bits] at hw
      omega⟩) ht hval h
set_option maxRecDepth 100000 in
theorem reach_bytes {H : Type} {ts : List TypeId} {ds : List (DataW H)} {t : TypeId} {d : DataW H} {cap : Nat} (h : (DataW.weightsEach Tryd.prog ts ds).all (· ≤ reachBytes) = true) (j : Nat) (ht : ts[j]? = some t) (hd : ds[j]? = some d) (hu : Tryd.prog.underlying t = some (.slice 5)) (hc : cap = 0 ∨ ∃ es sp, d = .slice es sp ∧ es.length + sp.length = cap) : cap * 1 ≤ 140737488355328 := reach_rows bytes5 h j ht hd hu hc
end Go.Proofs.Bg
end
