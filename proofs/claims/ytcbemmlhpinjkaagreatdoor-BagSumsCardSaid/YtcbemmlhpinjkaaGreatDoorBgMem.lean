/- Plain words for the walks over package bag: records and items, what a slice of them reads as, and what becomes of a reading when new memory is laid. No program in sight. -/
import Derived.WalkKit
import Derived.Deep.Draws
namespace Go.Proofs.Bg
open Go.RowKit

theorem ret_bool {a b : Bool} (h : a = b) : Ending.returned (.bool a) = .returned (.bool b) := by rw [h]
theorem ret_int {k : IntKind} {a b : Int} (h : a = b) : Ending.returned (.int k a) = .returned (.int k b) := by rw [h]

/-- A record; an item. -/
structure Rc where
  at_ : Int
  key : Int
  val : Int
deriving DecidableEq
structure It where
  r : Rc
  n : Int
deriving DecidableEq

def Rc.vs (r : Rc) : List Value := [.int .i64 r.at_, .int .i64 r.key, .int .i64 r.val]
def It.vs (x : It) : List Value := [.int .i64 x.r.at_, .int .i64 x.r.key, .int .i64 x.r.val, .int .i64 x.n]
def iv (x : Int) : List Value := [.int .i64 x]
theorem Rc.vs_length (r : Rc) : r.vs.length = 3 := rfl
theorem It.vs_length (x : It) : x.vs.length = 4 := rfl
theorem iv_length (x : Int) : (iv x).length = 1 := rfl

/-- A slice's address A and its length n: the list l lies there, sz cells an element, in a block from lo on. -/
def Rd {α : Type} (enc : α → List Value) (sz : Nat) (w : World) (lo : Nat) (A : Option Addr) (n : Nat) (l : List α) : Prop :=
  l.length = n ∧ n ≤ 9223372036854775807 ∧ (0 < n → ∃ b off, A = some ⟨b, off, none⟩ ∧ lo ≤ b ∧ ∀ i x, l[i]? = some x → ∀ j v, (enc x)[j]? = some v → w.cell? ⟨b, off + i * sz + j, none⟩ = some v)

section
variable {α : Type} {enc : α → List Value} {sz : Nat} {w w' : World} {lo n : Nat} {A : Option Addr} {l : List α}

theorem Rd.len (h : Rd enc sz w lo A n l) : l.length = n := h.1
theorem Rd.le (h : Rd enc sz w lo A n l) : n ≤ 9223372036854775807 := h.2.1
theorem Rd.below (h : Rd enc sz w lo A n l) (hb : Below w.heap.size w w') : Rd enc sz w' lo A n l :=
  ⟨h.1, h.2.1, fun hn => by
    obtain ⟨b, off, e, hl, hc⟩ := h.2.2 hn
    refine ⟨b, off, e, hl, fun i x hx j v hv => ?_⟩
    have h1 := hc i x hx j v hv
    exact (hb.cell (World.block_lt_of_cell? w _ h1)).trans h1⟩
theorem Rd.low {lo' : Nat} (h : Rd enc sz w lo A n l) (hl : lo' ≤ lo) : Rd enc sz w lo' A n l :=
  ⟨h.1, h.2.1, fun hn => by
    obtain ⟨b, off, e, hlo, hc⟩ := h.2.2 hn
    exact ⟨b, off, e, Nat.le_trans hl hlo, hc⟩⟩
theorem Rd.nil (w : World) (lo : Nat) (A : Option Addr) : Rd enc sz w lo A 0 [] := ⟨rfl, by omega, fun h => absurd h (by omega)⟩
theorem Rd.at_ (h : Rd enc sz w lo A n l) {k : Nat} (hk : k < n) : ∃ b off x, A = some ⟨b, off, none⟩ ∧ lo ≤ b ∧ l[k]? = some x ∧ ∀ j v, (enc x)[j]? = some v → w.cell? ⟨b, off + k * sz + j, none⟩ = some v := by
  obtain ⟨b, off, e, hlo, hc⟩ := h.2.2 (by omega)
  have hk' : k < l.length := by rw [h.1]; exact hk
  exact ⟨b, off, l[k], e, hlo, List.getElem?_eq_getElem hk', fun j v hv => hc k _ (List.getElem?_eq_getElem hk') j v hv⟩
end

theorem Rd.it_at {w : World} {lo n : Nat} {A : Option Addr} {l : List It} (h : Rd It.vs 4 w lo A n l) {k : Nat} (hk : k < n) :
    ∃ b off x, A = some ⟨b, off, none⟩ ∧ lo ≤ b ∧ l[k]? = some x ∧ w.cell? ⟨b, off + k * 4, none⟩ = some (.int .i64 x.r.at_) ∧ w.cell? ⟨b, off + k * 4 + 1, none⟩ = some (.int .i64 x.r.key) ∧ w.cell? ⟨b, off + k * 4 + 2, none⟩ = some (.int .i64 x.r.val) ∧ w.cell? ⟨b, off + k * 4 + 3, none⟩ = some (.int .i64 x.n) := by
  obtain ⟨b, off, x, e, hlo, hx, hc⟩ := h.at_ hk
  exact ⟨b, off, x, e, hlo, hx, hc 0 _ rfl, hc 1 _ rfl, hc 2 _ rfl, hc 3 _ rfl⟩
theorem Rd.rc_at {w : World} {lo n : Nat} {A : Option Addr} {l : List Rc} (h : Rd Rc.vs 3 w lo A n l) {k : Nat} (hk : k < n) :
    ∃ b off x, A = some ⟨b, off, none⟩ ∧ lo ≤ b ∧ l[k]? = some x ∧ w.cell? ⟨b, off + k * 3, none⟩ = some (.int .i64 x.at_) ∧ w.cell? ⟨b, off + k * 3 + 1, none⟩ = some (.int .i64 x.key) ∧ w.cell? ⟨b, off + k * 3 + 2, none⟩ = some (.int .i64 x.val) := by
  obtain ⟨b, off, x, e, hlo, hx, hc⟩ := h.at_ hk
  exact ⟨b, off, x, e, hlo, hx, hc 0 _ rfl, hc 1 _ rfl, hc 2 _ rfl⟩
theorem Rd.int_at {w : World} {lo n : Nat} {A : Option Addr} {l : List Int} (h : Rd iv 1 w lo A n l) {k : Nat} (hk : k < n) :
    ∃ b off x, A = some ⟨b, off, none⟩ ∧ lo ≤ b ∧ l[k]? = some x ∧ w.cell? ⟨b, off + k, none⟩ = some (.int .i64 x) := by
  obtain ⟨b, off, x, e, hlo, hx, hc⟩ := h.at_ hk
  exact ⟨b, off, x, e, hlo, hx, by have := hc 0 _ rfl; simpa using this⟩

/-- An element's cells in the row of all cells. -/
theorem flat_at {α : Type} {enc : α → List Value} {sz : Nat} (hs : ∀ x, (enc x).length = sz) : ∀ (l : List α) (i : Nat) (x : α), l[i]? = some x → ∀ j v, (enc x)[j]? = some v → (l.flatMap enc)[i * sz + j]? = some v
  | [], i, x, h, _, _, _ => by simp at h
  | a :: r, 0, x, h, j, v, hv => by
    simp only [List.getElem?_cons_zero, Option.some.injEq] at h
    subst h
    have hj : j < (enc a).length := (List.getElem?_eq_some_iff.1 hv).1
    rw [List.flatMap_cons, List.getElem?_append_left (by omega)]
    simpa using hv
  | a :: r, i + 1, x, h, j, v, hv => by
    simp only [List.getElem?_cons_succ] at h
    have ih := flat_at hs r i x h j v hv
    rw [List.flatMap_cons, List.getElem?_append_right (by rw [hs a]; have := Nat.add_mul i 1 sz; omega), hs a]
    have e : (i + 1) * sz + j - sz = i * sz + j := by have := Nat.add_mul i 1 sz; omega
    rw [e]; exact ih

theorem flat_length {α : Type} {enc : α → List Value} {sz : Nat} (hs : ∀ x, (enc x).length = sz) (l : List α) : (l.flatMap enc).length = l.length * sz := by
  induction l with
  | nil => simp
  | cons a r ih => simp [ih, hs a, Nat.succ_mul]; omega

/-- What the call owns reads as a list. -/
theorem Rd.of_own {α : Type} {enc : α → List Value} {sz : Nat} (hs : ∀ x, (enc x).length = sz) {w : World} {base : Nat} {e : TypeId} {v : Value} {n : Nat} {l : List α} (hl : l.length = n) (h : w.ownsRow base e sz v n (l.flatMap enc)) :
    ∃ A cap, v = .slice A n cap ∧ Rd enc sz w base A n l := by
  obtain ⟨hlen, h⟩ := h
  rcases h with ⟨rfl, h0⟩ | ⟨g, cap, cur, rfl, hb, hh, h1, h2, h3, h4⟩
  · subst h0
    obtain rfl := List.eq_nil_of_length_eq_zero hl
    exact ⟨none, 0, rfl, Rd.nil _ _ _⟩
  · refine ⟨_, cap, rfl, hl, by unfold maxLen at h2; omega, fun _ => ⟨g, 0, rfl, hb, fun i x hx j u hu => ?_⟩⟩
    have hfl := flat_at hs l i x hx j u hu
    have hown : w.ownsRow base e sz (.slice (some ⟨g, 0, none⟩) n cap) n (l.flatMap enc) := ⟨hlen, .inr ⟨g, cap, cur, rfl, hb, hh, h1, h2, h3, h4⟩⟩
    have hc := hown.cellAt (i * sz + j) (by rw [← hlen]; exact (List.getElem?_eq_some_iff.1 hfl).1)
    rw [hfl] at hc
    simpa using hc

/-- Old cells, old marks: as they were. -/
theorem bcell {W w1 : World} (hb : Below W.heap.size W w1) : (∀ b o, b < W.heap.size → w1.cell? ⟨b, o, none⟩ = W.cell? ⟨b, o, none⟩) ∧ (∀ b o, b < W.heap.size → w1.frozen? ⟨b, o, none⟩ = W.frozen? ⟨b, o, none⟩) :=
  ⟨fun b o h => hb.cell (p := ⟨b, o, none⟩) h, fun b o h => hb.frozen (p := ⟨b, o, none⟩) h⟩

/-- A cell from before a new block, and behind what was done after it. -/
theorem keep_cell {wr w1 : World} {o : Obj} (hb : Below (wr.alloc o).heap.size (wr.alloc o) w1) {b off : Nat} {v : Value} (h : wr.cell? ⟨b, off, none⟩ = some v) : w1.cell? ⟨b, off, none⟩ = some v := by
  have hlt := World.block_lt_of_cell? wr _ h
  have e1 : w1.heap[b]? = (wr.alloc o).heap[b]? := hb.block b (by simp at hlt ⊢; omega)
  have e2 : (wr.alloc o).heap[b]? = wr.heap[b]? := Below.heap_alloc wr o b hlt
  rw [← h]
  exact World.cell?_of_block (e1.trans e2)
theorem keep_new {wr w1 : World} {c : Array Value} {T : TypeId} (hb : Below (wr.alloc (.cells c T)).heap.size (wr.alloc (.cells c T)) w1) : w1.heap[wr.heap.size]? = some (.cells c T) := by
  rw [hb.block _ (by simp)]
  show (wr.heap.push _)[wr.heap.size]? = _
  simp
theorem cell_at_block {w : World} {b off : Nat} {c : Array Value} {T : TypeId} {v : Value} (h : w.heap[b]? = some (.cells c T)) (hv : c[off]? = some v) : w.cell? ⟨b, off, none⟩ = some v := by
  simp [World.cell?, h, hv]
theorem free_at_block {w : World} {b off : Nat} {c : Array Value} {T : TypeId} (h : w.heap[b]? = some (.cells c T)) : w.frozen? ⟨b, off, none⟩ = false := by
  simp [World.frozen?, h]
theorem box4 {wr w1 : World} {v0 v1 v2 v3 : Value} {T : TypeId} (hb : Below (wr.alloc (.cells #[v0, v1, v2, v3] T)).heap.size (wr.alloc (.cells #[v0, v1, v2, v3] T)) w1) :
    w1.cell? ⟨wr.heap.size, 0, none⟩ = some v0 ∧ w1.cell? ⟨wr.heap.size, 1, none⟩ = some v1 ∧ w1.cell? ⟨wr.heap.size, 2, none⟩ = some v2 ∧ w1.cell? ⟨wr.heap.size, 3, none⟩ = some v3 :=
  ⟨cell_at_block (keep_new hb) rfl, cell_at_block (keep_new hb) rfl, cell_at_block (keep_new hb) rfl, cell_at_block (keep_new hb) rfl⟩
/-- A new block, and behind what was done after it: below the old heap nothing has turned. -/
theorem below_box {B : Nat} {w wr w1 : World} {o : Obj} (h : Below B w wr) (hB : B ≤ wr.heap.size) (hb : Below (wr.alloc o).heap.size (wr.alloc o) w1) : Below B w w1 :=
  (h.alloc hB _).trans (hb.mono (by simp; omega))
theorem _root_.Go.World.grownBy.then_ {a b' c : World} {row : Option Nat} (h : a.grownBy b' row) (k : b'.grownBy c row) (_h : ∀ j : Nat, row = some j → a.heap.size ≤ j ∨ row = some j) : a.grownBy c row :=
  ⟨k.os.trans h.os, k.tape.trans h.tape, k.output.trans h.output, Nat.le_trans h.size k.size, fun i hi hne => (k.block i (Nat.lt_of_lt_of_le hi h.size) hne).trans (h.block i hi hne)⟩
theorem setCell_at {w : World} {g off : Nat} {c : Array Value} {T : TypeId} (h : w.heap[g]? = some (.cells c T)) (v : Value) : (w.setCell ⟨g, off, none⟩ v).heap[g]? = some (.cells (c.setIfInBounds off v) T) ∧ w.grownBy (w.setCell ⟨g, off, none⟩ v) (some g) := by
  refine ⟨by simp [World.setCell, Array.getElem?_modify, h], rfl, rfl, rfl, by simp [World.setCell], fun i _ hi => ?_⟩
  have : g ≠ i := fun e => hi (by rw [e])
  simp [World.setCell, Array.getElem?_modify, this]
theorem set3 {w : World} {g : Nat} {a0 b0 c0 : Value} {T : TypeId} (h : w.heap[g]? = some (.cells #[a0, b0, c0] T)) (a b c : Value) :
    (((w.setCell ⟨g, 0, none⟩ a).setCell ⟨g, 1, none⟩ b).setCell ⟨g, 2, none⟩ c).heap[g]? = some (.cells #[a, b, c] T) ∧ w.grownBy (((w.setCell ⟨g, 0, none⟩ a).setCell ⟨g, 1, none⟩ b).setCell ⟨g, 2, none⟩ c) (some g) := by
  obtain ⟨h1, g1⟩ := setCell_at (off := 0) h a
  obtain ⟨h2, g2⟩ := setCell_at (off := 1) h1 b
  obtain ⟨h3, g3⟩ := setCell_at (off := 2) h2 c
  exact ⟨h3, (g1.then_ g2 (fun j e => .inr e)).then_ g3 (fun j e => .inr e)⟩

theorem _root_.Go.RowKit.Below.drew_left {B : Nat} {w W : World} (h : Below B w.drew W) : Below B w W := ⟨h.os, h.tape, h.output, h.size, h.block⟩
theorem below_drewN {B : Nat} {w W : World} (h : Below B w W) (n : Nat) : Below B w (W.drewN n) := ⟨h.os, h.tape, h.output, h.size, h.block⟩

end Go.Proofs.Bg
