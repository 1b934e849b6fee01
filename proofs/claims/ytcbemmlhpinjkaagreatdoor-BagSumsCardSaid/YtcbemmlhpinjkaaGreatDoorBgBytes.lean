/- The contract of Bytes. -/
import Derived.Test.YtcbemmlhpinjkaaGreatDoorBgNum
namespace Go.Proofs.Bg
open Go.RowKit

def zeroRc : Rc := ⟨0, 0, 0⟩
/-- An item's bytes, behind the record before it. -/
def keyB (same : Bool) (b r : Rc) : List Int := if same then numB (r.key - b.key) else intB r.key
def valB (same : Bool) (b r : Rc) : List Int := if same && (r.key == b.key) then numB (r.val - b.val) else intB r.val
def encOne (same : Bool) (b : Rc) (x : It) : List Int := numB (x.r.at_ - b.at_) ++ keyB same b x.r ++ valB same b x.r ++ intB x.n
def befR (l : List It) : Nat → Rc
  | 0 => zeroRc
  | k + 1 => match l[k]? with | some x => x.r | none => zeroRc
def sameB (l : List It) (k : Nat) (x : It) : Bool := decide (0 < k) && (x.r.at_ == (befR l k).at_)
def encAt (l : List It) (k : Nat) : List Int := match l[k]? with | some x => encOne (sameB l k x) (befR l k) x | none => []
def encTo (l : List It) (k : Nat) : List Int := (List.range k).flatMap (encAt l)
def bytesOf (l : List It) : List Int := numB l.length ++ encTo l l.length
theorem encTo_succ (l : List It) (k : Nat) : encTo l (k + 1) = encTo l k ++ encAt l k := by simp [encTo, List.range_succ]
theorem encAt_length (l : List It) (k : Nat) : (encAt l k).length ≤ 40 := by
  unfold encAt
  split
  · rename_i x _
    have h1 := numB_length (x.r.at_ - (befR l k).at_)
    have h2 : (keyB (sameB l k x) (befR l k) x.r).length ≤ 10 := by unfold keyB; split <;> first | exact numB_length _ | exact intB_length _
    have h3 : (valB (sameB l k x) (befR l k) x.r).length ≤ 10 := by unfold valB; split <;> first | exact numB_length _ | exact intB_length _
    have h4 := intB_length x.n
    simp only [encOne, List.length_append]
    omega
  · simp
theorem encTo_length (l : List It) (k : Nat) : (encTo l k).length ≤ 40 * k := by
  induction k with
  | zero => simp [encTo]
  | succ k ih =>
    have := encAt_length l k
    rw [encTo_succ, List.length_append]
    omega

theorem Loc.ne {w : World} {v v' : Value} (h : Loc w v v') {g : Nat} (hg : g < w.heap.size) (hne : v.ownBlock ≠ some g) : v'.ownBlock ≠ some g := by
  rcases h with e | ⟨j, e, hj⟩
  · rw [e]; exact hne
  · rw [e]
    intro e2
    have : j = g := Option.some.inj e2
    omega

/-- What a round holds between two calls: the bytes so far; three boxes; nothing old has turned. -/
structure BSt (base bx br gb : Nat) (w0 : World) (cx cr cb : Array Value) (w : World) (v : Value) (L : List Int) : Prop where
  own : Own bv 1 5 base w v L
  nx : v.ownBlock ≠ some bx
  nr : v.ownBlock ≠ some br
  nb : v.ownBlock ≠ some gb
  hx : w.heap[bx]? = some (.cells cx 40)
  hr : w.heap[br]? = some (.cells cr 38)
  hb : w.heap[gb]? = some (.cells cb 38)
  below : Below w0.heap.size w0 w
  lob : base ≤ w.heap.size
  lo0 : w0.heap.size ≤ base

theorem bst0 {base gb : Nat} {w0 wr : World} {a b c d a' b' c' : Value} {cb : Array Value} {v : Value} {L : List Int} (ho : Own bv 1 5 base wr v L) (hne : v.ownBlock ≠ some gb) (hgb : wr.heap[gb]? = some (.cells cb 38)) (hB : Below w0.heap.size w0 wr) (hlo : base ≤ wr.heap.size) (hlo0 : w0.heap.size ≤ base) :
    BSt base wr.heap.size (wr.heap.size + 1) gb w0 #[a, b, c, d] #[a', b', c'] cb ((wr.alloc (.cells #[a, b, c, d] 40)).alloc (.cells #[a', b', c'] 38)) v L where
  own := (ho.alloc _).alloc _
  nx := fun e => by have := (ho.blk _ e).2; omega
  nr := fun e => by have := (ho.blk _ e).2; omega
  nb := hne
  hx := by
    rw [Below.heap_alloc _ _ _ (by simp)]
    exact new_block _ _ _
  hr := by
    have := new_block (wr.alloc (.cells #[a, b, c, d] 40)) #[a', b', c'] 38
    simpa using this
  hb := by
    have hl : gb < wr.heap.size := (Array.getElem?_eq_some_iff.1 hgb).1
    rw [Below.heap_alloc _ _ _ (by simp; omega), Below.heap_alloc _ _ _ hl]
    exact hgb
  below := (hB.alloc hB.size _).alloc (by have := hB.size; simp; omega) _
  lob := by simp; omega
  lo0 := hlo0

theorem BSt.step {base bx br gb : Nat} {w0 : World} {cx cr cb : Array Value} {w w' : World} {v v' : Value} {L L' : List Int} (h : BSt base bx br gb w0 cx cr cb w v L) (hown : Own bv 1 5 base w' v' L') (hg : w.grownBy w' v.ownBlock) (hloc : Loc w v v') : BSt base bx br gb w0 cx cr cb w' v' L' where
  own := hown
  nx := hloc.ne (Array.getElem?_eq_some_iff.1 h.hx).1 h.nx
  nr := hloc.ne (Array.getElem?_eq_some_iff.1 h.hr).1 h.nr
  nb := hloc.ne (Array.getElem?_eq_some_iff.1 h.hb).1 h.nb
  hx := (hg.block bx (Array.getElem?_eq_some_iff.1 h.hx).1 (fun e => h.nx e.symm)).trans h.hx
  hr := (hg.block br (Array.getElem?_eq_some_iff.1 h.hr).1 (fun e => h.nr e.symm)).trans h.hr
  hb := (hg.block gb (Array.getElem?_eq_some_iff.1 h.hb).1 (fun e => h.nb e.symm)).trans h.hb
  below := h.below.grown hg h.below.size (fun k hk => Nat.le_trans h.lo0 (h.own.blk k hk).1)
  lob := Nat.le_trans h.lob hg.size
  lo0 := h.lo0

/-- What the loop holds at its head. -/
def BRel (base gb : Nat) (w0 : World) (l : List It) (k : Nat) (v : Value) (wr : World) : Prop :=
  Own bv 1 5 base wr v (numB l.length ++ encTo l k) ∧ v.ownBlock ≠ some gb ∧ wr.heap[gb]? = some (.cells #[.int .i64 (befR l k).at_, .int .i64 (befR l k).key, .int .i64 (befR l k).val] 38) ∧ Below w0.heap.size w0 wr ∧ base ≤ wr.heap.size ∧ w0.heap.size ≤ base

/-- What a formed bag gives for the record before. -/
theorem bef_le {l : List It} (h : Incr (l.map (·.r))) (hi : ∀ x ∈ l, itB x = true) {k : Nat} {x : It} (hx : l[k]? = some x) : (befR l k).at_ ≤ x.r.at_ ∧ 0 ≤ (befR l k).at_ ∧ (sameB l k x = true → (befR l k).key ≤ x.r.key ∧ ((befR l k).key = x.r.key → (befR l k).val ≤ x.r.val)) ∧ -1000000000 ≤ (befR l k).key ∧ (befR l k).key ≤ 1000000000 ∧ -1000000000 ≤ (befR l k).val ∧ (befR l k).val ≤ 1000000000 := by
  have hxi := (itB_spec x).1 (hi x (List.mem_of_getElem? hx))
  cases k with
  | zero =>
    simp only [befR, zeroRc, sameB]
    simp
    omega
  | succ j =>
    have hj : j < l.length := by have := (List.getElem?_eq_some_iff.1 hx).1; omega
    have hy : l[j]? = some l[j] := List.getElem?_eq_getElem hj
    have hyi := (itB_spec l[j]).1 (hi _ (List.mem_of_getElem? hy))
    have hb : befR l (j + 1) = l[j].r := by simp only [befR, hy]
    have hp := List.pairwise_iff_getElem.1 h j (j + 1) (by simpa using hj) (by simpa using (List.getElem?_eq_some_iff.1 hx).1) (by omega)
    have ex : l[j + 1]'((List.getElem?_eq_some_iff.1 hx).1) = x := (List.getElem?_eq_some_iff.1 hx).2
    simp only [List.getElem_map, ex] at hp
    rw [rcmp_neg] at hp
    rw [hb]
    unfold sameB
    rw [hb]
    simp only [Bool.and_eq_true, beq_iff_eq, decide_eq_true_eq]
    omega

def bytesR (l : List It) : List Int × Int := if bagB l then (bytesOf l, 0) else ([], 2)

/-- Bytes that are handed back, and an error. -/
def RetBytes (w : World) (p : List Int × Int) (e : Ending) (w' : World) : Prop :=
  ∃ A cap, e = .returned (.tuple #[.slice A p.1.length cap, .int .i64 p.2]) ∧ Rd bv 1 w' w.heap.size A p.1.length p.1 ∧ Below w.heap.size w w'

set_option maxRecDepth 100000 in
set_option maxHeartbeats 2000000 in
theorem Bytes_any (A : Option Addr) (n cap : Nat) (l : List It) (w : World) (hA : Rd It.vs 4 w 0 A n l) :
    Calls Tryz.prog 40 #[.slice A n cap] w (RetBytes w (bytesR l)) := by
  have Q1 := Lib.hid (isBag_any A n cap l w hA)
  have HA := Lib.hid hA
  clear hA
  cases ga : bagB l with
  | false =>
    have e1 : bytesR l = ([], 2) := by simp [bytesR, ga]
    rw [e1]
    have GA := Lib.hid ga
    clear ga e1
    go_enter Tryz.func40, Tryz.ntmps40
    go_wp2_with (go_at_call 47; refine Q1.out.mono ?_; rintro e w1 ⟨rfl, hb1⟩; rw [GA.out]; have HB1 := Lib.hid hb1; clear hb1)
    go_ret2
    exact ⟨none, 0, rfl, Rd.nil _ _ _, HB1.out⟩
  | true =>
    have e1 : bytesR l = (bytesOf l, 0) := by simp [bytesR, ga]
    rw [e1]
    have HS := Lib.hid ((bagB_spec l).1 ga)
    have GA := Lib.hid ga
    have hn300 : n ≤ 300 := by have := HS.out.2.2; have := HA.out.len; omega
    clear ga e1
    go_enter Tryz.func40, Tryz.ntmps40
    go_wp2_with fail
    refine Q1.out.mono ?_
    rintro e w1 ⟨rfl, hb1⟩
    rw [GA.out]
    have HR1 := Lib.hid (HA.out.below hb1)
    have HB1 := Lib.hid hb1
    have HN0 := Lib.hid (numbered_any w1.heap.size (.slice none 0 0) [] n w1 (Own.nil _ _ _ _ _) (Nat.le_refl _) (by omega) (by omega) (by simp))
    clear hb1
    go_wp2_with fail
    refine HN0.out.mono ?_
    rintro e w2 ⟨v2, rfl, hown2, hg2, hloc2⟩
    rw [List.nil_append] at hown2
    have hsz2 := hg2.size
    have hne2 : v2.ownBlock ≠ some w2.heap.size := fun e => by have := (hown2.blk _ e).2; omega
    have hb2 : Below w1.heap.size w1 w2 := (Below.refl _ _).grown hg2 (Nat.le_refl _) (by simp [Value.ownBlock])
    have HO2 := Lib.hid hown2
    have HNE2 := Lib.hid hne2
    have HB2 := Lib.hid hb2
    have hll := HA.out.len
    have HLL := Lib.hid hll
    clear hown2 hg2 hloc2 hne2 hb2 HN0 hll
    go_wp2_with fail
    have hst : BRel w1.heap.size w2.heap.size w1 l 0 v2 (w2.alloc (.cells #[.int .i64 0, .int .i64 0, .int .i64 0] 38)) := ⟨by rw [HLL.out]; simpa [encTo] using HO2.out.alloc _, HNE2.out, new_block _ _ _, HB2.out.alloc HB2.out.size _, by simp; omega, Nat.le_refl _⟩
    have HST := Lib.hid hst
    clear hst
    generalize w2.heap.size = gb at HST hsz2 ⊢
    clear HO2 HNE2 HB2
    go_loopw [4, 6, 7, 8, 9, 18] (fun v _ _ _ _ i wr => ∃ k : Nat, k ≤ n ∧ i = .int .i64 k ∧ BRel w1.heap.size gb w1 l k v wr) (fun _ _ _ _ _ i _ => n - (intOf i).toNat)
    case atStart => exact ⟨0, by omega, rfl, HST.out⟩
    case round =>
      clear HST
      obtain ⟨k, hk, rfl, hown, hne, hgb, hB, hlo, hlo0⟩ := hrel
      have hRk := HR1.out.below hB
      have HO := Lib.hid hown
      have HNE := Lib.hid hne
      have HGB := Lib.hid hgb
      have HB := Lib.hid hB
      have hgl : gb < wr.heap.size := (Array.getElem?_eq_some_iff.1 hgb).1
      have hvl : ∀ q, u4 = q → True := fun _ _ => trivial
      clear hown hne hgb hB hvl
      by_cases hlt : k < n
      · obtain ⟨b, off, x, rfl, _, hx, c0, c1, c2, c3⟩ := hRk.it_at hlt
        have HX := Lib.hid hx
        have HXI := Lib.hid ((itB_spec x).1 (HS.out.1 x (List.mem_of_getElem? hx)))
        have hbl := bef_le HS.out.2.1 HS.out.1 hx
        have henc : encTo l (k + 1) = encTo l k ++ encOne (sameB l k x) (befR l k) x := by rw [encTo_succ, encAt, hx]
        have HEN := Lib.hid henc
        have hbn : befR l (k + 1) = x.r := by simp only [befR, hx]
        have HBN := Lib.hid hbn
        have hll3 := encTo_length l k
        have hll4 := numB_length l.length
        have hsm : sameB l k x = (decide (0 < k) && (x.r.at_ == (befR l k).at_)) := rfl
        obtain ⟨L, hL⟩ : ∃ L, numB l.length ++ encTo l k = L := ⟨_, rfl⟩
        have hLl : L.length ≤ 12010 := by rw [← hL, List.length_append]; omega
        have HLE := Lib.hid hL
        have ho := HO.out
        rw [hL] at ho
        have hgb := HGB.out
        generalize befR l k = bf at *
        clear hx henc hbn hll3 hll4 hL HO HGB hRk
        -- CASES FROM HERE
        obtain ⟨⟨x1, x2, x3, x4, x5, x6⟩, _, x8, x9⟩ := HXI.out
        obtain ⟨b1, b2, b3, b4, b5, b6, b7⟩ := hbl
        have HSL := Lib.hid b3
        clear b3
        by_cases hk0 : 0 < k
        · have hg0 : decide ((0 : Int) < (k : Int)) = true := by simpa using hk0
          cases hat : (x.r.at_ == bf.at_) with
          | true =>
            have hs : sameB l k x = true := by rw [hsm, hat]; simp [hk0]
            have HSM := Lib.hid hs
            obtain ⟨b8, b9⟩ := HSL.out hs
            have HB9 := Lib.hid b9
            clear hs hsm b9
            cases hke : (x.r.key == bf.key) with
            | true =>
              have HKE := Lib.hid hke
              have b10 := HB9.out (by have := beq_iff_eq.1 hke; exact this.symm)
              have q1 := numB_length (x.r.at_ - bf.at_)
              have q2 := numB_length (x.r.key - bf.key)
              have q3 := numB_length (x.r.val - bf.val)
              have st0 : BSt w1.heap.size wr.heap.size (wr.heap.size + 1) gb w1 #[.int .i64 x.r.at_, .int .i64 x.r.key, .int .i64 x.r.val, .int .i64 x.n] #[.int .i64 x.r.at_, .int .i64 x.r.key, .int .i64 x.r.val] #[.int .i64 bf.at_, .int .i64 bf.key, .int .i64 bf.val] ((wr.alloc (.cells #[.int .i64 x.r.at_, .int .i64 x.r.key, .int .i64 x.r.val, .int .i64 x.n] 40)).alloc (.cells #[.int .i64 x.r.at_, .int .i64 x.r.key, .int .i64 x.r.val] 38)) u4 L := bst0 ho HNE.out hgb HB.out hlo hlo0
              have fb0 := cell_at_block (off := 0) hgb rfl
              have fb1 := cell_at_block (off := 1) hgb rfl
              have fb2 := cell_at_block (off := 2) hgb rfl
              clear ho hgb
              have C1 := Lib.hid (numbered_any w1.heap.size _ (L) (x.r.at_ - bf.at_) _ st0.own st0.lob (by omega) (by omega) (by first | omega | (simp only [List.length_append]; omega)))
              have ST0 := Lib.hid st0
              clear st0
              go_wp2_with fail
              (with_reducible refine C1.out.mono ?_)
              rintro e y1 ⟨v3, rfl, hown, hg, hloc⟩
              have st1 := ST0.out.step hown hg hloc
              clear hown hg hloc C1 c0 c1 c2 c3 fb0 fb1 fb2
              have fx0 := cell_at_block (off := 0) st1.hx rfl
              have fx1 := cell_at_block (off := 1) st1.hx rfl
              have fx2 := cell_at_block (off := 2) st1.hx rfl
              have fx3 := cell_at_block (off := 3) st1.hx rfl
              have fr0 := cell_at_block (off := 0) st1.hr rfl
              have fr1 := cell_at_block (off := 1) st1.hr rfl
              have fr2 := cell_at_block (off := 2) st1.hr rfl
              have fb0 := cell_at_block (off := 0) st1.hb rfl
              have fb1 := cell_at_block (off := 1) st1.hb rfl
              have fb2 := cell_at_block (off := 2) st1.hb rfl
              have C2 := Lib.hid (numbered_any w1.heap.size _ (L ++ numB (x.r.at_ - bf.at_)) (x.r.key - bf.key) _ st1.own st1.lob (by omega) (by omega) (by first | omega | (simp only [List.length_append]; omega)))
              have ST1 := Lib.hid st1
              clear st1
              go_wp2_with fail
              (with_reducible refine C2.out.mono ?_)
              rintro e y2 ⟨v4, rfl, hown, hg, hloc⟩
              have st2 := ST1.out.step hown hg hloc
              clear hown hg hloc C2 fx0 fx1 fx2 fx3 fr0 fr1 fr2 fb0 fb1 fb2
              have fx0 := cell_at_block (off := 0) st2.hx rfl
              have fx1 := cell_at_block (off := 1) st2.hx rfl
              have fx2 := cell_at_block (off := 2) st2.hx rfl
              have fx3 := cell_at_block (off := 3) st2.hx rfl
              have fr0 := cell_at_block (off := 0) st2.hr rfl
              have fr1 := cell_at_block (off := 1) st2.hr rfl
              have fr2 := cell_at_block (off := 2) st2.hr rfl
              have fb0 := cell_at_block (off := 0) st2.hb rfl
              have fb1 := cell_at_block (off := 1) st2.hb rfl
              have fb2 := cell_at_block (off := 2) st2.hb rfl
              have C3 := Lib.hid (numbered_any w1.heap.size _ ((L ++ numB (x.r.at_ - bf.at_)) ++ numB (x.r.key - bf.key)) (x.r.val - bf.val) _ st2.own st2.lob (by omega) (by omega) (by first | omega | (simp only [List.length_append]; omega)))
              have ST2 := Lib.hid st2
              clear st2
              go_wp2_with fail
              (with_reducible refine C3.out.mono ?_)
              rintro e y3 ⟨v5, rfl, hown, hg, hloc⟩
              have st3 := ST2.out.step hown hg hloc
              clear hown hg hloc C3 fx0 fx1 fx2 fx3 fr0 fr1 fr2 fb0 fb1 fb2
              have fx0 := cell_at_block (off := 0) st3.hx rfl
              have fx1 := cell_at_block (off := 1) st3.hx rfl
              have fx2 := cell_at_block (off := 2) st3.hx rfl
              have fx3 := cell_at_block (off := 3) st3.hx rfl
              have fr0 := cell_at_block (off := 0) st3.hr rfl
              have fr1 := cell_at_block (off := 1) st3.hr rfl
              have fr2 := cell_at_block (off := 2) st3.hr rfl
              have fb0 := cell_at_block (off := 0) st3.hb rfl
              have fb1 := cell_at_block (off := 1) st3.hb rfl
              have fb2 := cell_at_block (off := 2) st3.hb rfl
              have C4 := Lib.hid (signed_any w1.heap.size _ (((L ++ numB (x.r.at_ - bf.at_)) ++ numB (x.r.key - bf.key)) ++ numB (x.r.val - bf.val)) (x.n) _ st3.own st3.lob (by omega) (by omega) (by first | omega | (simp only [List.length_append]; omega)))
              have ST3 := Lib.hid st3
              clear st3
              go_wp2_with fail
              (with_reducible refine C4.out.mono ?_)
              rintro e y4 ⟨v6, rfl, hown, hg, hloc⟩
              have st4 := ST3.out.step hown hg hloc
              clear hown hg hloc C4 fx0 fx1 fx2 fx3 fr0 fr1 fr2 fb0 fb1 fb2
              have fx0 := cell_at_block (off := 0) st4.hx rfl
              have fx1 := cell_at_block (off := 1) st4.hx rfl
              have fx2 := cell_at_block (off := 2) st4.hx rfl
              have fx3 := cell_at_block (off := 3) st4.hx rfl
              have fr0 := cell_at_block (off := 0) st4.hr rfl
              have fr1 := cell_at_block (off := 1) st4.hr rfl
              have fr2 := cell_at_block (off := 2) st4.hr rfl
              have fb0 := cell_at_block (off := 0) st4.hb rfl
              have fb1 := cell_at_block (off := 1) st4.hb rfl
              have fb2 := cell_at_block (off := 2) st4.hb rfl
              have g0 := free_at_block (off := 0) st4.hb
              have g1 := free_at_block (off := 1) st4.hb
              have g2 := free_at_block (off := 2) st4.hb
              have S3 := Lib.hid (set3 st4.hb (.int .i64 x.r.at_) (.int .i64 x.r.key) (.int .i64 x.r.val))
              have ST4 := Lib.hid st4
              clear st4
              go_wp2_with fail
              refine ⟨⟨k + 1, by omega, by go_num, ?_, ST4.out.nb, by rw [HBN.out]; exact S3.out.1, ST4.out.below.grown S3.out.2 ST4.out.below.size (fun q hq => by cases hq; omega), Nat.le_trans ST4.out.lob S3.out.2.size, hlo0⟩, by simp [intOf]; omega⟩
              have e5 : numB l.length ++ encTo l (k + 1) = (((L ++ numB (x.r.at_ - bf.at_)) ++ numB (x.r.key - bf.key)) ++ numB (x.r.val - bf.val)) ++ intB x.n := by
                rw [HEN.out, ← List.append_assoc, HLE.out, HSM.out]
                simp [encOne, keyB, valB, HKE.out]
              rw [e5]
              exact ST4.out.own.grown S3.out.2 (.inr ST4.out.nb)
            | false =>
              have HKE := Lib.hid hke
              have q1 := numB_length (x.r.at_ - bf.at_)
              have q2 := numB_length (x.r.key - bf.key)
              have q3 := intB_length x.r.val
              have st0 : BSt w1.heap.size wr.heap.size (wr.heap.size + 1) gb w1 #[.int .i64 x.r.at_, .int .i64 x.r.key, .int .i64 x.r.val, .int .i64 x.n] #[.int .i64 x.r.at_, .int .i64 x.r.key, .int .i64 x.r.val] #[.int .i64 bf.at_, .int .i64 bf.key, .int .i64 bf.val] ((wr.alloc (.cells #[.int .i64 x.r.at_, .int .i64 x.r.key, .int .i64 x.r.val, .int .i64 x.n] 40)).alloc (.cells #[.int .i64 x.r.at_, .int .i64 x.r.key, .int .i64 x.r.val] 38)) u4 L := bst0 ho HNE.out hgb HB.out hlo hlo0
              have fb0 := cell_at_block (off := 0) hgb rfl
              have fb1 := cell_at_block (off := 1) hgb rfl
              have fb2 := cell_at_block (off := 2) hgb rfl
              clear ho hgb
              have C1 := Lib.hid (numbered_any w1.heap.size _ (L) (x.r.at_ - bf.at_) _ st0.own st0.lob (by omega) (by omega) (by first | omega | (simp only [List.length_append]; omega)))
              have ST0 := Lib.hid st0
              clear st0
              go_wp2_with fail
              (with_reducible refine C1.out.mono ?_)
              rintro e y1 ⟨v3, rfl, hown, hg, hloc⟩
              have st1 := ST0.out.step hown hg hloc
              clear hown hg hloc C1 c0 c1 c2 c3 fb0 fb1 fb2
              have fx0 := cell_at_block (off := 0) st1.hx rfl
              have fx1 := cell_at_block (off := 1) st1.hx rfl
              have fx2 := cell_at_block (off := 2) st1.hx rfl
              have fx3 := cell_at_block (off := 3) st1.hx rfl
              have fr0 := cell_at_block (off := 0) st1.hr rfl
              have fr1 := cell_at_block (off := 1) st1.hr rfl
              have fr2 := cell_at_block (off := 2) st1.hr rfl
              have fb0 := cell_at_block (off := 0) st1.hb rfl
              have fb1 := cell_at_block (off := 1) st1.hb rfl
              have fb2 := cell_at_block (off := 2) st1.hb rfl
              have C2 := Lib.hid (numbered_any w1.heap.size _ (L ++ numB (x.r.at_ - bf.at_)) (x.r.key - bf.key) _ st1.own st1.lob (by omega) (by omega) (by first | omega | (simp only [List.length_append]; omega)))
              have ST1 := Lib.hid st1
              clear st1
              go_wp2_with fail
              (with_reducible refine C2.out.mono ?_)
              rintro e y2 ⟨v4, rfl, hown, hg, hloc⟩
              have st2 := ST1.out.step hown hg hloc
              clear hown hg hloc C2 fx0 fx1 fx2 fx3 fr0 fr1 fr2 fb0 fb1 fb2
              have fx0 := cell_at_block (off := 0) st2.hx rfl
              have fx1 := cell_at_block (off := 1) st2.hx rfl
              have fx2 := cell_at_block (off := 2) st2.hx rfl
              have fx3 := cell_at_block (off := 3) st2.hx rfl
              have fr0 := cell_at_block (off := 0) st2.hr rfl
              have fr1 := cell_at_block (off := 1) st2.hr rfl
              have fr2 := cell_at_block (off := 2) st2.hr rfl
              have fb0 := cell_at_block (off := 0) st2.hb rfl
              have fb1 := cell_at_block (off := 1) st2.hb rfl
              have fb2 := cell_at_block (off := 2) st2.hb rfl
              have C3 := Lib.hid (signed_any w1.heap.size _ ((L ++ numB (x.r.at_ - bf.at_)) ++ numB (x.r.key - bf.key)) (x.r.val) _ st2.own st2.lob (by omega) (by omega) (by first | omega | (simp only [List.length_append]; omega)))
              have ST2 := Lib.hid st2
              clear st2
              go_wp2_with fail
              (with_reducible refine C3.out.mono ?_)
              rintro e y3 ⟨v5, rfl, hown, hg, hloc⟩
              have st3 := ST2.out.step hown hg hloc
              clear hown hg hloc C3 fx0 fx1 fx2 fx3 fr0 fr1 fr2 fb0 fb1 fb2
              have fx0 := cell_at_block (off := 0) st3.hx rfl
              have fx1 := cell_at_block (off := 1) st3.hx rfl
              have fx2 := cell_at_block (off := 2) st3.hx rfl
              have fx3 := cell_at_block (off := 3) st3.hx rfl
              have fr0 := cell_at_block (off := 0) st3.hr rfl
              have fr1 := cell_at_block (off := 1) st3.hr rfl
              have fr2 := cell_at_block (off := 2) st3.hr rfl
              have fb0 := cell_at_block (off := 0) st3.hb rfl
              have fb1 := cell_at_block (off := 1) st3.hb rfl
              have fb2 := cell_at_block (off := 2) st3.hb rfl
              have C4 := Lib.hid (signed_any w1.heap.size _ (((L ++ numB (x.r.at_ - bf.at_)) ++ numB (x.r.key - bf.key)) ++ intB x.r.val) (x.n) _ st3.own st3.lob (by omega) (by omega) (by first | omega | (simp only [List.length_append]; omega)))
              have ST3 := Lib.hid st3
              clear st3
              go_wp2_with fail
              (with_reducible refine C4.out.mono ?_)
              rintro e y4 ⟨v6, rfl, hown, hg, hloc⟩
              have st4 := ST3.out.step hown hg hloc
              clear hown hg hloc C4 fx0 fx1 fx2 fx3 fr0 fr1 fr2 fb0 fb1 fb2
              have fx0 := cell_at_block (off := 0) st4.hx rfl
              have fx1 := cell_at_block (off := 1) st4.hx rfl
              have fx2 := cell_at_block (off := 2) st4.hx rfl
              have fx3 := cell_at_block (off := 3) st4.hx rfl
              have fr0 := cell_at_block (off := 0) st4.hr rfl
              have fr1 := cell_at_block (off := 1) st4.hr rfl
              have fr2 := cell_at_block (off := 2) st4.hr rfl
              have fb0 := cell_at_block (off := 0) st4.hb rfl
              have fb1 := cell_at_block (off := 1) st4.hb rfl
              have fb2 := cell_at_block (off := 2) st4.hb rfl
              have g0 := free_at_block (off := 0) st4.hb
              have g1 := free_at_block (off := 1) st4.hb
              have g2 := free_at_block (off := 2) st4.hb
              have S3 := Lib.hid (set3 st4.hb (.int .i64 x.r.at_) (.int .i64 x.r.key) (.int .i64 x.r.val))
              have ST4 := Lib.hid st4
              clear st4
              go_wp2_with fail
              refine ⟨⟨k + 1, by omega, by go_num, ?_, ST4.out.nb, by rw [HBN.out]; exact S3.out.1, ST4.out.below.grown S3.out.2 ST4.out.below.size (fun q hq => by cases hq; omega), Nat.le_trans ST4.out.lob S3.out.2.size, hlo0⟩, by simp [intOf]; omega⟩
              have e5 : numB l.length ++ encTo l (k + 1) = (((L ++ numB (x.r.at_ - bf.at_)) ++ numB (x.r.key - bf.key)) ++ intB x.r.val) ++ intB x.n := by
                rw [HEN.out, ← List.append_assoc, HLE.out, HSM.out]
                simp [encOne, keyB, valB, HKE.out]
              rw [e5]
              exact ST4.out.own.grown S3.out.2 (.inr ST4.out.nb)
          | false =>
            have hs : sameB l k x = false := by rw [hsm, hat]; simp
            have HSM := Lib.hid hs
            clear hs hsm
            have q1 := numB_length (x.r.at_ - bf.at_)
            have q2 := intB_length x.r.key
            have q3 := intB_length x.r.val
            have st0 : BSt w1.heap.size wr.heap.size (wr.heap.size + 1) gb w1 #[.int .i64 x.r.at_, .int .i64 x.r.key, .int .i64 x.r.val, .int .i64 x.n] #[.int .i64 x.r.at_, .int .i64 x.r.key, .int .i64 x.r.val] #[.int .i64 bf.at_, .int .i64 bf.key, .int .i64 bf.val] ((wr.alloc (.cells #[.int .i64 x.r.at_, .int .i64 x.r.key, .int .i64 x.r.val, .int .i64 x.n] 40)).alloc (.cells #[.int .i64 x.r.at_, .int .i64 x.r.key, .int .i64 x.r.val] 38)) u4 L := bst0 ho HNE.out hgb HB.out hlo hlo0
            have fb0 := cell_at_block (off := 0) hgb rfl
            have fb1 := cell_at_block (off := 1) hgb rfl
            have fb2 := cell_at_block (off := 2) hgb rfl
            clear ho hgb
            have C1 := Lib.hid (numbered_any w1.heap.size _ (L) (x.r.at_ - bf.at_) _ st0.own st0.lob (by omega) (by omega) (by first | omega | (simp only [List.length_append]; omega)))
            have ST0 := Lib.hid st0
            clear st0
            go_wp2_with fail
            (with_reducible refine C1.out.mono ?_)
            rintro e y1 ⟨v3, rfl, hown, hg, hloc⟩
            have st1 := ST0.out.step hown hg hloc
            clear hown hg hloc C1 c0 c1 c2 c3 fb0 fb1 fb2
            have fx0 := cell_at_block (off := 0) st1.hx rfl
            have fx1 := cell_at_block (off := 1) st1.hx rfl
            have fx2 := cell_at_block (off := 2) st1.hx rfl
            have fx3 := cell_at_block (off := 3) st1.hx rfl
            have fr0 := cell_at_block (off := 0) st1.hr rfl
            have fr1 := cell_at_block (off := 1) st1.hr rfl
            have fr2 := cell_at_block (off := 2) st1.hr rfl
            have fb0 := cell_at_block (off := 0) st1.hb rfl
            have fb1 := cell_at_block (off := 1) st1.hb rfl
            have fb2 := cell_at_block (off := 2) st1.hb rfl
            have C2 := Lib.hid (signed_any w1.heap.size _ (L ++ numB (x.r.at_ - bf.at_)) (x.r.key) _ st1.own st1.lob (by omega) (by omega) (by first | omega | (simp only [List.length_append]; omega)))
            have ST1 := Lib.hid st1
            clear st1
            go_wp2_with fail
            (with_reducible refine C2.out.mono ?_)
            rintro e y2 ⟨v4, rfl, hown, hg, hloc⟩
            have st2 := ST1.out.step hown hg hloc
            clear hown hg hloc C2 fx0 fx1 fx2 fx3 fr0 fr1 fr2 fb0 fb1 fb2
            have fx0 := cell_at_block (off := 0) st2.hx rfl
            have fx1 := cell_at_block (off := 1) st2.hx rfl
            have fx2 := cell_at_block (off := 2) st2.hx rfl
            have fx3 := cell_at_block (off := 3) st2.hx rfl
            have fr0 := cell_at_block (off := 0) st2.hr rfl
            have fr1 := cell_at_block (off := 1) st2.hr rfl
            have fr2 := cell_at_block (off := 2) st2.hr rfl
            have fb0 := cell_at_block (off := 0) st2.hb rfl
            have fb1 := cell_at_block (off := 1) st2.hb rfl
            have fb2 := cell_at_block (off := 2) st2.hb rfl
            have C3 := Lib.hid (signed_any w1.heap.size _ ((L ++ numB (x.r.at_ - bf.at_)) ++ intB x.r.key) (x.r.val) _ st2.own st2.lob (by omega) (by omega) (by first | omega | (simp only [List.length_append]; omega)))
            have ST2 := Lib.hid st2
            clear st2
            go_wp2_with fail
            (with_reducible refine C3.out.mono ?_)
            rintro e y3 ⟨v5, rfl, hown, hg, hloc⟩
            have st3 := ST2.out.step hown hg hloc
            clear hown hg hloc C3 fx0 fx1 fx2 fx3 fr0 fr1 fr2 fb0 fb1 fb2
            have fx0 := cell_at_block (off := 0) st3.hx rfl
            have fx1 := cell_at_block (off := 1) st3.hx rfl
            have fx2 := cell_at_block (off := 2) st3.hx rfl
            have fx3 := cell_at_block (off := 3) st3.hx rfl
            have fr0 := cell_at_block (off := 0) st3.hr rfl
            have fr1 := cell_at_block (off := 1) st3.hr rfl
            have fr2 := cell_at_block (off := 2) st3.hr rfl
            have fb0 := cell_at_block (off := 0) st3.hb rfl
            have fb1 := cell_at_block (off := 1) st3.hb rfl
            have fb2 := cell_at_block (off := 2) st3.hb rfl
            have C4 := Lib.hid (signed_any w1.heap.size _ (((L ++ numB (x.r.at_ - bf.at_)) ++ intB x.r.key) ++ intB x.r.val) (x.n) _ st3.own st3.lob (by omega) (by omega) (by first | omega | (simp only [List.length_append]; omega)))
            have ST3 := Lib.hid st3
            clear st3
            go_wp2_with fail
            (with_reducible refine C4.out.mono ?_)
            rintro e y4 ⟨v6, rfl, hown, hg, hloc⟩
            have st4 := ST3.out.step hown hg hloc
            clear hown hg hloc C4 fx0 fx1 fx2 fx3 fr0 fr1 fr2 fb0 fb1 fb2
            have fx0 := cell_at_block (off := 0) st4.hx rfl
            have fx1 := cell_at_block (off := 1) st4.hx rfl
            have fx2 := cell_at_block (off := 2) st4.hx rfl
            have fx3 := cell_at_block (off := 3) st4.hx rfl
            have fr0 := cell_at_block (off := 0) st4.hr rfl
            have fr1 := cell_at_block (off := 1) st4.hr rfl
            have fr2 := cell_at_block (off := 2) st4.hr rfl
            have fb0 := cell_at_block (off := 0) st4.hb rfl
            have fb1 := cell_at_block (off := 1) st4.hb rfl
            have fb2 := cell_at_block (off := 2) st4.hb rfl
            have g0 := free_at_block (off := 0) st4.hb
            have g1 := free_at_block (off := 1) st4.hb
            have g2 := free_at_block (off := 2) st4.hb
            have S3 := Lib.hid (set3 st4.hb (.int .i64 x.r.at_) (.int .i64 x.r.key) (.int .i64 x.r.val))
            have ST4 := Lib.hid st4
            clear st4
            go_wp2_with fail
            refine ⟨⟨k + 1, by omega, by go_num, ?_, ST4.out.nb, by rw [HBN.out]; exact S3.out.1, ST4.out.below.grown S3.out.2 ST4.out.below.size (fun q hq => by cases hq; omega), Nat.le_trans ST4.out.lob S3.out.2.size, hlo0⟩, by simp [intOf]; omega⟩
            have e5 : numB l.length ++ encTo l (k + 1) = (((L ++ numB (x.r.at_ - bf.at_)) ++ intB x.r.key) ++ intB x.r.val) ++ intB x.n := by
              rw [HEN.out, ← List.append_assoc, HLE.out, HSM.out]
              simp [encOne, keyB, valB]
            rw [e5]
            exact ST4.out.own.grown S3.out.2 (.inr ST4.out.nb)
        · have hg0 : decide ((0 : Int) < (k : Int)) = false := by simpa using hk0
          have hs : sameB l k x = false := by rw [hsm]; simp [hk0]
          have HSM := Lib.hid hs
          clear hs hsm
          have q1 := numB_length (x.r.at_ - bf.at_)
          have q2 := intB_length x.r.key
          have q3 := intB_length x.r.val
          have st0 : BSt w1.heap.size wr.heap.size (wr.heap.size + 1) gb w1 #[.int .i64 x.r.at_, .int .i64 x.r.key, .int .i64 x.r.val, .int .i64 x.n] #[.int .i64 x.r.at_, .int .i64 x.r.key, .int .i64 x.r.val] #[.int .i64 bf.at_, .int .i64 bf.key, .int .i64 bf.val] ((wr.alloc (.cells #[.int .i64 x.r.at_, .int .i64 x.r.key, .int .i64 x.r.val, .int .i64 x.n] 40)).alloc (.cells #[.int .i64 x.r.at_, .int .i64 x.r.key, .int .i64 x.r.val] 38)) u4 L := bst0 ho HNE.out hgb HB.out hlo hlo0
          have fb0 := cell_at_block (off := 0) hgb rfl
          have fb1 := cell_at_block (off := 1) hgb rfl
          have fb2 := cell_at_block (off := 2) hgb rfl
          clear ho hgb
          have C1 := Lib.hid (numbered_any w1.heap.size _ (L) (x.r.at_ - bf.at_) _ st0.own st0.lob (by omega) (by omega) (by first | omega | (simp only [List.length_append]; omega)))
          have ST0 := Lib.hid st0
          clear st0
          go_wp2_with fail
          (with_reducible refine C1.out.mono ?_)
          rintro e y1 ⟨v3, rfl, hown, hg, hloc⟩
          have st1 := ST0.out.step hown hg hloc
          clear hown hg hloc C1 c0 c1 c2 c3 fb0 fb1 fb2
          have fx0 := cell_at_block (off := 0) st1.hx rfl
          have fx1 := cell_at_block (off := 1) st1.hx rfl
          have fx2 := cell_at_block (off := 2) st1.hx rfl
          have fx3 := cell_at_block (off := 3) st1.hx rfl
          have fr0 := cell_at_block (off := 0) st1.hr rfl
          have fr1 := cell_at_block (off := 1) st1.hr rfl
          have fr2 := cell_at_block (off := 2) st1.hr rfl
          have fb0 := cell_at_block (off := 0) st1.hb rfl
          have fb1 := cell_at_block (off := 1) st1.hb rfl
          have fb2 := cell_at_block (off := 2) st1.hb rfl
          have C2 := Lib.hid (signed_any w1.heap.size _ (L ++ numB (x.r.at_ - bf.at_)) (x.r.key) _ st1.own st1.lob (by omega) (by omega) (by first | omega | (simp only [List.length_append]; omega)))
          have ST1 := Lib.hid st1
          clear st1
          go_wp2_with fail
          (with_reducible refine C2.out.mono ?_)
          rintro e y2 ⟨v4, rfl, hown, hg, hloc⟩
          have st2 := ST1.out.step hown hg hloc
          clear hown hg hloc C2 fx0 fx1 fx2 fx3 fr0 fr1 fr2 fb0 fb1 fb2
          have fx0 := cell_at_block (off := 0) st2.hx rfl
          have fx1 := cell_at_block (off := 1) st2.hx rfl
          have fx2 := cell_at_block (off := 2) st2.hx rfl
          have fx3 := cell_at_block (off := 3) st2.hx rfl
          have fr0 := cell_at_block (off := 0) st2.hr rfl
          have fr1 := cell_at_block (off := 1) st2.hr rfl
          have fr2 := cell_at_block (off := 2) st2.hr rfl
          have fb0 := cell_at_block (off := 0) st2.hb rfl
          have fb1 := cell_at_block (off := 1) st2.hb rfl
          have fb2 := cell_at_block (off := 2) st2.hb rfl
          have C3 := Lib.hid (signed_any w1.heap.size _ ((L ++ numB (x.r.at_ - bf.at_)) ++ intB x.r.key) (x.r.val) _ st2.own st2.lob (by omega) (by omega) (by first | omega | (simp only [List.length_append]; omega)))
          have ST2 := Lib.hid st2
          clear st2
          go_wp2_with fail
          (with_reducible refine C3.out.mono ?_)
          rintro e y3 ⟨v5, rfl, hown, hg, hloc⟩
          have st3 := ST2.out.step hown hg hloc
          clear hown hg hloc C3 fx0 fx1 fx2 fx3 fr0 fr1 fr2 fb0 fb1 fb2
          have fx0 := cell_at_block (off := 0) st3.hx rfl
          have fx1 := cell_at_block (off := 1) st3.hx rfl
          have fx2 := cell_at_block (off := 2) st3.hx rfl
          have fx3 := cell_at_block (off := 3) st3.hx rfl
          have fr0 := cell_at_block (off := 0) st3.hr rfl
          have fr1 := cell_at_block (off := 1) st3.hr rfl
          have fr2 := cell_at_block (off := 2) st3.hr rfl
          have fb0 := cell_at_block (off := 0) st3.hb rfl
          have fb1 := cell_at_block (off := 1) st3.hb rfl
          have fb2 := cell_at_block (off := 2) st3.hb rfl
          have C4 := Lib.hid (signed_any w1.heap.size _ (((L ++ numB (x.r.at_ - bf.at_)) ++ intB x.r.key) ++ intB x.r.val) (x.n) _ st3.own st3.lob (by omega) (by omega) (by first | omega | (simp only [List.length_append]; omega)))
          have ST3 := Lib.hid st3
          clear st3
          go_wp2_with fail
          (with_reducible refine C4.out.mono ?_)
          rintro e y4 ⟨v6, rfl, hown, hg, hloc⟩
          have st4 := ST3.out.step hown hg hloc
          clear hown hg hloc C4 fx0 fx1 fx2 fx3 fr0 fr1 fr2 fb0 fb1 fb2
          have fx0 := cell_at_block (off := 0) st4.hx rfl
          have fx1 := cell_at_block (off := 1) st4.hx rfl
          have fx2 := cell_at_block (off := 2) st4.hx rfl
          have fx3 := cell_at_block (off := 3) st4.hx rfl
          have fr0 := cell_at_block (off := 0) st4.hr rfl
          have fr1 := cell_at_block (off := 1) st4.hr rfl
          have fr2 := cell_at_block (off := 2) st4.hr rfl
          have fb0 := cell_at_block (off := 0) st4.hb rfl
          have fb1 := cell_at_block (off := 1) st4.hb rfl
          have fb2 := cell_at_block (off := 2) st4.hb rfl
          have g0 := free_at_block (off := 0) st4.hb
          have g1 := free_at_block (off := 1) st4.hb
          have g2 := free_at_block (off := 2) st4.hb
          have S3 := Lib.hid (set3 st4.hb (.int .i64 x.r.at_) (.int .i64 x.r.key) (.int .i64 x.r.val))
          have ST4 := Lib.hid st4
          clear st4
          go_wp2_with fail
          refine ⟨⟨k + 1, by omega, by go_num, ?_, ST4.out.nb, by rw [HBN.out]; exact S3.out.1, ST4.out.below.grown S3.out.2 ST4.out.below.size (fun q hq => by cases hq; omega), Nat.le_trans ST4.out.lob S3.out.2.size, hlo0⟩, by simp [intOf]; omega⟩
          have e5 : numB l.length ++ encTo l (k + 1) = (((L ++ numB (x.r.at_ - bf.at_)) ++ intB x.r.key) ++ intB x.r.val) ++ intB x.n := by
            rw [HEN.out, ← List.append_assoc, HLE.out, HSM.out]
            simp [encOne, keyB, valB]
          rw [e5]
          exact ST4.out.own.grown S3.out.2 (.inr ST4.out.nb)
        -- CASES TO HERE
      · have hk' : k = n := by omega
        subst hk'
        clear hRk hlt
        have e2 : bytesOf l = numB l.length ++ encTo l k := by rw [bytesOf, HLL.out]
        have ho := HO.out
        rw [← e2] at ho
        obtain ⟨A5, cap5, he5, hr5⟩ := ho.rd bv_length
        subst he5
        clear ho e2
        go_wp2_with fail
        go_ret2
        exact ⟨A5, cap5, rfl, hr5.low HB1.out.size, bchain HB1.out HB.out⟩
end Go.Proofs.Bg
