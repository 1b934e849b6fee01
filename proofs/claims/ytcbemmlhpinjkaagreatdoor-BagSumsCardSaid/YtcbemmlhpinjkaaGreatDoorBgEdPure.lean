/- Plain law: the edits from one bag to another one. -/
import Derived.Test.YtcbemmlhpinjkaaGreatDoorBgTurned
import Derived.Test.YtcbemmlhpinjkaaGreatDoorBgKeysI
namespace Go.Proofs.Bg

def missL (l : List It) (k : Int) : List It := (l.filter (fun x => decide (x.r.key = k) && decide (x.n < 0))).map negIt
def thereL (l : List It) (k : Int) : List It := l.filter (fun x => decide (x.r.key = k) && !decide (x.n < 0))
def sideL (l : List It) (k : Int) (b : Bool) : List It := if b then thereL l k else missL l k
/-- What an item adds to its side. -/
def sideI (x : It) : It := if x.n < 0 then negIt x else x
theorem sideL_snoc (l : List It) (x : It) (k : Int) (b : Bool) : sideL (l ++ [x]) k b = if k = x.r.key ∧ b = !decide (x.n < 0) then sideL l k b ++ [sideI x] else sideL l k b := by
  by_cases hk : x.r.key = k
  · subst hk
    by_cases hn : x.n < 0 <;> cases b <;> simp [sideL, missL, thereL, sideI, List.filter_append, hn]
  · have : ¬ k = x.r.key := fun e => hk e.symm
    cases b <;> simp [sideL, missL, thereL, List.filter_append, hk, this]

def insI (k : Int) : List Int → List Int
  | [] => [k]
  | y :: r => if k < y then k :: y :: r else if k = y then y :: r else y :: insI k r
def keysL : List It → List Int
  | [] => []
  | x :: r => insI x.r.key (keysL r)
theorem insI_mem (k : Int) (l : List Int) (z : Int) : z ∈ insI k l ↔ z = k ∨ z ∈ l := by
  induction l with
  | nil => simp [insI]
  | cons y r ih =>
    rw [insI]
    split
    · simp
    · split
      · rename_i h; subst h; simp
      · simp only [List.mem_cons, ih]; constructor <;> (intro h; rcases h with h | h | h <;> simp [h])
theorem insI_incr (k : Int) (l : List Int) (h : IncrI l) : IncrI (insI k l) := by
  induction l with
  | nil => simp [insI, IncrI]
  | cons y r ih =>
    obtain ⟨h1, h2⟩ := List.pairwise_cons.1 h
    rw [insI]
    split
    · rename_i hc
      refine List.pairwise_cons.2 ⟨fun z hz => ?_, h⟩
      rcases List.mem_cons.1 hz with e | hm
      · omega
      · have := h1 z hm; omega
    · split
      · exact h
      · refine List.pairwise_cons.2 ⟨fun z hz => ?_, ih h2⟩
        rcases (insI_mem k r z).1 hz with e | hm
        · omega
        · exact h1 z hm
theorem keysL_mem (l : List It) (z : Int) : z ∈ keysL l ↔ z ∈ l.map (·.r.key) := by
  induction l with
  | nil => simp [keysL]
  | cons x r ih => rw [keysL, insI_mem, ih]; simp
theorem keysL_incr (l : List It) : IncrI (keysL l) := by
  induction l with
  | nil => simp [keysL, IncrI]
  | cons x r ih => exact insI_incr _ _ ih
theorem incrI_uniq : ∀ {a b : List Int}, IncrI a → IncrI b → (∀ z, z ∈ a ↔ z ∈ b) → a = b
  | [], [], _, _, _ => rfl
  | [], y :: s, _, _, h => absurd ((h y).2 List.mem_cons_self) (by simp)
  | x :: r, [], _, _, h => absurd ((h x).1 List.mem_cons_self) (by simp)
  | x :: r, y :: s, ha, hb, h => by
    obtain ⟨a1, a2⟩ := List.pairwise_cons.1 ha
    obtain ⟨b1, b2⟩ := List.pairwise_cons.1 hb
    have hxy : x = y := by
      rcases List.mem_cons.1 ((h x).1 List.mem_cons_self) with e | m
      · exact e
      · rcases List.mem_cons.1 ((h y).2 List.mem_cons_self) with e | m'
        · exact e.symm
        · have := a1 y m'; have := b1 x m; omega
    subst hxy
    have : r = s := incrI_uniq a2 b2 fun z => by
      constructor
      · intro hz
        rcases List.mem_cons.1 ((h z).1 (List.mem_cons_of_mem _ hz)) with e | m
        · have := a1 z hz; omega
        · exact m
      · intro hz
        rcases List.mem_cons.1 ((h z).2 (List.mem_cons_of_mem _ hz)) with e | m
        · have := b1 z hz; omega
        · exact m
    rw [this]

/-- The edits of the items that part two bags. -/
def edKey (d : List It) (k : Int) : List Ed := turnL (missL d k) (thereL d k)
def editsL (d : List It) : List Ed := (keysL d).flatMap (edKey d)
def diffL (a b : List It) : List It := canon (a.map negIt ++ b)
def bigE (l : List Ed) : Bool := l.any (fun x => decide (1000000 < x.n))
def editsR (a b : List It) : List Ed × Int := if bagB a && bagB b then (if bigE (editsL (diffL a b)) then ([], 3) else (editsL (diffL a b), 0)) else ([], 2)

theorem turnF_length : ∀ (f : Nat) (l1 l2 : List It), (turnF f l1 l2).length ≤ l1.length + l2.length
  | 0, _, _ => by simp [turnF]
  | f + 1, [], l2 => by simp [turnF]
  | f + 1, x :: r, [] => by simp [turnF]
  | f + 1, x :: r, y :: s => by
    rw [turnF, List.length_cons]
    have h := turnF_length f (lessL (x :: r) (min x.n y.n)) (lessL (y :: s) (min x.n y.n))
    have e1 := lessL_length x r (min x.n y.n)
    have e2 := lessL_length y s (min x.n y.n)
    have : x.n = min x.n y.n ∨ y.n = min x.n y.n := by omega
    simp only [List.length_cons]
    split at e1 <;> split at e2 <;> omega
theorem missL_length (l : List It) (k : Int) : (missL l k).length ≤ l.length := by
  rw [missL, List.length_map]; exact List.length_filter_le _ _
theorem thereL_length (l : List It) (k : Int) : (thereL l k).length ≤ l.length := List.length_filter_le _ _
theorem edKey_length (l : List It) (k : Int) : (edKey l k).length ≤ 2 * l.length := by
  have h1 := turnF_length ((missL l k).length + (thereL l k).length + 1) (missL l k) (thereL l k)
  have h2 := missL_length l k
  have h3 := thereL_length l k
  unfold edKey turnL
  omega
theorem edKey_pos {l : List It} {k : Int} (h : k ∈ l.map (·.r.key)) : edKey l k ≠ [] := by
  obtain ⟨x, hx, rfl⟩ := List.mem_map.1 h
  have hne : missL l x.r.key ≠ [] ∨ thereL l x.r.key ≠ [] := by
    by_cases hn : x.n < 0
    · refine .inl (List.ne_nil_of_mem (a := negIt x) (List.mem_map.2 ⟨x, List.mem_filter.2 ⟨hx, by simp [hn]⟩, rfl⟩))
    · exact .inr (List.ne_nil_of_mem (a := x) (List.mem_filter.2 ⟨hx, by simp; omega⟩))
  unfold edKey turnL
  cases h1 : missL l x.r.key with
  | nil =>
    cases h2 : thereL l x.r.key with
    | nil => rw [h1, h2] at hne; simp at hne
    | cons y s => simp [turnF]
  | cons y s =>
    cases h2 : thereL l x.r.key with
    | nil => simp [turnF]
    | cons z t => simp [turnF]
theorem insIt_length (x : It) (m : List It) : (insIt x m).length ≤ m.length + 1 := by
  induction m with
  | nil => simp [insIt]
  | cons y r ih => rw [insIt]; repeat' split; all_goals simp; try omega
theorem gather_length (l : List It) : (gather l).length ≤ l.length := by
  induction l with
  | nil => simp [gather]
  | cons x r ih => rw [gather]; have := insIt_length x (gather r); simp; omega
theorem canon_length (l : List It) : (canon l).length ≤ l.length := Nat.le_trans (List.length_filter_le _ _) (gather_length l)
theorem gather_mem (l : List It) : ∀ k ∈ (gather l).map (·.r), k ∈ l.map (·.r) := by
  induction l with
  | nil => simp [gather]
  | cons x r ih =>
    intro k hk
    rcases insIt_mem x _ k hk with h | h
    · simp [h]
    · have := ih k h; simp at this ⊢; exact .inr this
theorem canon_mem (l : List It) : ∀ k ∈ (canon l).map (·.r), k ∈ l.map (·.r) := fun k hk => by
  obtain ⟨x, hx, rfl⟩ := List.mem_map.1 hk
  exact gather_mem l _ (List.mem_map.2 ⟨x, (List.mem_filter.1 hx).1, rfl⟩)
theorem sumN_at {m : List It} (h : Incr (m.map (·.r))) {x : It} (hx : x ∈ m) : sumN m x.r = x.n := by
  induction m with
  | nil => cases hx
  | cons y r ih =>
    have hy := incr_not_head (by simpa using h)
    rcases List.mem_cons.1 hx with rfl | hx
    · rw [sumN, if_pos rfl, sumN_none hy]; omega
    · have : y.r ≠ x.r := fun e => hy (by rw [e]; exact List.mem_map.2 ⟨x, hx, rfl⟩)
      rw [sumN, if_neg this, ih (incr_tail (by simpa using h)) hx]; omega
theorem canon_bdd {B : Int} (hB : 0 ≤ B) {l : List It} (h : Bdd B l) : Bdd (B * l.length) (canon l) := fun x hx => by
  have e := sumN_at (canon_is l).incr hx
  rw [(canon_is l).sums] at e
  have := sumN_bdd hB h x.r
  omega
theorem bagB_neg {a : List It} (h : bagB a = true) : bagB (a.map negIt) = true := by
  rw [bagB_spec] at h ⊢
  refine ⟨fun x hx => ?_, by simpa [negIt, Function.comp_def] using h.2.1, by simpa using h.2.2⟩
  obtain ⟨y, hy, rfl⟩ := List.mem_map.1 hx
  have := (itB_spec y).1 (h.1 y hy)
  exact (itB_spec _).2 (by simp only [negIt]; omega)
/-- What the walk asks of the items that part two bags. -/
structure DOk (d : List It) : Prop where
  len : d.length ≤ 600
  ok : ∀ x ∈ d, x.r.ok ∧ -600000000 ≤ x.n ∧ x.n ≤ 600000000 ∧ x.n ≠ 0
theorem diff_ok {a b : List It} (ha : bagB a = true) (hb : bagB b = true) : DOk (diffL a b) := by
  have hf := fits_two (bagB_neg ha) hb
  have h1 := ((bagB_spec a).1 ha).2.2
  have h2 := ((bagB_spec b).1 hb).2.2
  have hB : Bdd 1000000 (a.map negIt ++ b) := fun x hx => by
    have : itB x = true := (List.mem_append.1 hx).elim (((bagB_spec _).1 (bagB_neg ha)).1 x) (((bagB_spec b).1 hb).1 x)
    have := (itB_spec x).1 this
    omega
  have hl := canon_length (a.map negIt ++ b)
  have hl2 : (a.map negIt ++ b).length ≤ 600 := by simp; omega
  refine ⟨by unfold diffL; omega, fun x hx => ?_⟩
  have hb := canon_bdd (by omega) hB x hx
  have hm := canon_mem _ _ (List.mem_map.2 ⟨x, hx, rfl⟩)
  obtain ⟨y, hy, e⟩ := List.mem_map.1 hm
  refine ⟨by rw [← e]; exact hf.ok y hy, by omega, by omega, (canon_is _).not0 x hx⟩
theorem sideL_pos {d : List It} (h : DOk d) (k : Int) (b : Bool) : PosL (sideL d k b) := by
  intro x hx
  cases b with
  | false =>
    obtain ⟨y, hy, rfl⟩ := List.mem_map.1 (show x ∈ missL d k from hx)
    obtain ⟨hy, hc⟩ := List.mem_filter.1 hy
    have := h.ok y hy
    simp at hc
    simp only [negIt]; omega
  | true =>
    obtain ⟨hy, hc⟩ := List.mem_filter.1 (show x ∈ thereL d k from hx)
    have := h.ok x hy
    simp at hc
    omega
end Go.Proofs.Bg
