/- Plain words: a map that a walk reads and writes, as the list of its entries in the order in which they came in. No program in sight. -/
import Derived.Maps.RangeWalk
import Derived.Maps.OwnSet
import Derived.OwnWalk
import Derived.WideKeyEntry
namespace Go.Proofs.Bg
open Go.RowKit
open Go.ChangeMaps (setBlock heap_setBlock_same heap_setBlock_other)
open Go.Maps (Keyed)
open Go.ChangeMaps (modify_eq_set)

section kv
variable {K V : Type} [DecidableEq K]
def getKV : List (K × V) → K → Option V
  | [], _ => none
  | p :: r, k => if p.1 = k then some p.2 else getKV r k
def putKV : List (K × V) → K → V → List (K × V)
  | [], k, v => [(k, v)]
  | p :: r, k, v => if p.1 = k then (k, v) :: r else p :: putKV r k v

theorem getKV_not : ∀ {kv : List (K × V)} {k : K}, k ∉ kv.map Prod.fst → getKV kv k = none
  | [], _, _ => rfl
  | p :: r, k, h => by
    simp only [List.map_cons, List.mem_cons, not_or] at h
    rw [getKV, if_neg (fun e => h.1 e.symm), getKV_not h.2]
theorem putKV_not : ∀ {kv : List (K × V)} {k : K} (v : V), k ∉ kv.map Prod.fst → putKV kv k v = kv ++ [(k, v)]
  | [], _, _, _ => rfl
  | p :: r, k, v, h => by
    simp only [List.map_cons, List.mem_cons, not_or] at h
    rw [putKV, if_neg (fun e => h.1 e.symm), putKV_not v h.2, List.cons_append]
theorem getKV_at : ∀ {kv : List (K × V)} {j : Nat} {p : K × V}, (kv.map Prod.fst).Nodup → kv[j]? = some p → getKV kv p.1 = some p.2
  | [], j, p, _, h => by simp at h
  | q :: r, 0, p, _, h => by
    simp only [List.getElem?_cons_zero, Option.some.injEq] at h
    subst h
    simp [getKV]
  | q :: r, j + 1, p, hn, h => by
    simp only [List.getElem?_cons_succ] at h
    simp only [List.map_cons, List.nodup_cons] at hn
    have hm : p.1 ∈ r.map Prod.fst := List.mem_map.2 ⟨p, List.mem_of_getElem? h, rfl⟩
    rw [getKV, if_neg (fun e => hn.1 (by rw [e]; exact hm)), getKV_at hn.2 h]
theorem putKV_at : ∀ {kv : List (K × V)} {j : Nat} {p : K × V} (v : V), (kv.map Prod.fst).Nodup → kv[j]? = some p → putKV kv p.1 v = kv.set j (p.1, v)
  | [], j, p, _, _, h => by simp at h
  | q :: r, 0, p, v, _, h => by
    simp only [List.getElem?_cons_zero, Option.some.injEq] at h
    subst h
    simp [putKV]
  | q :: r, j + 1, p, v, hn, h => by
    simp only [List.getElem?_cons_succ] at h
    simp only [List.map_cons, List.nodup_cons] at hn
    have hm : p.1 ∈ r.map Prod.fst := List.mem_map.2 ⟨p, List.mem_of_getElem? h, rfl⟩
    rw [putKV, if_neg (fun e => hn.1 (by rw [e]; exact hm)), putKV_at v hn.2 h, List.set_cons_succ]
theorem keys_putKV (kv : List (K × V)) (k : K) (v : V) : (putKV kv k v).map Prod.fst = if k ∈ kv.map Prod.fst then kv.map Prod.fst else kv.map Prod.fst ++ [k] := by
  induction kv with
  | nil => simp [putKV]
  | cons p r ih =>
    by_cases h : p.1 = k
    · simp [putKV, h]
    · have h' : ¬ k = p.1 := fun e => h e.symm
      by_cases hm : k ∈ r.map Prod.fst
      · rw [putKV, if_neg h, List.map_cons, ih, if_pos hm, if_pos (by simp only [List.map_cons, List.mem_cons]; exact .inr hm), List.map_cons]
      · rw [putKV, if_neg h, List.map_cons, ih, if_neg hm, if_neg (by simp only [List.map_cons, List.mem_cons, not_or]; exact ⟨h', hm⟩), List.map_cons, List.cons_append]
theorem nodup_putKV {kv : List (K × V)} (h : (kv.map Prod.fst).Nodup) (k : K) (v : V) : ((putKV kv k v).map Prod.fst).Nodup := by
  rw [keys_putKV]
  split
  · exact h
  · rename_i hk
    exact List.nodup_append.2 ⟨h, by simp, fun a ha b hb e => by simp at hb; subst hb; subst e; exact hk ha⟩
theorem getKV_put (kv : List (K × V)) (k k' : K) (v : V) : getKV (putKV kv k v) k' = if k = k' then some v else getKV kv k' := by
  induction kv with
  | nil => simp [putKV, getKV]
  | cons p r ih =>
    by_cases h : p.1 = k
    · subst h
      by_cases h2 : p.1 = k' <;> simp [putKV, getKV, h2]
    · rw [putKV, if_neg h, getKV, ih, getKV]
      by_cases h2 : p.1 = k'
      · rw [if_pos h2, if_pos h2, if_neg (fun e => h (h2.trans e.symm))]
      · rw [if_neg h2, if_neg h2]
theorem mem_of_getKV : ∀ {kv : List (K × V)} {k : K} {v : V}, getKV kv k = some v → (k, v) ∈ kv
  | [], _, _, h => by simp [getKV] at h
  | p :: r, k, v, h => by
    rw [getKV] at h
    split at h
    · rename_i e
      cases h
      rw [← e]
      exact List.mem_cons_self
    · exact List.mem_cons_of_mem _ (mem_of_getKV h)
theorem getKV_of_mem {kv : List (K × V)} (hn : (kv.map Prod.fst).Nodup) {k : K} {v : V} (h : (k, v) ∈ kv) : getKV kv k = some v := by
  obtain ⟨j, hj⟩ := List.mem_iff_getElem?.1 h
  exact getKV_at (p := (k, v)) hn hj
theorem length_putKV (kv : List (K × V)) (k : K) (v : V) : (putKV kv k v).length ≤ kv.length + 1 := by
  induction kv with
  | nil => simp [putKV]
  | cons p r ih => rw [putKV]; split <;> simp; omega
end kv

section
variable {K V : Type}

/-- Block r of w is a map with these entries, in this order. -/
def MapIs (P : Program) (k : TypeId) (ek : K → Value) (ev : V → Value) (w : World) (r : Nat) (kv : List (K × V)) : Prop :=
  (kv.map Prod.fst).Nodup ∧ ∃ es clock, w.heap[r]? = some (.map es clock) ∧ (∀ x ∈ es.toList, x.born < clock) ∧ (es.toList.map (·.born)).Nodup ∧ (∀ x ∈ es.toList, ∃ l, keyOf P k x.key = some l) ∧ es.toList.map (fun x => (x.key, x.val)) = kv.map (fun p => (ek p.1, ev p.2))

variable {P : Program} {k : TypeId} {ek : K → Value} {ev : V → Value} {w : World} {r : Nat} {kv : List (K × V)}

theorem MapIs.made (w : World) (P : Program) (k : TypeId) (ek : K → Value) (ev : V → Value) : MapIs P k ek ev (w.alloc (.map #[] 0)) w.heap.size ([] : List (K × V)) :=
  ⟨by simp, #[], 0, (MapKept.heap_alloc w _).1, by simp, by simp, by simp, by simp⟩
theorem MapIs.lt (h : MapIs P k ek ev w r kv) : r < w.heap.size := by
  obtain ⟨_, es, clock, hb, _⟩ := h
  exact (Array.getElem?_eq_some_iff.1 hb).1
theorem MapIs.same {w' : World} (h : MapIs P k ek ev w r kv) (e : w'.heap[r]? = w.heap[r]?) : MapIs P k ek ev w' r kv := by
  obtain ⟨hn, es, clock, hb, h1⟩ := h
  exact ⟨hn, es, clock, e.trans hb, h1⟩
theorem MapIs.below {w' : World} (h : MapIs P k ek ev w r kv) (hb : Below w.heap.size w w') : MapIs P k ek ev w' r kv := h.same (hb.block r h.lt)
theorem MapIs.grown {w' : World} {row : Option Nat} (h : MapIs P k ek ev w r kv) (hg : w.grownBy w' row) (hne : some r ≠ row) : MapIs P k ek ev w' r kv := h.same (hg.block r h.lt hne)
theorem MapIs.alloc (h : MapIs P k ek ev w r kv) (o : Obj) : MapIs P k ek ev (w.alloc o) r kv := h.same (Below.heap_alloc w o r h.lt)
theorem MapIs.nodup (h : MapIs P k ek ev w r kv) : (kv.map Prod.fst).Nodup := h.1
theorem MapIs.drew (h : MapIs P k ek ev w r kv) : MapIs P k ek ev w.drew r kv := h

theorem MapIs.zip_at {es : List MapEntry} (he : es.map (fun x => (x.key, x.val)) = kv.map (fun p => (ek p.1, ev p.2))) {j : Nat} {e0 : MapEntry} (h : es[j]? = some e0) : ∃ p, kv[j]? = some p ∧ e0.key = ek p.1 ∧ e0.val = ev p.2 := by
  have h1 : (es.map (fun x => (x.key, x.val)))[j]? = some (e0.key, e0.val) := by simp [h]
  rw [he, List.getElem?_map] at h1
  cases hk : kv[j]? with
  | none => rw [hk] at h1; simp at h1
  | some p =>
    rw [hk] at h1
    simp only [Option.map_some, Option.some.injEq, Prod.mk.injEq] at h1
    exact ⟨p, rfl, h1.1.symm, h1.2.symm⟩
theorem MapIs.zip_not {es : List MapEntry} (he : es.map (fun x => (x.key, x.val)) = kv.map (fun p => (ek p.1, ev p.2))) {key : K} (h : ∀ e ∈ es, e.key ≠ ek key) : key ∉ kv.map Prod.fst := by
  intro hm
  obtain ⟨p, hp, rfl⟩ := List.mem_map.1 hm
  have : (ek p.1, ev p.2) ∈ es.map (fun x => (x.key, x.val)) := by rw [he]; exact List.mem_map.2 ⟨p, hp, rfl⟩
  obtain ⟨e, h1, h2⟩ := List.mem_map.1 this
  simp only [Prod.mk.injEq] at h2
  exact h e h1 h2.1

variable [DecidableEq K]
/-- What the search finds. -/
theorem MapIs.find (L : Keyed P k) (hinj : ∀ a b, ek a = ek b → a = b) (hn : (kv.map Prod.fst).Nodup) {es : Array MapEntry} (hk : ∀ x ∈ es.toList, ∃ l, keyOf P k x.key = some l) (he : es.toList.map (fun x => (x.key, x.val)) = kv.map (fun p => (ek p.1, ev p.2)))
    {key : K} {kl : Lit} (hkey : keyOf P k (ek key) = some kl) (w : World) :
    ((Instr.findKey k (ek key) es.toList).run P w = .ok none w ∧ key ∉ kv.map Prod.fst) ∨
    ∃ j e0 v, (Instr.findKey k (ek key) es.toList).run P w = .ok (some (j, ev v)) w ∧ es[j]? = some e0 ∧ e0.key = ek key ∧ e0.val = ev v ∧ kv[j]? = some (key, v) ∧ getKV kv key = some v := by
  rcases L.find w hkey es.toList hk with ⟨h1, h2⟩ | ⟨j, e0, h1, h2, h3⟩
  · exact .inl ⟨h1, MapIs.zip_not he h2⟩
  · obtain ⟨p, hp, e1, e2⟩ := MapIs.zip_at he h2
    have : p.1 = key := hinj _ _ (e1.symm.trans h3)
    obtain ⟨p1, p2⟩ := p
    cases this
    exact .inr ⟨j, e0, p2, by rw [← e2]; exact h1, by simpa using h2, h3, e2, hp, getKV_at hn hp⟩

theorem MapIs.lookup {t e : TypeId} (h : MapIs P k ek ev w r kv) (L : Keyed P k) (hinj : ∀ a b, ek a = ek b → a = b) (ht : P.underlying t = some (.map k e)) {z : Value} (hz : ∀ u : World, (zeroValue e).run P u = .ok z u) {key : K} {kl : Lit} (hkey : keyOf P k (ek key) = some kl) :
    (Instr.lookup t (.map (some r)) (ek key) false).run P w = .ok (match getKV kv key with | some v => ev v | none => z) w := by
  obtain ⟨hn, es, clock, hb, _, _, hk, he⟩ := h
  rcases MapIs.find L hinj hn hk he hkey w with ⟨h1, h2⟩ | ⟨j, e0, v, h1, _, _, _, _, h6⟩
  · rw [getKV_not h2]
    simp [Instr.lookup, run_underlying ht, MapKept.run_getObj_map hb, L.check w _ hkey, h1, hz, Result.andThen]
  · rw [h6]
    simp [Instr.lookup, run_underlying ht, MapKept.run_getObj_map hb, L.check w _ hkey, h1, Result.andThen]

theorem MapIs.stored {w : World} {es : Array MapEntry} {clock : Nat} (hb : w.heap[r]? = some (.map es clock)) (es' : Array MapEntry) (clock' : Nat) : w.grownBy (setBlock w r (.map es' clock')) (some r) :=
  ⟨rfl, rfl, rfl, by simp [setBlock], fun i _ hi => heap_setBlock_other hb _ (fun e => hi (by rw [e]))⟩

theorem MapIs.isSet {w : World} {es : Array MapEntry} {clock : Nat} (hn : (kv.map Prod.fst).Nodup) (hb : w.heap[r]? = some (.map es clock)) (hl : ∀ x ∈ es.toList, x.born < clock) (hd : (es.toList.map (·.born)).Nodup) (hk : ∀ x ∈ es.toList, ∃ l, keyOf P k x.key = some l) (he : es.toList.map (fun x => (x.key, x.val)) = kv.map (fun p => (ek p.1, ev p.2)))
    {key : K} {kl : Lit} (hkey : keyOf P k (ek key) = some kl) {j : Nat} {e0 : MapEntry} {v0 : V} (v : V) (h2 : es[j]? = some e0) (h4 : kv[j]? = some (key, v0)) :
    MapIs P k ek ev (setBlock w r (.map (es.modify j fun e' => { e' with key := ek key, val := ev v }) clock)) r (putKV kv key v) := by
  have h2' : es.toList[j]? = some e0 := by simpa using h2
  have hset : (es.modify j fun e' => { e' with key := ek key, val := ev v }).toList = es.toList.set j { e0 with key := ek key, val := ev v } := by
    rw [Array.toList_modify, modify_eq_set _ _ _ _ h2']
  have hmem : ∀ x ∈ es.toList.set j { e0 with key := ek key, val := ev v }, x ∈ es.toList ∨ x = { e0 with key := ek key, val := ev v } := fun x hx => by
    rcases List.mem_or_eq_of_mem_set hx with h | h
    · exact .inl h
    · exact .inr h
  refine ⟨nodup_putKV hn _ _, _, clock, heap_setBlock_same hb _, ?_, ?_, ?_, ?_⟩
  · rw [hset]
    intro x hx
    rcases hmem x hx with h | rfl
    · exact hl x h
    · exact hl e0 (List.mem_of_getElem? h2')
  · rw [hset, List.map_set]
    have : (es.toList.map (·.born)).set j e0.born = es.toList.map (·.born) := WideElems.set_self _ _ _ (by simp [h2'])
    simpa [this] using hd
  · rw [hset]
    intro x hx
    rcases hmem x hx with h | rfl
    · exact hk x h
    · exact ⟨kl, hkey⟩
  · rw [hset, List.map_set, he, putKV_at (p := (key, v0)) v hn h4, List.map_set]

theorem MapIs.isPush {w : World} {es : Array MapEntry} {clock : Nat} (hn : (kv.map Prod.fst).Nodup) (hb : w.heap[r]? = some (.map es clock)) (hl : ∀ x ∈ es.toList, x.born < clock) (hd : (es.toList.map (·.born)).Nodup) (hk : ∀ x ∈ es.toList, ∃ l, keyOf P k x.key = some l) (he : es.toList.map (fun x => (x.key, x.val)) = kv.map (fun p => (ek p.1, ev p.2)))
    {key : K} {kl : Lit} (hkey : keyOf P k (ek key) = some kl) (v : V) (h2 : key ∉ kv.map Prod.fst) :
    MapIs P k ek ev (setBlock w r (.map (es.push ⟨ek key, ev v, clock⟩) (clock + 1))) r (putKV kv key v) := by
  refine ⟨nodup_putKV hn _ _, _, clock + 1, heap_setBlock_same hb _, ?_, ?_, ?_, ?_⟩
  · intro x hx
    simp only [Array.toList_push, List.mem_append, List.mem_singleton] at hx
    rcases hx with hx | rfl
    · have := hl x hx; omega
    · simp
  · simp only [Array.toList_push, List.map_append, List.map_cons, List.map_nil]
    refine List.nodup_append.2 ⟨hd, by simp, fun a ha c hc e1 => ?_⟩
    simp only [List.mem_singleton] at hc
    obtain ⟨x, hx, rfl⟩ := List.mem_map.1 ha
    have := hl x hx
    omega
  · intro x hx
    simp only [Array.toList_push, List.mem_append, List.mem_singleton] at hx
    rcases hx with hx | rfl
    · exact hk x hx
    · exact ⟨kl, hkey⟩
  · simp only [Array.toList_push, List.map_append, List.map_cons, List.map_nil, he, putKV_not v h2]

/-- 'm[k] = v'. -/
theorem MapIs.update {t e : TypeId} (h : MapIs P k ek ev w r kv) (L : Keyed P k) (hinj : ∀ a b, ek a = ek b → a = b) (ht : P.underlying t = some (.map k e)) {key : K} {kl : Lit} (hkey : keyOf P k (ek key) = some kl) (v : V) :
    ∃ w', (Instr.mapUpdate t (.map (some r)) (ek key) (ev v)).run P w = .ok () w' ∧ MapIs P k ek ev w' r (putKV kv key v) ∧ w.grownBy w' (some r) := by
  obtain ⟨hn, es, clock, hb, hl, hd, hk, he⟩ := h
  rcases MapIs.find L hinj hn hk he hkey w with ⟨h1, h2⟩ | ⟨j, e0, v0, h1, h2, h3, h4, h5, _⟩
  · refine ⟨_, ?_, MapIs.isPush hn hb hl hd hk he hkey v h2, MapIs.stored hb _ _⟩
    simp [Instr.mapUpdate, run_underlying ht, MapKept.run_getObj_map hb, L.check w false hkey, h1, MapKept.run_setObj_map _ hb, Result.andThen, setBlock]
  · refine ⟨_, ?_, MapIs.isSet hn hb hl hd hk he hkey v h2 h5, MapIs.stored hb _ _⟩
    simp [Instr.mapUpdate, run_underlying ht, MapKept.run_getObj_map hb, L.check w false hkey, h1, h2, h3, L.stays w hkey, MapKept.run_setObj_map _ hb, Result.andThen, setBlock]

/-- 'm[k] op= v': the entry, and the store into it. -/
theorem MapIs.entry {t e : TypeId} (h : MapIs P k ek ev w r kv) (L : Keyed P k) (hinj : ∀ a b, ek a = ek b → a = b) (ht : P.underlying t = some (.map k e)) {z : V} (hz : ∀ u : World, (zeroValue e).run P u = .ok (ev z) u) {key : K} {kl : Lit} (hkey : keyOf P k (ek key) = some kl) :
    ∃ st w1, (Instr.mapEntry t (.map (some r)) (ek key)).run P w = .ok (.tuple #[ev ((getKV kv key).getD z), .int .i64 ((st : Nat) : Int)]) w1 ∧ MapIs P k ek ev w1 r (putKV kv key ((getKV kv key).getD z)) ∧ w.grownBy w1 (some r) ∧ w1.heap.size = w.heap.size ∧
      ∀ (w2 : World) (v : V), w2.heap[r]? = w1.heap[r]? → ∃ w3, (Instr.entryStore t (.map (some r)) (.int .i64 ((st : Nat) : Int)) (ev v)).run P w2 = .ok () w3 ∧ MapIs P k ek ev w3 r (putKV kv key v) ∧ w2.grownBy w3 (some r) ∧ w3.heap.size = w2.heap.size := by
  obtain ⟨hn, es, clock, hb, hl, hd, hk, he⟩ := h
  rcases MapIs.find L hinj hn hk he hkey w with ⟨h1, h2⟩ | ⟨j, e0, v0, h1, h2, h3, h4, h5, h6⟩
  · refine ⟨clock, setBlock w r (.map (es.push ⟨ek key, ev z, clock⟩) (clock + 1)), ?_, by rw [getKV_not h2]; exact MapIs.isPush hn hb hl hd hk he hkey z h2, MapIs.stored hb _ _, by simp [setBlock], fun w2 v hw2 => ?_⟩
    · rw [getKV_not h2]
      simp [Instr.mapEntry, run_underlying ht, MapKept.run_getObj_map hb, L.check w false hkey, h1, hz, MapKept.run_setObj_map _ hb, Result.andThen, setBlock, goInt]
    · rw [heap_setBlock_same hb] at hw2
      have hidx : (es.push ⟨ek key, ev z, clock⟩).findIdx? (fun e => ((e.born : Nat) : Int) == ((clock : Nat) : Int)) = some es.size := by
        rw [WideElems.findIdx_arr]
        have := WideElems.findIdx_born (l := (es.push ⟨ek key, ev z, clock⟩).toList) (j := es.size) (e0 := ⟨ek key, ev z, clock⟩) (by
          simp only [Array.toList_push, List.map_append, List.map_cons, List.map_nil]
          refine List.nodup_append.2 ⟨hd, by simp, fun a ha c hc e1 => ?_⟩
          simp only [List.mem_singleton] at hc
          obtain ⟨x, hx, rfl⟩ := List.mem_map.1 ha
          have := hl x hx
          omega) (by simp)
        exact this
      have hmod : (es.push ⟨ek key, ev z, clock⟩).modify es.size (fun e => { e with val := ev v }) = es.push ⟨ek key, ev v, clock⟩ := by
        apply Array.ext'
        rw [Array.toList_modify, Array.toList_push, Array.toList_push, ← Array.length_toList, WideElems.modify_last]
      have hb' : (setBlock w2 r (.map es clock)).heap[r]? = some (.map es clock) := heap_setBlock_same hw2 _
      have hfin := MapIs.isPush (r := r) hn hb' hl hd hk he hkey v h2
      have e2 : setBlock (setBlock w2 r (.map es clock)) r (.map (es.push ⟨ek key, ev v, clock⟩) (clock + 1)) = setBlock w2 r (.map (es.push ⟨ek key, ev v, clock⟩) (clock + 1)) := by
        simp [setBlock]
      rw [e2] at hfin
      refine ⟨_, ?_, hfin, MapIs.stored hw2 _ _, by simp [setBlock]⟩
      simp [Instr.entryStore, MapKept.run_getObj_map hw2, asInt, asIntOf, hidx, hmod, MapKept.run_setObj_map _ hw2, Result.andThen, setBlock]
  · have h2' : es.toList[j]? = some e0 := by simpa using h2
    have hsame : es.modify j (fun e => { e with key := ek key }) = es := by
      apply Array.ext'
      rw [Array.toList_modify, modify_eq_set _ _ _ _ h2']
      have : ({ e0 with key := ek key } : MapEntry) = e0 := by rw [← h3]
      rw [this]
      exact WideElems.set_self _ _ _ h2'
    refine ⟨e0.born, setBlock w r (.map es clock), ?_, ?_, MapIs.stored hb _ _, by simp [setBlock], fun w2 v hw2 => ?_⟩
    · rw [h6]
      simp [Instr.mapEntry, run_underlying ht, MapKept.run_getObj_map hb, L.check w false hkey, h1, h2, h3, L.stays w hkey, hsame, MapKept.run_setObj_map _ hb, Result.andThen, setBlock, goInt]
    · rw [h6]
      show MapIs P k ek ev _ r (putKV kv key v0)
      rw [putKV_at (p := (key, v0)) v0 hn h5, WideElems.set_self _ _ _ h5]
      exact ⟨hn, es, clock, heap_setBlock_same hb _, hl, hd, hk, he⟩
    · rw [heap_setBlock_same hb] at hw2
      have hidx : es.findIdx? (fun e => ((e.born : Nat) : Int) == ((e0.born : Nat) : Int)) = some j := by
        rw [WideElems.findIdx_arr]
        exact WideElems.findIdx_born hd h2'
      have hmod : es.modify j (fun e => { e with val := ev v }) = es.modify j (fun e' => { e' with key := ek key, val := ev v }) := by
        apply Array.ext'
        rw [Array.toList_modify, Array.toList_modify, modify_eq_set _ _ _ _ h2', modify_eq_set _ _ _ _ h2', ← h3]
      refine ⟨_, ?_, MapIs.isSet hn hw2 hl hd hk he hkey v h2 h5, MapIs.stored hw2 _ _, by simp [setBlock]⟩
      simp [Instr.entryStore, MapKept.run_getObj_map hw2, asInt, asIntOf, hidx, hmod, MapKept.run_setObj_map _ hw2, Result.andThen, setBlock]

end

section
variable {K V : Type}

/-- Block it goes round the map r; the keys done have come. -/
def RangeIs (P : Program) (k : TypeId) (ek : K → Value) (ev : V → Value) (w : World) (r it : Nat) (kv : List (K × V)) (done : List K) : Prop :=
  (kv.map Prod.fst).Nodup ∧ it ≠ r ∧ done.Nodup ∧ (∀ d ∈ done, d ∈ kv.map Prod.fst) ∧ ∃ es clock seen, w.heap[r]? = some (.map es clock) ∧ (∀ x ∈ es.toList, x.born < clock) ∧ (es.toList.map (·.born)).Nodup ∧ (∀ x ∈ es.toList, ∃ l, keyOf P k x.key = some l) ∧ es.toList.map (fun x => (x.key, x.val)) = kv.map (fun p => (ek p.1, ev p.2)) ∧
    w.heap[it]? = some (.mapIter (some r) clock seen clock) ∧ (∀ x ∈ es.toList, x.born ∈ seen.toList ↔ x.key ∈ done.map ek)

variable {P : Program} {k : TypeId} {ek : K → Value} {ev : V → Value} {w : World} {r it : Nat} {kv : List (K × V)} {done : List K}

theorem RangeIs.map (h : RangeIs P k ek ev w r it kv done) : MapIs P k ek ev w r kv := by
  obtain ⟨h1, _, _, _, es, clock, seen, a, b, c, d, e, _⟩ := h
  exact ⟨h1, es, clock, a, b, c, d, e⟩
theorem RangeIs.lt (h : RangeIs P k ek ev w r it kv done) : it < w.heap.size := by
  obtain ⟨_, _, _, _, es, clock, seen, _, _, _, _, _, hb, _⟩ := h
  exact (Array.getElem?_eq_some_iff.1 hb).1
theorem RangeIs.ne (h : RangeIs P k ek ev w r it kv done) : it ≠ r := h.2.1
theorem RangeIs.same {w' : World} (h : RangeIs P k ek ev w r it kv done) (e1 : w'.heap[r]? = w.heap[r]?) (e2 : w'.heap[it]? = w.heap[it]?) : RangeIs P k ek ev w' r it kv done := by
  obtain ⟨h1, h2, h3, h4, es, clock, seen, a, b, c, d, e, f, g⟩ := h
  exact ⟨h1, h2, h3, h4, es, clock, seen, e1.trans a, b, c, d, e, e2.trans f, g⟩
theorem RangeIs.grown {w' : World} {row : Option Nat} (h : RangeIs P k ek ev w r it kv done) (hg : w.grownBy w' row) (hr : some r ≠ row) (hi : some it ≠ row) : RangeIs P k ek ev w' r it kv done :=
  h.same (hg.block r h.map.lt hr) (hg.block it h.lt hi)
theorem RangeIs.alloc (h : RangeIs P k ek ev w r it kv done) (o : Obj) : RangeIs P k ek ev (w.alloc o) r it kv done := h.grown (World.grownBy_alloc w o none) (by simp) (by simp)
theorem RangeIs.count (h : RangeIs P k ek ev w r it kv done) : done.length ≤ kv.length := by
  have := List.Nodup.length_le_of_subset h.2.2.1 (fun d hd => h.2.2.2.1 d hd)
  simpa using this

theorem MapIs.range {t e : TypeId} (h : MapIs P k ek ev w r kv) (ht : P.underlying t = some (.map k e)) :
    ∃ w', (Instr.range t (.map (some r))).run P w = .ok (.pointer (some ⟨w.heap.size, 0, none⟩)) w' ∧ RangeIs P k ek ev w' r w.heap.size kv [] ∧ w.grownBy w' none ∧ w'.heap.size = w.heap.size + 1 := by
  have hlt := h.lt
  obtain ⟨hn, es, clock, hb, hl, hd, hk, he⟩ := h
  refine ⟨w.alloc (.mapIter (some r) clock #[] clock), ?_, ⟨hn, by omega, by simp, by simp, es, clock, #[], (Below.heap_alloc w _ r hlt).trans hb, hl, hd, hk, he, (MapKept.heap_alloc w _).1, by simp⟩, World.grownBy_alloc w _ none, by simp⟩
  simp [Instr.range, run_underlying ht, MapKept.run_getObj_map hb, Result.andThen, newObj, Sem.run]

theorem RangeIs.next (h : RangeIs P k ek ev w r it kv done) (hinj : ∀ a b, ek a = ek b → a = b) (ty : TypeId) :
    (done.Perm (kv.map Prod.fst) ∧ (Instr.next (.pointer (some ⟨it, 0, none⟩)) false ty).run P w = .ok (.tuple #[.bool false]) w) ∨
    ∃ key v w', done.length < kv.length ∧ (key, v) ∈ kv ∧ (Instr.next (.pointer (some ⟨it, 0, none⟩)) false ty).run P w = .ok (.tuple #[.bool true, ek key, ev v]) w' ∧ RangeIs P k ek ev w' r it kv (done ++ [key]) ∧ w.grownBy w' (some it) ∧ w'.heap.size = w.heap.size ∧
      (Instr.entry (.pointer (some ⟨it, 0, none⟩))).run P w' = .ok (.tuple #[ek key, ev v]) w' := by
  have hall := h
  obtain ⟨hn, hne, hdn, hds, es, clock, seen, hb, hl, hd, hk, he, hi, hs⟩ := h
  have hleft : ∀ x, x ∈ (leftOf es seen).toList ↔ x ∈ es.toList ∧ x.born ∉ seen.toList := fun x => by simp [leftOf]
  rcases run_next_at (P := P) w ty it r clock clock seen es clock hi hb hl (Nat.le_refl _) with ⟨h0, hrun⟩ | ⟨e, hm, w1, hw1, hrun⟩
  · refine .inl ⟨(List.perm_ext_iff_of_nodup hdn hn).2 fun a => ⟨hds a, fun ha => ?_⟩, hrun⟩
    obtain ⟨p, hp, rfl⟩ := List.mem_map.1 ha
    have : (ek p.1, ev p.2) ∈ es.toList.map (fun x => (x.key, x.val)) := by rw [he]; exact List.mem_map.2 ⟨p, hp, rfl⟩
    obtain ⟨x, hx, hxe⟩ := List.mem_map.1 this
    simp only [Prod.mk.injEq] at hxe
    have hnil : (leftOf es seen).toList = [] := by
      apply List.eq_nil_of_length_eq_zero
      simpa using h0
    have hsx : x.born ∈ seen.toList := Classical.byContradiction fun hc => by
      have := (hleft x).2 ⟨hx, hc⟩
      rw [hnil] at this
      cases this
    have hkx := (hs x hx).1 hsx
    rw [hxe.1] at hkx
    obtain ⟨d, hd1, hd2⟩ := List.mem_map.1 hkx
    rw [← hinj _ _ hd2]
    exact hd1
  · obtain ⟨hme, hms⟩ := (hleft e).1 hm
    obtain ⟨j, hj⟩ := List.mem_iff_getElem?.1 hme
    obtain ⟨p, hp, ek1, ev1⟩ := MapIs.zip_at he hj
    have hnd : p.1 ∉ done := fun hc => hms ((hs e hme).2 (by rw [ek1]; exact List.mem_map.2 ⟨p.1, hc, rfl⟩))
    have hpm : p ∈ kv := List.mem_of_getElem? hp
    have hb1 : w1.heap[r]? = some (.map es clock) := by rcases hw1 with rfl | rfl <;> exact hb
    have hi1 : w1.heap[it]? = some (.mapIter (some r) clock seen clock) := by rcases hw1 with rfl | rfl <;> exact hi
    have hilt : it < w1.heap.size := (Array.getElem?_eq_some_iff.1 hi1).1
    have hdn' : (done ++ [p.1]).Nodup := List.nodup_append.2 ⟨hdn, by simp, fun a ha b hb e => by simp at hb; subst hb; subst e; exact hnd ha⟩
    have hds' : ∀ d ∈ done ++ [p.1], d ∈ kv.map Prod.fst := fun d hd => by
      rcases List.mem_append.1 hd with h | h
      · exact hds d h
      · simp at h; subst h; exact List.mem_map.2 ⟨p, hpm, rfl⟩
    have hbr : (setBlock w1 it (.mapIter (some r) clock (seen.push e.born) clock)).heap[r]? = some (.map es clock) := by
      show (w1.heap.setIfInBounds it _)[r]? = _
      rw [Array.getElem?_setIfInBounds_ne hne]
      exact hb1
    have hbi : (setBlock w1 it (.mapIter (some r) clock (seen.push e.born) clock)).heap[it]? = some (.mapIter (some r) clock (seen.push e.born) clock) := by
      show (w1.heap.setIfInBounds it _)[it]? = _
      rw [Array.getElem?_setIfInBounds_self_of_lt hilt]
    have hsz : (setBlock w1 it (.mapIter (some r) clock (seen.push e.born) clock)).heap.size = w.heap.size := by
      have : (setBlock w1 it (.mapIter (some r) clock (seen.push e.born) clock)).heap.size = w1.heap.size := by simp [setBlock]
      rw [this]
      rcases hw1 with rfl | rfl <;> rfl
    refine .inr ⟨p.1, p.2, _, ?_, hpm, by rw [← ek1, ← ev1]; exact hrun, ⟨hn, hne, hdn', hds', es, clock, seen.push e.born, hbr, hl, hd, hk, he, hbi, fun x hx => ?_⟩, ?_, ?_, ?_⟩
    · have := List.Nodup.length_le_of_subset hdn' (fun d hd => hds' d hd)
      simp at this
      omega
    · simp only [Array.toList_push, List.mem_append, List.mem_singleton, List.map_append, List.map_cons, List.map_nil, hs x hx]
      constructor
      · rintro (h | h)
        · exact .inl h
        · obtain ⟨i, hi'⟩ := List.mem_iff_getElem?.1 hx
          have hji : j = i := (List.getElem?_inj (l := es.toList.map (·.born)) (by simpa using (List.getElem?_eq_some_iff.1 hj).1) hd).1 (by simp [hj, hi', h])
          subst hji
          rw [hj] at hi'
          cases hi'
          exact .inr ek1
      · rintro (h | h)
        · exact .inl h
        · obtain ⟨i, hi'⟩ := List.mem_iff_getElem?.1 hx
          obtain ⟨q, hq, eq1, _⟩ := MapIs.zip_at he hi'
          have : q.1 = p.1 := hinj _ _ (eq1.symm.trans h)
          have hji : j = i := (List.getElem?_inj (l := kv.map Prod.fst) (by simpa using (List.getElem?_eq_some_iff.1 hp).1) hn).1 (by simp [hp, hq, this])
          subst hji
          rw [hj] at hi'
          cases hi'
          exact .inr rfl
    · refine ⟨?_, ?_, ?_, ?_, fun i _ hi' => ?_⟩
      · rcases hw1 with rfl | rfl <;> rfl
      · rcases hw1 with rfl | rfl <;> rfl
      · rcases hw1 with rfl | rfl <;> rfl
      · exact Nat.le_of_eq hsz.symm
      · show (w1.heap.setIfInBounds it _)[i]? = _
        rw [Array.getElem?_setIfInBounds_ne (fun e => hi' (by rw [e]))]
        rcases hw1 with rfl | rfl <;> rfl
    · exact hsz
    · rw [← ek1, ← ev1]
      exact run_entry_at _ it r clock seen es clock e hbi hbr hme hd

end

theorem _root_.Go.World.grownBy_drew {w w' : World} {row : Option Nat} (h : w.grownBy w' row) : w.grownBy w'.drew row := ⟨h.os, h.tape, h.output, h.size, h.block⟩

/-! ### at the operations -/
section
variable {K V : Type} {P : Program} {ops : Array Oper} {rest : List Oper} {o : Oper} {a : Act} {Q : Exit → Act → World → Prop} {w : World}
theorem wpList_range_is (hg : o.guard = none) (m : Operand) (t : TypeId) (hop : o.op = Op.range t m) {k e : TypeId} (ht : P.underlying t = some (.map k e)) {ek : K → Value} {ev : V → Value} {r : Nat} {kv : List (K × V)}
    (hm : a.eval m = .map (some r)) (h : MapIs P k ek ev w r kv)
    (hK : ∀ w', RangeIs P k ek ev w' r w.heap.size kv [] → w.grownBy w' none → w'.heap.size = w.heap.size + 1 → wpList P ops Q rest (a.put o.dst (.pointer (some ⟨w.heap.size, 0, none⟩))) w') :
    wpList P ops Q (o :: rest) a w := by
  refine wpList_plain hg fun K' hK' => ?_
  obtain ⟨w', hrun, r1, r2, r3⟩ := h.range ht
  unfold Oper.wp
  simp [execOp, hop, hm, hrun, Result.andThen]
  exact hK' _ _ (hK w' r1 r2 r3)
theorem wpList_next_is (hg : o.guard = none) (i : Operand) (hop : o.op = Op.next i false) {k : TypeId} {ek : K → Value} {ev : V → Value} {r it : Nat} {kv : List (K × V)} {done : List K} (hinj : ∀ a b, ek a = ek b → a = b)
    (hit : a.eval i = .pointer (some ⟨it, 0, none⟩)) (h : RangeIs P k ek ev w r it kv done)
    (hDone : done.Perm (kv.map Prod.fst) → wpList P ops Q rest (a.put o.dst (.tuple #[.bool false])) w)
    (hMore : ∀ (key : K) (v : V) (w' : World), done.length < kv.length → (key, v) ∈ kv → RangeIs P k ek ev w' r it kv (done ++ [key]) → w.grownBy w' (some it) → w'.heap.size = w.heap.size → (Instr.entry (.pointer (some ⟨it, 0, none⟩))).run P w' = .ok (.tuple #[ek key, ev v]) w' →
      wpList P ops Q rest (a.put o.dst (.tuple #[.bool true, ek key, ev v])) w') :
    wpList P ops Q (o :: rest) a w := by
  refine wpList_plain hg fun K' hK' => ?_
  unfold Oper.wp
  rcases h.next hinj o.type with ⟨hp, hrun⟩ | ⟨key, v, w', h1, h2, hrun, h3, h4, h5, h6⟩
  · simp [execOp, hop, hit, hrun, Result.andThen]
    exact hK' _ _ (hDone hp)
  · simp [execOp, hop, hit, hrun, Result.andThen]
    exact hK' _ _ (hMore key v w' h1 h2 h3 h4 h5 h6)
theorem MapIs.len {ek : K → Value} {ev : V → Value} {k e t : TypeId} {r : Nat} {kv : List (K × V)} (h : MapIs P k ek ev w r kv) (ht : P.underlying t = some (.map k e)) (ty : TypeId) : (Builtin.len_ #[t] ty #[.map (some r)]).run P w = .ok (.int .i64 (kv.length : Int)) w := by
  obtain ⟨_, es, clock, hb, _, _, _, he⟩ := h
  have e1 : es.size = kv.length := by
    have := congrArg List.length he
    simpa using this
  rw [← e1]
  simp [Builtin.len_, run_underlying ht, MapKept.run_getObj_map hb, goInt, Result.andThen]
theorem wpList_len_is (hg : o.guard = none) (m : Operand) (t : TypeId) (hop : o.op = Op.call { callee := Callee.builtin Builtin.len, args := #[m], argTypes := #[t] }) {k e : TypeId} (ht : P.underlying t = some (.map k e)) {ek : K → Value} {ev : V → Value} {r : Nat} {kv : List (K × V)}
    (hm : a.eval m = .map (some r)) (h : MapIs P k ek ev w r kv) (hK : wpList P ops Q rest (a.put o.dst (.int .i64 (kv.length : Int))) w) : wpList P ops Q (o :: rest) a w := by
  refine wpList_plain hg fun K' hK' => ?_
  unfold Oper.wp
  simp [execOp, hop, resolve, invoke, builtin, hm, h.len ht o.type, Result.andThen]
  exact hK' _ _ hK
theorem wpList_mapUpdate_is [DecidableEq K] (hg : o.guard = none) (m x v : Operand) (t : TypeId) (hop : o.op = Op.mapUpdate t m x v) {k e : TypeId} (L : Go.Maps.Keyed P k) (ht : P.underlying t = some (.map k e)) {ek : K → Value} {ev : V → Value} {r : Nat} {kv : List (K × V)} (hinj : ∀ a b, ek a = ek b → a = b)
    (hm : a.eval m = .map (some r)) (h : MapIs P k ek ev w r kv) (key : K) (val : V) {kl : Lit} (hx : a.eval x = ek key) (hv : a.eval v = ev val) (hkey : keyOf P k (ek key) = some kl)
    (hK : ∀ w', MapIs P k ek ev w' r (putKV kv key val) → w.grownBy w' (some r) → wpList P ops Q rest (a.put o.dst undef) w') :
    wpList P ops Q (o :: rest) a w := by
  refine wpList_plain hg fun K' hK' => ?_
  obtain ⟨w', hrun, r1, r2⟩ := h.update L hinj ht hkey val
  unfold Oper.wp
  simp [execOp, hop, hm, hx, hv, hrun, Result.andThen]
  exact hK' _ _ (hK w' r1 r2)
end
end Go.Proofs.Bg
