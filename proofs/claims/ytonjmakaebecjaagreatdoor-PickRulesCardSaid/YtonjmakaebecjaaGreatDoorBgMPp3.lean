/- Texts of our own, merged: BgMap PkMap PkJoinP PkJoinQ PkFormJ PkPartsP PkRefRl PkRefLl PkTreeP PkInv PkInvF PkInvP PkCaught PkJoined PkJoin PkArr PkJoins PkSizes. -/
import Derived.Maps.RangeWalk
import Derived.Maps.OwnSet
import Derived.OwnWalk
import Derived.WideKeyEntry
import Derived.DeepKeys4
import Derived.Test.YtonjmakaebecjaaGreatDoorBgMPp1
import Derived.Deep.AppendLies
import Derived.Test.YtonjmakaebecjaaGreatDoorBgMPp2
import Derived.RegionTactic
import Derived.Tactics2
import Derived.Defers
import Derived.Recover
import Derived.Laws.Pointers
import Derived.Deep.RegionWith
import Derived.Deep.DeepCutAuto
import Derived.Deep.RegionHeld3
import Derived.Laws.Tables

section
/- Plain words: a map that a walk reads and writes, as the list of its entries in the order in which they came in. No program in sight. -/
namespace Go.Proofs.Bg
open Go.RowKit
open Go.ChangeMaps (setBlock heap_setBlock_same heap_setBlock_other)
open Go.Maps (Keyed)
open Go.ChangeMaps (modify_eq_set)

section kv
variable {K V : Type} [DecidableEq K]
def getKV : List (K × V) → K → Option V
  | [], _ => none
  | p :: r, k => if p.1 = k then some p.2 else getKV r k
def putKV : List (K × V) → K → V → List (K × V)
  | [], k, v => [(k, v)]
  | p :: r, k, v => if p.1 = k then (k, v) :: r else p :: putKV r k v

theorem getKV_not : ∀ {kv : List (K × V)} {k : K}, k ∉ kv.map Prod.fst → getKV kv k = none
  | [], _, _ => rfl
  | p :: r, k, h => by
    simp only [List.map_cons, List.mem_cons, not_or] at h
    rw [getKV, if_neg (fun e => h.1 e.symm), getKV_not h.2]
theorem putKV_not : ∀ {kv : List (K × V)} {k : K} (v : V), k ∉ kv.map Prod.fst → putKV kv k v = kv ++ [(k, v)]
  | [], _, _, _ => rfl
  | p :: r, k, v, h => by
    simp only [List.map_cons, List.mem_cons, not_or] at h
    rw [putKV, if_neg (fun e => h.1 e.symm), putKV_not v h.2, List.cons_append]
theorem getKV_at : ∀ {kv : List (K × V)} {j : Nat} {p : K × V}, (kv.map Prod.fst).Nodup → kv[j]? = some p → getKV kv p.1 = some p.2
  | [], j, p, _, h => by simp at h
  | q :: r, 0, p, _, h => by
    simp only [List.getElem?_cons_zero, Option.some.injEq] at h
    subst h
    simp [getKV]
  | q :: r, j + 1, p, hn, h => by
    simp only [List.getElem?_cons_succ] at h
    simp only [List.map_cons, List.nodup_cons] at hn
    have hm : p.1 ∈ r.map Prod.fst := List.mem_map.2 ⟨p, List.mem_of_getElem? h, rfl⟩
    rw [getKV, if_neg (fun e => hn.1 (by rw [e]; exact hm)), getKV_at hn.2 h]
theorem putKV_at : ∀ {kv : List (K × V)} {j : Nat} {p : K × V} (v : V), (kv.map Prod.fst).Nodup → kv[j]? = some p → putKV kv p.1 v = kv.set j (p.1, v)
  | [], j, p, _, _, h => by simp at h
  | q :: r, 0, p, v, _, h => by
    simp only [List.getElem?_cons_zero, Option.some.injEq] at h
    subst h
    simp [putKV]
  | q :: r, j + 1, p, v, hn, h => by
    simp only [List.getElem?_cons_succ] at h
    simp only [List.map_cons, List.nodup_cons] at hn
    have hm : p.1 ∈ r.map Prod.fst := List.mem_map.2 ⟨p, List.mem_of_getElem? h, rfl⟩
    rw [putKV, if_neg (fun e => hn.1 (by rw [e]; exact hm)), putKV_at v hn.2 h, List.set_cons_succ]
theorem keys_putKV (kv : List (K × V)) (k : K) (v : V) : (putKV kv k v).map Prod.fst = if k ∈ kv.map Prod.fst then kv.map Prod.fst else kv.map Prod.fst ++ [k] := by
  induction kv with
  | nil => simp [putKV]
  | cons p r ih =>
    by_cases h : p.1 = k
    · simp [putKV, h]
    · have h' : ¬ k = p.1 := fun e => h e.symm
      by_cases hm : k ∈ r.map Prod.fst
      · rw [putKV, if_neg h, List.map_cons, ih, if_pos hm, if_pos (by simp only [List.map_cons, List.mem_cons]; exact .inr hm), List.map_cons]
      · rw [putKV, if_neg h, List.map_cons, ih, if_neg hm, if_neg (by simp only [List.map_cons, List.mem_cons, not_or]; exact ⟨h', hm⟩), List.map_cons, List.cons_append]
theorem nodup_putKV {kv : List (K × V)} (h : (kv.map Prod.fst).Nodup) (k : K) (v : V) : ((putKV kv k v).map Prod.fst).Nodup := by
  rw [keys_putKV]
  split
  · exact h
  · rename_i hk
    exact List.nodup_append.2 ⟨h, by simp, fun a ha b hb e => by simp at hb; subst hb; subst e; exact hk ha⟩
theorem getKV_put (kv : List (K × V)) (k k' : K) (v : V) : getKV (putKV kv k v) k' = if k = k' then some v else getKV kv k' := by
  induction kv with
  | nil => simp [putKV, getKV]
  | cons p r ih =>
    by_cases h : p.1 = k
    · subst h
      by_cases h2 : p.1 = k' <;> simp [putKV, getKV, h2]
    · rw [putKV, if_neg h, getKV, ih, getKV]
      by_cases h2 : p.1 = k'
      · rw [if_pos h2, if_pos h2, if_neg (fun e => h (h2.trans e.symm))]
      · rw [if_neg h2, if_neg h2]
theorem mem_of_getKV : ∀ {kv : List (K × V)} {k : K} {v : V}, getKV kv k = some v → (k, v) ∈ kv
  | [], _, _, h => by simp [getKV] at h
  | p :: r, k, v, h => by
    rw [getKV] at h
    split at h
    · rename_i e
      cases h
      rw [← e]
      exact List.mem_cons_self
    · exact List.mem_cons_of_mem _ (mem_of_getKV h)
theorem getKV_of_mem {kv : List (K × V)} (hn : (kv.map Prod.fst).Nodup) {k : K} {v : V} (h : (k, v) ∈ kv) : getKV kv k = some v := by
  obtain ⟨j, hj⟩ := List.mem_iff_getElem?.1 h
  exact getKV_at (p := (k, v)) hn hj
theorem length_putKV (kv : List (K × V)) (k : K) (v : V) : (putKV kv k v).length ≤ kv.length + 1 := by
  induction kv with
  | nil => simp [putKV]
  | cons p r ih => rw [putKV]; split <;> simp; omega
end kv

section
variable {K V : Type}

/-- Block r of w is a map with these entries, in this order. -/
def MapIs (P : Program) (k : TypeId) (ek : K → Value) (ev : V → Value) (w : World) (r : Nat) (kv : List (K × V)) : Prop :=
  (kv.map Prod.fst).Nodup ∧ ∃ es clock, w.heap[r]? = some (.map es clock) ∧ (∀ x ∈ es.toList, x.born < clock) ∧ (es.toList.map (·.born)).Nodup ∧ (∀ x ∈ es.toList, ∃ l, keyOf P k x.key = some l) ∧ es.toList.map (fun x => (x.key, x.val)) = kv.map (fun p => (ek p.1, ev p.2))

variable {P : Program} {k : TypeId} {ek : K → Value} {ev : V → Value} {w : World} {r : Nat} {kv : List (K × V)}

theorem MapIs.made (w : World) (P : Program) (k : TypeId) (ek : K → Value) (ev : V → Value) : MapIs P k ek ev (w.alloc (.map #[] 0)) w.heap.size ([] : List (K × V)) :=
  ⟨by simp, #[], 0, (MapKept.heap_alloc w _).1, by simp, by simp, by simp, by simp⟩
theorem MapIs.lt (h : MapIs P k ek ev w r kv) : r < w.heap.size := by
  obtain ⟨_, es, clock, hb, _⟩ := h
  exact (Array.getElem?_eq_some_iff.1 hb).1
theorem MapIs.same {w' : World} (h : MapIs P k ek ev w r kv) (e : w'.heap[r]? = w.heap[r]?) : MapIs P k ek ev w' r kv := by
  obtain ⟨hn, es, clock, hb, h1⟩ := h
  exact ⟨hn, es, clock, e.trans hb, h1⟩
theorem MapIs.below {w' : World} (h : MapIs P k ek ev w r kv) (hb : Below w.heap.size w w') : MapIs P k ek ev w' r kv := h.same (hb.block r h.lt)
theorem MapIs.grown {w' : World} {row : Option Nat} (h : MapIs P k ek ev w r kv) (hg : w.grownBy w' row) (hne : some r ≠ row) : MapIs P k ek ev w' r kv := h.same (hg.block r h.lt hne)
theorem MapIs.alloc (h : MapIs P k ek ev w r kv) (o : Obj) : MapIs P k ek ev (w.alloc o) r kv := h.same (Below.heap_alloc w o r h.lt)
theorem MapIs.nodup (h : MapIs P k ek ev w r kv) : (kv.map Prod.fst).Nodup := h.1
theorem MapIs.drew (h : MapIs P k ek ev w r kv) : MapIs P k ek ev w.drew r kv := h

theorem MapIs.zip_at {es : List MapEntry} (he : es.map (fun x => (x.key, x.val)) = kv.map (fun p => (ek p.1, ev p.2))) {j : Nat} {e0 : MapEntry} (h : es[j]? = some e0) : ∃ p, kv[j]? = some p ∧ e0.key = ek p.1 ∧ e0.val = ev p.2 := by
  have h1 : (es.map (fun x => (x.key, x.val)))[j]? = some (e0.key, e0.val) := by simp [h]
  rw [he, List.getElem?_map] at h1
  cases hk : kv[j]? with
  | none => rw [hk] at h1; simp at h1
  | some p =>
    rw [hk] at h1
    simp only [Option.map_some, Option.some.injEq, Prod.mk.injEq] at h1
    exact ⟨p, rfl, h1.1.symm, h1.2.symm⟩
theorem MapIs.zip_not {es : List MapEntry} (he : es.map (fun x => (x.key, x.val)) = kv.map (fun p => (ek p.1, ev p.2))) {key : K} (h : ∀ e ∈ es, e.key ≠ ek key) : key ∉ kv.map Prod.fst := by
  intro hm
  obtain ⟨p, hp, rfl⟩ := List.mem_map.1 hm
  have : (ek p.1, ev p.2) ∈ es.map (fun x => (x.key, x.val)) := by rw [he]; exact List.mem_map.2 ⟨p, hp, rfl⟩
  obtain ⟨e, h1, h2⟩ := List.mem_map.1 this
  simp only [Prod.mk.injEq] at h2
  exact h e h1 h2.1

variable [DecidableEq K]
/-- What the search finds. -/
theorem MapIs.find (L : Keyed P k) (hinj : ∀ a b, ek a = ek b → a = b) (hn : (kv.map Prod.fst).Nodup) {es : Array MapEntry} (hk : ∀ x ∈ es.toList, ∃ l, keyOf P k x.key = some l) (he : es.toList.map (fun x => (x.key, x.val)) = kv.map (fun p => (ek p.1, ev p.2)))
    {key : K} {kl : Lit} (hkey : keyOf P k (ek key) = some kl) (w : World) :
    ((Instr.findKey k (ek key) es.toList).run P w = .ok none w ∧ key ∉ kv.map Prod.fst) ∨
    ∃ j e0 v, (Instr.findKey k (ek key) es.toList).run P w = .ok (some (j, ev v)) w ∧ es[j]? = some e0 ∧ e0.key = ek key ∧ e0.val = ev v ∧ kv[j]? = some (key, v) ∧ getKV kv key = some v := by
  rcases L.find w hkey es.toList hk with ⟨h1, h2⟩ | ⟨j, e0, h1, h2, h3⟩
  · exact .inl ⟨h1, MapIs.zip_not he h2⟩
  · obtain ⟨p, hp, e1, e2⟩ := MapIs.zip_at he h2
    have : p.1 = key := hinj _ _ (e1.symm.trans h3)
    obtain ⟨p1, p2⟩ := p
    cases this
    exact .inr ⟨j, e0, p2, by rw [← e2]; exact h1, by simpa using h2, h3, e2, hp, getKV_at hn hp⟩

theorem MapIs.lookup {t e : TypeId} (h : MapIs P k ek ev w r kv) (L : Keyed P k) (hinj : ∀ a b, ek a = ek b → a = b) (ht : P.underlying t = some (.map k e)) {z : Value} (hz : ∀ u : World, (zeroValue e).run P u = .ok z u) {key : K} {kl : Lit} (hkey : keyOf P k (ek key) = some kl) :
    (Instr.lookup t (.map (some r)) (ek key) false).run P w = .ok (match getKV kv key with | some v => ev v | none => z) w := by
  obtain ⟨hn, es, clock, hb, _, _, hk, he⟩ := h
  rcases MapIs.find L hinj hn hk he hkey w with ⟨h1, h2⟩ | ⟨j, e0, v, h1, _, _, _, _, h6⟩
  · rw [getKV_not h2]
    simp [Instr.lookup, run_underlying ht, MapKept.run_getObj_map hb, L.check w _ hkey, h1, hz, Result.andThen]
  · rw [h6]
    simp [Instr.lookup, run_underlying ht, MapKept.run_getObj_map hb, L.check w _ hkey, h1, Result.andThen]

theorem MapIs.stored {w : World} {es : Array MapEntry} {clock : Nat} (hb : w.heap[r]? = some (.map es clock)) (es' : Array MapEntry) (clock' : Nat) : w.grownBy (setBlock w r (.map es' clock')) (some r) :=
  ⟨rfl, rfl, rfl, by simp [setBlock], fun i _ hi => heap_setBlock_other hb _ (fun e => hi (by rw [e]))⟩

theorem MapIs.isSet {w : World} {es : Array MapEntry} {clock : Nat} (hn : (kv.map Prod.fst).Nodup) (hb : w.heap[r]? = some (.map es clock)) (hl : ∀ x ∈ es.toList, x.born < clock) (hd : (es.toList.map (·.born)).Nodup) (hk : ∀ x ∈ es.toList, ∃ l, keyOf P k x.key = some l) (he : es.toList.map (fun x => (x.key, x.val)) = kv.map (fun p => (ek p.1, ev p.2)))
    {key : K} {kl : Lit} (hkey : keyOf P k (ek key) = some kl) {j : Nat} {e0 : MapEntry} {v0 : V} (v : V) (h2 : es[j]? = some e0) (h4 : kv[j]? = some (key, v0)) :
    MapIs P k ek ev (setBlock w r (.map (es.modify j fun e' => { e' with key := ek key, val := ev v }) clock)) r (putKV kv key v) := by
  have h2' : es.toList[j]? = some e0 := by simpa using h2
  have hset : (es.modify j fun e' => { e' with key := ek key, val := ev v }).toList = es.toList.set j { e0 with key := ek key, val := ev v } := by
    rw [Array.toList_modify, modify_eq_set _ _ _ _ h2']
  have hmem : ∀ x ∈ es.toList.set j { e0 with key := ek key, val := ev v }, x ∈ es.toList ∨ x = { e0 with key := ek key, val := ev v } := fun x hx => by
    rcases List.mem_or_eq_of_mem_set hx with h | h
    · exact .inl h
    · exact .inr h
  refine ⟨nodup_putKV hn _ _, _, clock, heap_setBlock_same hb _, ?_, ?_, ?_, ?_⟩
  · rw [hset]
    intro x hx
    rcases hmem x hx with h | rfl
    · exact hl x h
    · exact hl e0 (List.mem_of_getElem? h2')
  · rw [hset, List.map_set]
    have : (es.toList.map (·.born)).set j e0.born = es.toList.map (·.born) := WideElems.set_self _ _ _ (by simp [h2'])
    simpa [this] using hd
  · rw [hset]
    intro x hx
    rcases hmem x hx with h | rfl
    · exact hk x h
    · exact ⟨kl, hkey⟩
  · rw [hset, List.map_set, he, putKV_at (p := (key, v0)) v hn h4, List.map_set]

theorem MapIs.isPush {w : World} {es : Array MapEntry} {clock : Nat} (hn : (kv.map Prod.fst).Nodup) (hb : w.heap[r]? = some (.map es clock)) (hl : ∀ x ∈ es.toList, x.born < clock) (hd : (es.toList.map (·.born)).Nodup) (hk : ∀ x ∈ es.toList, ∃ l, keyOf P k x.key = some l) (he : es.toList.map (fun x => (x.key, x.val)) = kv.map (fun p => (ek p.1, ev p.2)))
    {key : K} {kl : Lit} (hkey : keyOf P k (ek key) = some kl) (v : V) (h2 : key ∉ kv.map Prod.fst) :
    MapIs P k ek ev (setBlock w r (.map (es.push ⟨ek key, ev v, clock⟩) (clock + 1))) r (putKV kv key v) := by
  refine ⟨nodup_putKV hn _ _, _, clock + 1, heap_setBlock_same hb _, ?_, ?_, ?_, ?_⟩
  · intro x hx
    simp only [Array.toList_push, List.mem_append, List.mem_singleton] at hx
    rcases hx with hx | rfl
    · have := hl x hx; omega
    · simp
  · simp only [Array.toList_push, List.map_append, List.map_cons, List.map_nil]
    refine List.nodup_append.2 ⟨hd, by simp, fun a ha c hc e1 => ?_⟩
    simp only [List.mem_singleton] at hc
    obtain ⟨x, hx, rfl⟩ := List.mem_map.1 ha
    have := hl x hx
    omega
  · intro x hx
    simp only [Array.toList_push, List.mem_append, List.mem_singleton] at hx
    rcases hx with hx | rfl
    · exact hk x hx
    · exact ⟨kl, hkey⟩
  · simp only [Array.toList_push, List.map_append, List.map_cons, List.map_nil, he, putKV_not v h2]

/-- 'm[k] = v'. -/
theorem MapIs.update {t e : TypeId} (h : MapIs P k ek ev w r kv) (L : Keyed P k) (hinj : ∀ a b, ek a = ek b → a = b) (ht : P.underlying t = some (.map k e)) {key : K} {kl : Lit} (hkey : keyOf P k (ek key) = some kl) (v : V) :
    ∃ w', (Instr.mapUpdate t (.map (some r)) (ek key) (ev v)).run P w = .ok () w' ∧ MapIs P k ek ev w' r (putKV kv key v) ∧ w.grownBy w' (some r) := by
  obtain ⟨hn, es, clock, hb, hl, hd, hk, he⟩ := h
  rcases MapIs.find L hinj hn hk he hkey w with ⟨h1, h2⟩ | ⟨j, e0, v0, h1, h2, h3, h4, h5, _⟩
  · refine ⟨_, ?_, MapIs.isPush hn hb hl hd hk he hkey v h2, MapIs.stored hb _ _⟩
    simp [Instr.mapUpdate, run_underlying ht, MapKept.run_getObj_map hb, L.check w false hkey, h1, MapKept.run_setObj_map _ hb, Result.andThen, setBlock]
  · refine ⟨_, ?_, MapIs.isSet hn hb hl hd hk he hkey v h2 h5, MapIs.stored hb _ _⟩
    simp [Instr.mapUpdate, run_underlying ht, MapKept.run_getObj_map hb, L.check w false hkey, h1, h2, h3, L.stays w hkey, MapKept.run_setObj_map _ hb, Result.andThen, setBlock]

/-- 'm[k] op= v': the entry, and the store into it. -/
theorem MapIs.entry {t e : TypeId} (h : MapIs P k ek ev w r kv) (L : Keyed P k) (hinj : ∀ a b, ek a = ek b → a = b) (ht : P.underlying t = some (.map k e)) {z : V} (hz : ∀ u : World, (zeroValue e).run P u = .ok (ev z) u) {key : K} {kl : Lit} (hkey : keyOf P k (ek key) = some kl) :
    ∃ st w1, (Instr.mapEntry t (.map (some r)) (ek key)).run P w = .ok (.tuple #[ev ((getKV kv key).getD z), .int .i64 ((st : Nat) : Int)]) w1 ∧ MapIs P k ek ev w1 r (putKV kv key ((getKV kv key).getD z)) ∧ w.grownBy w1 (some r) ∧ w1.heap.size = w.heap.size ∧
      ∀ (w2 : World) (v : V), w2.heap[r]? = w1.heap[r]? → ∃ w3, (Instr.entryStore t (.map (some r)) (.int .i64 ((st : Nat) : Int)) (ev v)).run P w2 = .ok () w3 ∧ MapIs P k ek ev w3 r (putKV kv key v) ∧ w2.grownBy w3 (some r) ∧ w3.heap.size = w2.heap.size := by
  obtain ⟨hn, es, clock, hb, hl, hd, hk, he⟩ := h
  rcases MapIs.find L hinj hn hk he hkey w with ⟨h1, h2⟩ | ⟨j, e0, v0, h1, h2, h3, h4, h5, h6⟩
  · refine ⟨clock, setBlock w r (.map (es.push ⟨ek key, ev z, clock⟩) (clock + 1)), ?_, by rw [getKV_not h2]; exact MapIs.isPush hn hb hl hd hk he hkey z h2, MapIs.stored hb _ _, by simp [setBlock], fun w2 v hw2 => ?_⟩
    · rw [getKV_not h2]
      simp [Instr.mapEntry, run_underlying ht, MapKept.run_getObj_map hb, L.check w false hkey, h1, hz, MapKept.run_setObj_map _ hb, Result.andThen, setBlock, goInt]
    · rw [heap_setBlock_same hb] at hw2
      have hidx : (es.push ⟨ek key, ev z, clock⟩).findIdx? (fun e => ((e.born : Nat) : Int) == ((clock : Nat) : Int)) = some es.size := by
        rw [WideElems.findIdx_arr]
        have := WideElems.findIdx_born (l := (es.push ⟨ek key, ev z, clock⟩).toList) (j := es.size) (e0 := ⟨ek key, ev z, clock⟩) (by
          simp only [Array.toList_push, List.map_append, List.map_cons, List.map_nil]
          refine List.nodup_append.2 ⟨hd, by simp, fun a ha c hc e1 => ?_⟩
          simp only [List.mem_singleton] at hc
          obtain ⟨x, hx, rfl⟩ := List.mem_map.1 ha
          have := hl x hx
          omega) (by simp)
        exact this
      have hmod : (es.push ⟨ek key, ev z, clock⟩).modify es.size (fun e => { e with val := ev v }) = es.push ⟨ek key, ev v, clock⟩ := by
        apply Array.ext'
        rw [Array.toList_modify, Array.toList_push, Array.toList_push, ← Array.length_toList, WideElems.modify_last]
      have hb' : (setBlock w2 r (.map es clock)).heap[r]? = some (.map es clock) := heap_setBlock_same hw2 _
      have hfin := MapIs.isPush (r := r) hn hb' hl hd hk he hkey v h2
      have e2 : setBlock (setBlock w2 r (.map es clock)) r (.map (es.push ⟨ek key, ev v, clock⟩) (clock + 1)) = setBlock w2 r (.map (es.push ⟨ek key, ev v, clock⟩) (clock + 1)) := by
        simp [setBlock]
      rw [e2] at hfin
      refine ⟨_, ?_, hfin, MapIs.stored hw2 _ _, by simp [setBlock]⟩
      simp [Instr.entryStore, MapKept.run_getObj_map hw2, asInt, asIntOf, hidx, hmod, MapKept.run_setObj_map _ hw2, Result.andThen, setBlock]
  · have h2' : es.toList[j]? = some e0 := by simpa using h2
    have hsame : es.modify j (fun e => { e with key := ek key }) = es := by
      apply Array.ext'
      rw [Array.toList_modify, modify_eq_set _ _ _ _ h2']
      have : ({ e0 with key := ek key } : MapEntry) = e0 := by rw [← h3]
      rw [this]
      exact WideElems.set_self _ _ _ h2'
    refine ⟨e0.born, setBlock w r (.map es clock), ?_, ?_, MapIs.stored hb _ _, by simp [setBlock], fun w2 v hw2 => ?_⟩
    · rw [h6]
      simp [Instr.mapEntry, run_underlying ht, MapKept.run_getObj_map hb, L.check w false hkey, h1, h2, h3, L.stays w hkey, hsame, MapKept.run_setObj_map _ hb, Result.andThen, setBlock, goInt]
    · rw [h6]
      show MapIs P k ek ev _ r (putKV kv key v0)
      rw [putKV_at (p := (key, v0)) v0 hn h5, WideElems.set_self _ _ _ h5]
      exact ⟨hn, es, clock, heap_setBlock_same hb _, hl, hd, hk, he⟩
    · rw [heap_setBlock_same hb] at hw2
      have hidx : es.findIdx? (fun e => ((e.born : Nat) : Int) == ((e0.born : Nat) : Int)) = some j := by
        rw [WideElems.findIdx_arr]
        exact WideElems.findIdx_born hd h2'
      have hmod : es.modify j (fun e => { e with val := ev v }) = es.modify j (fun e' => { e' with key := ek key, val := ev v }) := by
        apply Array.ext'
        rw [Array.toList_modify, Array.toList_modify, modify_eq_set _ _ _ _ h2', modify_eq_set _ _ _ _ h2', ← h3]
      refine ⟨_, ?_, MapIs.isSet hn hw2 hl hd hk he hkey v h2 h5, MapIs.stored hw2 _ _, by simp [setBlock]⟩
      simp [Instr.entryStore, MapKept.run_getObj_map hw2, asInt, asIntOf, hidx, hmod, MapKept.run_setObj_map _ hw2, Result.andThen, setBlock]

end

section
variable {K V : Type}

/-- Block it goes round the map r; the keys done have come. -/
def RangeIs (P : Program) (k : TypeId) (ek : K → Value) (ev : V → Value) (w : World) (r it : Nat) (kv : List (K × V)) (done : List K) : Prop :=
  (kv.map Prod.fst).Nodup ∧ it ≠ r ∧ done.Nodup ∧ (∀ d ∈ done, d ∈ kv.map Prod.fst) ∧ ∃ es clock seen, w.heap[r]? = some (.map es clock) ∧ (∀ x ∈ es.toList, x.born < clock) ∧ (es.toList.map (·.born)).Nodup ∧ (∀ x ∈ es.toList, ∃ l, keyOf P k x.key = some l) ∧ es.toList.map (fun x => (x.key, x.val)) = kv.map (fun p => (ek p.1, ev p.2)) ∧
    w.heap[it]? = some (.mapIter (some r) clock seen clock) ∧ (∀ x ∈ es.toList, x.born ∈ seen.toList ↔ x.key ∈ done.map ek)

variable {P : Program} {k : TypeId} {ek : K → Value} {ev : V → Value} {w : World} {r it : Nat} {kv : List (K × V)} {done : List K}

theorem RangeIs.map (h : RangeIs P k ek ev w r it kv done) : MapIs P k ek ev w r kv := by
  obtain ⟨h1, _, _, _, es, clock, seen, a, b, c, d, e, _⟩ := h
  exact ⟨h1, es, clock, a, b, c, d, e⟩
theorem RangeIs.lt (h : RangeIs P k ek ev w r it kv done) : it < w.heap.size := by
  obtain ⟨_, _, _, _, es, clock, seen, _, _, _, _, _, hb, _⟩ := h
  exact (Array.getElem?_eq_some_iff.1 hb).1
theorem RangeIs.ne (h : RangeIs P k ek ev w r it kv done) : it ≠ r := h.2.1
theorem RangeIs.same {w' : World} (h : RangeIs P k ek ev w r it kv done) (e1 : w'.heap[r]? = w.heap[r]?) (e2 : w'.heap[it]? = w.heap[it]?) : RangeIs P k ek ev w' r it kv done := by
  obtain ⟨h1, h2, h3, h4, es, clock, seen, a, b, c, d, e, f, g⟩ := h
  exact ⟨h1, h2, h3, h4, es, clock, seen, e1.trans a, b, c, d, e, e2.trans f, g⟩
theorem RangeIs.grown {w' : World} {row : Option Nat} (h : RangeIs P k ek ev w r it kv done) (hg : w.grownBy w' row) (hr : some r ≠ row) (hi : some it ≠ row) : RangeIs P k ek ev w' r it kv done :=
  h.same (hg.block r h.map.lt hr) (hg.block it h.lt hi)
theorem RangeIs.alloc (h : RangeIs P k ek ev w r it kv done) (o : Obj) : RangeIs P k ek ev (w.alloc o) r it kv done := h.grown (World.grownBy_alloc w o none) (by simp) (by simp)
theorem RangeIs.count (h : RangeIs P k ek ev w r it kv done) : done.length ≤ kv.length := by
  have := List.Nodup.length_le_of_subset h.2.2.1 (fun d hd => h.2.2.2.1 d hd)
  simpa using this

theorem MapIs.range {t e : TypeId} (h : MapIs P k ek ev w r kv) (ht : P.underlying t = some (.map k e)) :
    ∃ w', (Instr.range t (.map (some r))).run P w = .ok (.pointer (some ⟨w.heap.size, 0, none⟩)) w' ∧ RangeIs P k ek ev w' r w.heap.size kv [] ∧ w.grownBy w' none ∧ w'.heap.size = w.heap.size + 1 := by
  have hlt := h.lt
  obtain ⟨hn, es, clock, hb, hl, hd, hk, he⟩ := h
  refine ⟨w.alloc (.mapIter (some r) clock #[] clock), ?_, ⟨hn, by omega, by simp, by simp, es, clock, #[], (Below.heap_alloc w _ r hlt).trans hb, hl, hd, hk, he, (MapKept.heap_alloc w _).1, by simp⟩, World.grownBy_alloc w _ none, by simp⟩
  simp [Instr.range, run_underlying ht, MapKept.run_getObj_map hb, Result.andThen, newObj, Sem.run]

theorem RangeIs.next (h : RangeIs P k ek ev w r it kv done) (hinj : ∀ a b, ek a = ek b → a = b) (ty : TypeId) :
    (done.Perm (kv.map Prod.fst) ∧ (Instr.next (.pointer (some ⟨it, 0, none⟩)) false ty).run P w = .ok (.tuple #[.bool false]) w) ∨
    ∃ key v w', done.length < kv.length ∧ (key, v) ∈ kv ∧ (Instr.next (.pointer (some ⟨it, 0, none⟩)) false ty).run P w = .ok (.tuple #[.bool true, ek key, ev v]) w' ∧ RangeIs P k ek ev w' r it kv (done ++ [key]) ∧ w.grownBy w' (some it) ∧ w'.heap.size = w.heap.size ∧
      (Instr.entry (.pointer (some ⟨it, 0, none⟩))).run P w' = .ok (.tuple #[ek key, ev v]) w' := by
  have hall := h
  obtain ⟨hn, hne, hdn, hds, es, clock, seen, hb, hl, hd, hk, he, hi, hs⟩ := h
  have hleft : ∀ x, x ∈ (leftOf es seen).toList ↔ x ∈ es.toList ∧ x.born ∉ seen.toList := fun x => by simp [leftOf]
  rcases run_next_at (P := P) w ty it r clock clock seen es clock hi hb hl (Nat.le_refl _) with ⟨h0, hrun⟩ | ⟨e, hm, w1, hw1, hrun⟩
  · refine .inl ⟨(List.perm_ext_iff_of_nodup hdn hn).2 fun a => ⟨hds a, fun ha => ?_⟩, hrun⟩
    obtain ⟨p, hp, rfl⟩ := List.mem_map.1 ha
    have : (ek p.1, ev p.2) ∈ es.toList.map (fun x => (x.key, x.val)) := by rw [he]; exact List.mem_map.2 ⟨p, hp, rfl⟩
    obtain ⟨x, hx, hxe⟩ := List.mem_map.1 this
    simp only [Prod.mk.injEq] at hxe
    have hnil : (leftOf es seen).toList = [] := by
      apply List.eq_nil_of_length_eq_zero
      simpa using h0
    have hsx : x.born ∈ seen.toList := Classical.byContradiction fun hc => by
      have := (hleft x).2 ⟨hx, hc⟩
      rw [hnil] at this
      cases this
    have hkx := (hs x hx).1 hsx
    rw [hxe.1] at hkx
    obtain ⟨d, hd1, hd2⟩ := List.mem_map.1 hkx
    rw [← hinj _ _ hd2]
    exact hd1
  · obtain ⟨hme, hms⟩ := (hleft e).1 hm
    obtain ⟨j, hj⟩ := List.mem_iff_getElem?.1 hme
    obtain ⟨p, hp, ek1, ev1⟩ := MapIs.zip_at he hj
    have hnd : p.1 ∉ done := fun hc => hms ((hs e hme).2 (by rw [ek1]; exact List.mem_map.2 ⟨p.1, hc, rfl⟩))
    have hpm : p ∈ kv := List.mem_of_getElem? hp
    have hb1 : w1.heap[r]? = some (.map es clock) := by rcases hw1 with rfl | rfl <;> exact hb
    have hi1 : w1.heap[it]? = some (.mapIter (some r) clock seen clock) := by rcases hw1 with rfl | rfl <;> exact hi
    have hilt : it < w1.heap.size := (Array.getElem?_eq_some_iff.1 hi1).1
    have hdn' : (done ++ [p.1]).Nodup := List.nodup_append.2 ⟨hdn, by simp, fun a ha b hb e => by simp at hb; subst hb; subst e; exact hnd ha⟩
    have hds' : ∀ d ∈ done ++ [p.1], d ∈ kv.map Prod.fst := fun d hd => by
      rcases List.mem_append.1 hd with h | h
      · exact hds d h
      · simp at h; subst h; exact List.mem_map.2 ⟨p, hpm, rfl⟩
    have hbr : (setBlock w1 it (.mapIter (some r) clock (seen.push e.born) clock)).heap[r]? = some (.map es clock) := by
      show (w1.heap.setIfInBounds it _)[r]? = _
      rw [Array.getElem?_setIfInBounds_ne hne]
      exact hb1
    have hbi : (setBlock w1 it (.mapIter (some r) clock (seen.push e.born) clock)).heap[it]? = some (.mapIter (some r) clock (seen.push e.born) clock) := by
      show (w1.heap.setIfInBounds it _)[it]? = _
      rw [Array.getElem?_setIfInBounds_self_of_lt hilt]
    have hsz : (setBlock w1 it (.mapIter (some r) clock (seen.push e.born) clock)).heap.size = w.heap.size := by
      have : (setBlock w1 it (.mapIter (some r) clock (seen.push e.born) clock)).heap.size = w1.heap.size := by simp [setBlock]
      rw [this]
      rcases hw1 with rfl | rfl <;> rfl
    refine .inr ⟨p.1, p.2, _, ?_, hpm, by rw [← ek1, ← ev1]; exact hrun, ⟨hn, hne, hdn', hds', es, clock, seen.push e.born, hbr, hl, hd, hk, he, hbi, fun x hx => ?_⟩, ?_, ?_, ?_⟩
    · have := List.Nodup.length_le_of_subset hdn' (fun d hd => hds' d hd)
      simp at this
      omega
    · simp only [Array.toList_push, List.mem_append, List.mem_singleton, List.map_append, List.map_cons, List.map_nil, hs x hx]
      constructor
      · rintro (h | h)
        · exact .inl h
        · obtain ⟨i, hi'⟩ := List.mem_iff_getElem?.1 hx
          have hji : j = i := (List.getElem?_inj (l := es.toList.map (·.born)) (by simpa using (List.getElem?_eq_some_iff.1 hj).1) hd).1 (by simp [hj, hi', h])
          subst hji
          rw [hj] at hi'
          cases hi'
          exact .inr ek1
      · rintro (h | h)
        · exact .inl h
        · obtain ⟨i, hi'⟩ := List.mem_iff_getElem?.1 hx
          obtain ⟨q, hq, eq1, _⟩ := MapIs.zip_at he hi'
          have : q.1 = p.1 := hinj _ _ (eq1.symm.trans h)
          have hji : j = i := (List.getElem?_inj (l := kv.map Prod.fst) (by simpa using (List.getElem?_eq_some_iff.1 hp).1) hn).1 (by simp [hp, hq, this])
          subst hji
          rw [hj] at hi'
          cases hi'
          exact .inr rfl
    · refine ⟨?_, ?_, ?_, ?_, fun i _ hi' => ?_⟩
      · rcases hw1 with rfl | rfl <;> rfl
      · rcases hw1 with rfl | rfl <;> rfl
      · rcases hw1 with rfl | rfl <;> rfl
      · exact Nat.le_of_eq hsz.symm
      · show (w1.heap.setIfInBounds it _)[i]? = _
        rw [Array.getElem?_setIfInBounds_ne (fun e => hi' (by rw [e]))]
        rcases hw1 with rfl | rfl <;> rfl
    · exact hsz
    · rw [← ek1, ← ev1]
      exact run_entry_at _ it r clock seen es clock e hbi hbr hme hd

end

theorem _root_.Go.World.grownBy_drew {w w' : World} {row : Option Nat} (h : w.grownBy w' row) : w.grownBy w'.drew row := ⟨h.os, h.tape, h.output, h.size, h.block⟩

/-! ### at the operations -/
section
variable {K V : Type} {P : Program} {ops : Array Oper} {rest : List Oper} {o : Oper} {a : Act} {Q : Exit → Act → World → Prop} {w : World}
theorem wpList_range_is (hg : o.guard = none) (m : Operand) (t : TypeId) (hop : o.op = Op.range t m) {k e : TypeId} (ht : P.underlying t = some (.map k e)) {ek : K → Value} {ev : V → Value} {r : Nat} {kv : List (K × V)}
    (hm : a.eval m = .map (some r)) (h : MapIs P k ek ev w r kv)
    (hK : ∀ w', RangeIs P k ek ev w' r w.heap.size kv [] → w.grownBy w' none → w'.heap.size = w.heap.size + 1 → wpList P ops Q rest (a.put o.dst (.pointer (some ⟨w.heap.size, 0, none⟩))) w') :
    wpList P ops Q (o :: rest) a w := by
  refine wpList_plain hg fun K' hK' => ?_
  obtain ⟨w', hrun, r1, r2, r3⟩ := h.range ht
  unfold Oper.wp
  simp [execOp, hop, hm, hrun, Result.andThen]
  exact hK' _ _ (hK w' r1 r2 r3)
theorem wpList_next_is (hg : o.guard = none) (i : Operand) (hop : o.op = Op.next i false) {k : TypeId} {ek : K → Value} {ev : V → Value} {r it : Nat} {kv : List (K × V)} {done : List K} (hinj : ∀ a b, ek a = ek b → a = b)
    (hit : a.eval i = .pointer (some ⟨it, 0, none⟩)) (h : RangeIs P k ek ev w r it kv done)
    (hDone : done.Perm (kv.map Prod.fst) → wpList P ops Q rest (a.put o.dst (.tuple #[.bool false])) w)
    (hMore : ∀ (key : K) (v : V) (w' : World), done.length < kv.length → (key, v) ∈ kv → RangeIs P k ek ev w' r it kv (done ++ [key]) → w.grownBy w' (some it) → w'.heap.size = w.heap.size → (Instr.entry (.pointer (some ⟨it, 0, none⟩))).run P w' = .ok (.tuple #[ek key, ev v]) w' →
      wpList P ops Q rest (a.put o.dst (.tuple #[.bool true, ek key, ev v])) w') :
    wpList P ops Q (o :: rest) a w := by
  refine wpList_plain hg fun K' hK' => ?_
  unfold Oper.wp
  rcases h.next hinj o.type with ⟨hp, hrun⟩ | ⟨key, v, w', h1, h2, hrun, h3, h4, h5, h6⟩
  · simp [execOp, hop, hit, hrun, Result.andThen]
    exact hK' _ _ (hDone hp)
  · simp [execOp, hop, hit, hrun, Result.andThen]
    exact hK' _ _ (hMore key v w' h1 h2 h3 h4 h5 h6)
theorem MapIs.len {ek : K → Value} {ev : V → Value} {k e t : TypeId} {r : Nat} {kv : List (K × V)} (h : MapIs P k ek ev w r kv) (ht : P.underlying t = some (.map k e)) (ty : TypeId) : (Builtin.len_ #[t] ty #[.map (some r)]).run P w = .ok (.int .i64 (kv.length : Int)) w := by
  obtain ⟨_, es, clock, hb, _, _, _, he⟩ := h
  have e1 : es.size = kv.length := by
    have := congrArg List.length he
    simpa using this
  rw [← e1]
  simp [Builtin.len_, run_underlying ht, MapKept.run_getObj_map hb, goInt, Result.andThen]
theorem wpList_len_is (hg : o.guard = none) (m : Operand) (t : TypeId) (hop : o.op = Op.call { callee := Callee.builtin Builtin.len, args := #[m], argTypes := #[t] }) {k e : TypeId} (ht : P.underlying t = some (.map k e)) {ek : K → Value} {ev : V → Value} {r : Nat} {kv : List (K × V)}
    (hm : a.eval m = .map (some r)) (h : MapIs P k ek ev w r kv) (hK : wpList P ops Q rest (a.put o.dst (.int .i64 (kv.length : Int))) w) : wpList P ops Q (o :: rest) a w := by
  refine wpList_plain hg fun K' hK' => ?_
  unfold Oper.wp
  simp [execOp, hop, resolve, invoke, builtin, hm, h.len ht o.type, Result.andThen]
  exact hK' _ _ hK
theorem wpList_mapUpdate_is [DecidableEq K] (hg : o.guard = none) (m x v : Operand) (t : TypeId) (hop : o.op = Op.mapUpdate t m x v) {k e : TypeId} (L : Go.Maps.Keyed P k) (ht : P.underlying t = some (.map k e)) {ek : K → Value} {ev : V → Value} {r : Nat} {kv : List (K × V)} (hinj : ∀ a b, ek a = ek b → a = b)
    (hm : a.eval m = .map (some r)) (h : MapIs P k ek ev w r kv) (key : K) (val : V) {kl : Lit} (hx : a.eval x = ek key) (hv : a.eval v = ev val) (hkey : keyOf P k (ek key) = some kl)
    (hK : ∀ w', MapIs P k ek ev w' r (putKV kv key val) → w.grownBy w' (some r) → wpList P ops Q rest (a.put o.dst undef) w') :
    wpList P ops Q (o :: rest) a w := by
  refine wpList_plain hg fun K' hK' => ?_
  obtain ⟨w', hrun, r1, r2⟩ := h.update L hinj ht hkey val
  unfold Oper.wp
  simp [execOp, hop, hm, hx, hv, hrun, Result.andThen]
  exact hK' _ _ (hK w' r1 r2)
end
end Go.Proofs.Bg
end

section
/- Maps whose keys are the values of a row. -/
namespace Go.Proofs.Bg
open Go.RowKit

theorem laidOut : laidOutB Tryz.prog = true := by kernel_rfl
theorem rowV8 : (142 : TypeId) < Tryz.prog.types.size := of_decide_eq_true (by kernel_rfl)
theorem lawV8 : Go.Maps.Keyed Tryz.prog 142 := Go.Maps.Keyed.of_law (deep_law_laid laidOut (m := 2) (by omega) rowV8 (by kernel_rfl) (by rw [Tryz.underlying142]))

def I64 (x : Int) : Prop := -9223372036854775808 ≤ x ∧ x ≤ 9223372036854775807
def V8.ok (v : V8) : Prop := I64 v.a0 ∧ I64 v.a1 ∧ I64 v.a2 ∧ I64 v.a3 ∧ I64 v.a4 ∧ I64 v.a5 ∧ I64 v.a6 ∧ I64 v.a7
theorem V8.ok_of {v : V8} (h : ∀ i, i < 8 → I64 (v.get i)) : v.ok := ⟨h 0 (by decide), h 1 (by decide), h 2 (by decide), h 3 (by decide), h 4 (by decide), h 5 (by decide), h 6 (by decide), h 7 (by decide)⟩
set_option maxRecDepth 100000 in
theorem keyV8 (v : V8) (h : v.ok) : ∃ l, keyOf Tryz.prog 142 v.v = some l := by
  obtain ⟨h0, h1, h2, h3, h4, h5, h6, h7⟩ := h
  have e0 : (Lit.int .i64 v.a0).wf = true := WalkArith.wf_i64 h0
  have e1 : (Lit.int .i64 v.a1).wf = true := WalkArith.wf_i64 h1
  have e2 : (Lit.int .i64 v.a2).wf = true := WalkArith.wf_i64 h2
  have e3 : (Lit.int .i64 v.a3).wf = true := WalkArith.wf_i64 h3
  have e4 : (Lit.int .i64 v.a4).wf = true := WalkArith.wf_i64 h4
  have e5 : (Lit.int .i64 v.a5).wf = true := WalkArith.wf_i64 h5
  have e6 : (Lit.int .i64 v.a6).wf = true := WalkArith.wf_i64 h6
  have e7 : (Lit.int .i64 v.a7).wf = true := WalkArith.wf_i64 h7
  have k0 : Tryz.prog.keyType 142 = true := by kernel_rfl
  have c0 : Tryz.prog.cellsOf 142 = 8 := by kernel_rfl
  have c3 : Tryz.prog.cellsOf 3 = 1 := by kernel_rfl
  obtain ⟨d, hd⟩ : ∃ d, Tryz.prog.types.size = d + 1 := ⟨Tryz.prog.types.size - 1, by have : 0 < Tryz.prog.types.size := of_decide_eq_true (by kernel_rfl); omega⟩
  unfold keyOf
  rw [Tryz.underlying142, hd]
  simp [k0, V8.v, Value.formed, Value.cells, Tryz.underlying142, Tryz.underlying3, c0, c3, Program.keyLits]
  have hr : List.range 8 = [0, 1, 2, 3, 4, 5, 6, 7] := by decide
  rw [hr]
  simp [e0, e1, e2, e3, e4, e5, e6, e7]

section
variable {K V : Type} {P : Program} {ops : Array Oper} {rest : List Oper} {o : Oper} {a : Act} {Q : Exit → Act → World → Prop} {w : World}
theorem wpList_mapEntry_is [DecidableEq K] (hg : o.guard = none) (m x : Operand) (t : TypeId) (hop : o.op = Op.mapEntry t m x) {k e : TypeId} (L : Go.Maps.Keyed P k) (ht : P.underlying t = some (.map k e)) {ek : K → Value} {ev : V → Value} {r : Nat} {kv : List (K × V)} (hinj : ∀ a b, ek a = ek b → a = b) {z : V} (hz : ∀ u : World, (zeroValue e).run P u = .ok (ev z) u)
    (hm : a.eval m = .map (some r)) (h : MapIs P k ek ev w r kv) (key : K) {kl : Lit} (hx : a.eval x = ek key) (hkey : keyOf P k (ek key) = some kl)
    (hK : ∀ (st : Nat) w1, MapIs P k ek ev w1 r (putKV kv key ((getKV kv key).getD z)) → w.grownBy w1 (some r) → w1.heap.size = w.heap.size → (∀ (w2 : World) (v : V), w2.heap[r]? = w1.heap[r]? → ∃ w3, (Instr.entryStore t (.map (some r)) (.int .i64 ((st : Nat) : Int)) (ev v)).run P w2 = .ok () w3 ∧ MapIs P k ek ev w3 r (putKV kv key v) ∧ w2.grownBy w3 (some r) ∧ w3.heap.size = w2.heap.size) → wpList P ops Q rest (a.put o.dst (.tuple #[ev ((getKV kv key).getD z), .int .i64 ((st : Nat) : Int)])) w1) :
    wpList P ops Q (o :: rest) a w := by
  refine wpList_plain hg fun K' hK' => ?_
  obtain ⟨st, w1, hrun, r1, r2, r3, r4⟩ := h.entry L hinj ht hz hkey
  unfold Oper.wp
  simp [execOp, hop, hm, hx, hrun, Result.andThen]
  exact hK' _ _ (hK st w1 r1 r2 r3 r4)
theorem wpList_entryStore_is (hg : o.guard = none) (m x v : Operand) (t : TypeId) (hop : o.op = Op.entryStore t m x v) {mv sv vv : Value} {w3 : World}
    (hm : a.eval m = mv) (hx : a.eval x = sv) (hv : a.eval v = vv) (hrun : (Instr.entryStore t mv sv vv).run P w = .ok () w3)
    (hK : wpList P ops Q rest (a.put o.dst undef) w3) : wpList P ops Q (o :: rest) a w := by
  refine wpList_plain hg fun K' hK' => ?_
  unfold Oper.wp
  simp [execOp, hop, hm, hx, hv, hrun, Result.andThen]
  exact hK' _ _ hK
theorem wpList_lookup_is [DecidableEq K] (hg : o.guard = none) (m x : Operand) (t : TypeId) (hop : o.op = Op.lookup t m x false) {k e : TypeId} (L : Go.Maps.Keyed P k) (ht : P.underlying t = some (.map k e)) {ek : K → Value} {ev : V → Value} {r : Nat} {kv : List (K × V)} (hinj : ∀ a b, ek a = ek b → a = b) {z : V} (hz : ∀ u : World, (zeroValue e).run P u = .ok (ev z) u)
    (hm : a.eval m = .map (some r)) (h : MapIs P k ek ev w r kv) (key : K) {kl : Lit} (hx : a.eval x = ek key) (hkey : keyOf P k (ek key) = some kl)
    (hK : wpList P ops Q rest (a.put o.dst (ev ((getKV kv key).getD z))) w) :
    wpList P ops Q (o :: rest) a w := by
  refine wpList_plain hg fun K' hK' => ?_
  have hrun : (Instr.lookup t (.map (some r)) (ek key) false).run P w = .ok (ev ((getKV kv key).getD z)) w := (h.lookup L hinj ht hz hkey).trans (by cases getKV kv key <;> rfl)
  unfold Oper.wp
  simp [execOp, hop, hm, hx, hrun, Result.andThen]
  exact hK' _ _ hK
end

theorem Own.grownM {α : Type} {enc : α → List Value} {sz : Nat} {T : TypeId} {base r : Nat} {w w' : World} {v : Value} {l : List α} {K V : Type} {P : Program} {k : TypeId} {ek : K → Value} {ev : V → Value} {kv : List (K × V)} (h : Own enc sz T base w v l) (hg : w.grownBy w' (some r)) (hm : MapIs P k ek ev w r kv) : Own enc sz T base w' v l := by
  refine h.grown hg ?_
  rcases h.2 with ⟨e, _⟩ | ⟨g', cap, cur, e, _, hb, _⟩
  · exact .inl (by rw [e]; rfl)
  · refine .inr fun ee => ?_
    rw [e] at ee
    have : g' = r := Option.some.inj ee
    subst this
    obtain ⟨_, es, clock, hb2, _⟩ := hm
    rw [hb] at hb2
    cases hb2
theorem MapIs.grownT {K V : Type} {P : Program} {k : TypeId} {ek : K → Value} {ev : V → Value} {w w' : World} {r g : Nat} {kv : List (K × V)} {c : Array Value} {T : TypeId} (h : MapIs P k ek ev w r kv) (hg : w.grownBy w' (some g)) (hc : w.heap[g]? = some (.cells c T)) : MapIs P k ek ev w' r kv := by
  refine h.grown hg fun e => ?_
  cases e
  obtain ⟨_, es, clock, hb, _⟩ := h
  rw [hb] at hc
  cases hc
end Go.Proofs.Bg
end

section
/- Plain words for the walk of joined: formed tables, partners, what the loops hold. -/
namespace Go.Proofs.Bg
open Go.RowKit

theorem rowsB_mem {m : Nat} : ∀ {l : List (List Int)} {p : Option (List Int)}, rowsB m p l = true → ∀ r ∈ l, r.length = m ∧ ∀ v ∈ r, rangeB v = true
  | [], _, _, r, h => by cases h
  | x :: l, p, h, r, hr => by
    simp only [rowsB, Bool.and_eq_true, decide_eq_true_eq] at h
    obtain ⟨⟨⟨h1, _⟩, h2⟩, h3⟩ := h
    rcases List.mem_cons.1 hr with rfl | hr
    · exact ⟨h1, fun v hv => by simp only [valsB, List.all_eq_true] at h2; exact h2 v hv⟩
    · exact rowsB_mem h3 r hr
theorem rowsB_up {m : Nat} : ∀ {l : List (List Int)} {p : Option (List Int)}, rowsB m p l = true → RowsUp l ∧ ∀ q, p = some q → ∀ r ∈ l, lexC q r < 0
  | [], _, _ => ⟨List.Pairwise.nil, fun _ _ r h => by cases h⟩
  | x :: l, p, h => by
    simp only [rowsB, Bool.and_eq_true, decide_eq_true_eq] at h
    obtain ⟨⟨⟨_, h1⟩, _⟩, h3⟩ := h
    obtain ⟨i1, i2⟩ := rowsB_up h3
    refine ⟨List.pairwise_cons.2 ⟨fun y hy => i2 x rfl y hy, i1⟩, fun q hq r hr => ?_⟩
    subst hq
    have hqx : lexC q x < 0 := by simpa [afterB] using h1
    rcases List.mem_cons.1 hr with rfl | hr
    · exact hqx
    · exact lexC_trans hqx (i2 x rfl r hr)
structure Formed (T : PT) : Prop where
  set : setB T.cols 8 = true
  most : T.rows.length ≤ 500
  row : ∀ r ∈ T.rows, r.length = T.cols.length ∧ ∀ v ∈ r, rangeB v = true
  up : RowsUp T.rows
theorem formed_of {T : PT} (h : formedB T = true) : Formed T := by
  simp only [formedB, Bool.and_eq_true, decide_eq_true_eq] at h
  exact ⟨h.1.1, h.1.2, rowsB_mem h.2, (rowsB_up h.2).1⟩
theorem Formed.cols {T : PT} (h : Formed T) : ∀ c ∈ T.cols, 0 ≤ c ∧ c < 8 := setB_mem h.set
theorem Formed.ncols {T : PT} (h : Formed T) : T.cols.length ≤ 8 := setB_length h.set
theorem Formed.bits {T : PT} (h : Formed T) : bitsN T.cols < 256 := bitsN_lt (n := 8) h.cols
theorem range_I64 {v : Int} (h : rangeB v = true) : I64 v := by
  simp only [rangeB, Bool.and_eq_true, decide_eq_true_eq] at h
  unfold I64
  omega
theorem overV_ok : ∀ (cs xs : List Int) (u : V8), (∀ c ∈ cs, 0 ≤ c ∧ c < 8) → (∀ v ∈ xs, rangeB v = true) → (∀ i, i < 8 → rangeB (u.get i) = true) → ∀ i, i < 8 → rangeB ((overV u cs xs).get i) = true
  | [], _, u, _, _, hu => by simpa [overV] using hu
  | c :: cs, [], u, _, _, hu => by simpa [overV] using hu
  | c :: cs, x :: xs, u, hc, hx, hu => by
    have h1 := hc c (by simp)
    rw [overV]
    refine overV_ok cs xs _ (fun d hd => hc d (by simp [hd])) (fun v hv => hx v (by simp [hv])) fun i hi => ?_
    rw [V8.get_set (by omega)]
    split
    · exact hx x (by simp)
    · exact hu i hi
theorem spread_ok {T : PT} (h : Formed T) {r : List Int} (hr : r ∈ T.rows) : ∀ i, i < 8 → rangeB ((spreadV T.cols r).get i) = true := by
  refine overV_ok _ _ _ h.cols (h.row r hr).2 fun i hi => ?_
  have his : i = 0 ∨ i = 1 ∨ i = 2 ∨ i = 3 ∨ i = 4 ∨ i = 5 ∨ i = 6 ∨ i = 7 := by omega
  rcases his with rfl | rfl | rfl | rfl | rfl | rfl | rfl | rfl <;> decide
theorem only_ok {v : V8} {x : Nat} (h : ∀ i, i < 8 → rangeB (v.get i) = true) : (onlyV v x).ok := by
  refine V8.ok_of fun i hi => ?_
  rw [onlyV_get _ _ _ hi]
  split
  · exact range_I64 (h i hi)
  · unfold I64; omega

theorem spread_lit (A B R : Option Addr) (n m q capA capB capR : Nat) (cols row : List Int) (w : World) (u : V8) (hu : spreadV cols row = u) (hA : Rd iv 1 w 0 A n cols) (hR : Rd iv 1 w 0 R q row) (hl : ∀ c ∈ cols, 0 ≤ c ∧ c < 8) (hq : n = q) :
    Calls Tryz.prog 108 #[.agg #[.slice A n capA, .slice B m capB], .slice R q capR] w fun e w' => e = .returned (.agg #[.int .i64 u.a0, .int .i64 u.a1, .int .i64 u.a2, .int .i64 u.a3, .int .i64 u.a4, .int .i64 u.a5, .int .i64 u.a6, .int .i64 u.a7]) ∧ Below w.heap.size w w' := by
  subst hu
  exact spread_any A B R n m q capA capB capR cols row w hA hR hl hq
theorem only_lit (v : V8) (x : Nat) (w : World) (u : V8) (hu : onlyV v x = u) (hx : x < 256) :
    Calls Tryz.prog 116 #[.agg #[.int .i64 v.a0, .int .i64 v.a1, .int .i64 v.a2, .int .i64 v.a3, .int .i64 v.a4, .int .i64 v.a5, .int .i64 v.a6, .int .i64 v.a7], .int .i64 x] w fun e w' => e = .returned (.agg #[.int .i64 u.a0, .int .i64 u.a1, .int .i64 u.a2, .int .i64 u.a3, .int .i64 u.a4, .int .i64 u.a5, .int .i64 u.a6, .int .i64 u.a7]) ∧ Below w.heap.size w w' := by
  subst hu
  exact only_any v x w hx

/-- The partners of a key among the first rows. -/
def partTo (B : PT) (x : Nat) (key : V8) (k : Nat) : List V8 := ((B.rows.take k).map (spreadV B.cols)).filter fun v => decide (onlyV v x = key)
theorem partTo_succ {B : PT} {x : Nat} {key : V8} {k : Nat} {r : List Int} (h : B.rows[k]? = some r) : partTo B x key (k + 1) = partTo B x key k ++ (if onlyV (spreadV B.cols r) x = key then [spreadV B.cols r] else []) := by
  unfold partTo
  rw [List.take_add_one, h]
  simp only [Option.toList_some, List.map_append, List.map_cons, List.map_nil, List.filter_append]
  congr 1
  by_cases hk : onlyV (spreadV B.cols r) x = key <;> simp [hk]
theorem partTo_length (B : PT) (x : Nat) (key : V8) (k : Nat) : (partTo B x key k).length ≤ k := by
  unfold partTo
  refine Nat.le_trans (List.length_filter_le _ _) ?_
  rw [List.length_map, List.length_take]
  omega

theorem infoV : (Tryz.prog.info? 142).map (fun i => (i.zero, i.size, i.bytes)) = some (some (.agg #[.int .i64 0, .int .i64 0, .int .i64 0, .int .i64 0, .int .i64 0, .int .i64 0, .int .i64 0, .int .i64 0]), 8, 64) := by kernel_rfl
theorem V8.one (v : V8) : ∀ u ∈ v.vs, u.oneCell' = true := by simp [V8.vs, Value.oneCell']
abbrev MapP (w : World) (r : Nat) (kv : List (V8 × Sl)) : Prop := MapIs Tryz.prog 142 V8.v Sl.v w r kv
abbrev OwnV (base : Nat) (w : World) (v : Value) (l : List V8) : Prop := Own V8.vs 8 142 base w v l
theorem zeroSl (u : World) : (zeroValue 180).run Tryz.prog u = .ok (Sl.v ⟨none, 0, 0⟩) u := by kernel_rfl
/-- The map of partners among the first k rows. -/
def PMap (B : PT) (x base k : Nat) (w : World) (r : Nat) : Prop :=
  ∃ kv : List (V8 × Sl), MapP w r kv ∧ (∀ key, OwnV base w ((getKV kv key).getD ⟨none, 0, 0⟩).v (partTo B x key k)) ∧ (∀ key key' s s', key ≠ key' → getKV kv key = some s → getKV kv key' = some s' → s.v.ownBlock = none ∨ s.v.ownBlock ≠ s'.v.ownBlock)
theorem PMap.below {B : PT} {x base k r : Nat} {w w' : World} (h : PMap B x base k w r) (hb : Below w.heap.size w w') : PMap B x base k w' r := by
  obtain ⟨kv, h1, h2, h3⟩ := h
  exact ⟨kv, h1.below hb, fun key => (h2 key).below hb, h3⟩
theorem PMap.start (B : PT) (x base : Nat) (w : World) : PMap B x base 0 (w.alloc (.map #[] 0)) w.heap.size := by
  refine ⟨[], MapIs.made _ _ _ _ _, fun key => ?_, fun _ _ s _ _ h => by simp [getKV] at h⟩
  simp only [getKV, Option.getD_none]
  exact Own.nil _ _ _ _ _
theorem PMap.step {B : PT} {x base k r : Nat} {wr W6 W7 W8 W9 : World} {row : List Int} {key v : V8} {kv : List (V8 × Sl)} {s' : Sl} (hr : B.rows[k]? = some row) (hv : spreadV B.cols row = v) (hkey : onlyV v x = key)
    (hM : MapP wr r kv) (hO : ∀ key, OwnV base wr ((getKV kv key).getD ⟨none, 0, 0⟩).v (partTo B x key k)) (hD : ∀ key key' s s', key ≠ key' → getKV kv key = some s → getKV kv key' = some s' → s.v.ownBlock = none ∨ s.v.ownBlock ≠ s'.v.ownBlock)
    (hb : Below wr.heap.size wr W6) (g7 : W6.grownBy W7 (some r)) (hM7 : ∃ q, MapP W7 r q) (g8 : W7.grownBy W8 ((getKV kv key).getD ⟨none, 0, 0⟩).v.ownBlock)
    (hO8 : OwnV base W8 s'.v (partTo B x key k ++ [v])) (hloc : s'.v.ownBlock = ((getKV kv key).getD ⟨none, 0, 0⟩).v.ownBlock ∨ s'.v.ownBlock = some W7.heap.size) (g9 : W8.grownBy W9 (some r)) (hM9 : MapP W9 r (putKV kv key s')) : PMap B x base (k + 1) W9 r := by
  obtain ⟨q, hM7⟩ := hM7
  have hM8 : ∃ q', MapP W8 r q' := by
    refine ⟨q, hM7.grown g8 fun e => ?_⟩
    have ho := ((hO key).below hb).grownM g7 (hM.below hb)
    rcases ho.2 with ⟨e', _⟩ | ⟨g', cap, cur, e', _, hb2, _⟩
    · rw [e'] at e; cases e
    · rw [e'] at e
      have : r = g' := Option.some.inj e
      subst this
      obtain ⟨_, es, clock, hb3, _⟩ := hM7
      rw [hb2] at hb3
      cases hb3
  obtain ⟨q8, hM8⟩ := hM8
  have hszs : wr.heap.size ≤ W7.heap.size := Nat.le_trans hb.size g7.size
  refine ⟨putKV kv key s', hM9, fun key' => ?_, fun k1 k2 s1 s2 hne h1 h2 => ?_⟩
  · rw [getKV_put, partTo_succ hr, hv, hkey]
    by_cases hk : key = key'
    · subst hk
      rw [if_pos rfl, if_pos rfl]
      exact hO8.grownM g9 hM8
    · rw [if_neg hk, if_neg hk, List.append_nil]
      refine (((((hO key').below hb).grownM g7 (hM.below hb)).grown g8 ?_)).grownM g9 hM8
      cases h' : getKV kv key' with
      | none => exact .inl rfl
      | some s1 =>
        cases h'' : getKV kv key with
        | none =>
          simp only [Option.getD_some, Option.getD_none]
          cases hb1 : s1.v.ownBlock with
          | none => exact .inl rfl
          | some b => exact .inr (fun e => by cases e)
        | some s2 =>
          simp only [Option.getD_some]
          exact hD key' key s1 s2 (fun e => hk e.symm) h' h''
  · rw [getKV_put] at h1 h2
    have hold : ∀ {kk : V8} {ss : Sl}, getKV kv kk = some ss → ∀ b, ss.v.ownBlock = some b → b < wr.heap.size := fun {kk ss} hs b hbb => by
      have := hO kk
      rw [hs] at this
      exact (Own.blk this b hbb).2
    by_cases hk1 : key = k1
    · rw [if_pos hk1] at h1
      cases h1
      have hk2 : ¬ key = k2 := fun e => hne (hk1.symm.trans e)
      rw [if_neg hk2] at h2
      rcases hloc with hl | hl
      · cases h'' : getKV kv key with
        | none => rw [h''] at hl; exact .inl hl
        | some s3 =>
          rw [h''] at hl
          simp only [Option.getD_some] at hl
          rw [hl]
          exact hD key k2 s3 s2 hk2 h'' h2
      · refine .inr fun e => ?_
        rw [hl] at e
        have := hold h2 _ e.symm
        omega
    · rw [if_neg hk1] at h1
      by_cases hk2 : key = k2
      · rw [if_pos hk2] at h2
        cases h2
        rcases hloc with hl | hl
        · cases h'' : getKV kv key with
          | none =>
            rw [h''] at hl
            rw [hl]
            cases hb1 : s1.v.ownBlock with
            | none => exact .inl rfl
            | some b => exact .inr (fun e => by cases e)
          | some s3 =>
            rw [h''] at hl
            simp only [Option.getD_some] at hl
            rw [hl]
            exact hD k1 key s1 s3 (fun e => hk1 e.symm) h1 h''
        · rw [hl]
          cases hb1 : s1.v.ownBlock with
          | none => exact .inl rfl
          | some b =>
            refine .inr fun e => ?_
            cases e
            have := hold h1 _ hb1
            omega
      · rw [if_neg hk2] at h2
        exact hD k1 k2 s1 s2 hne h1 h2
end Go.Proofs.Bg
end

section
/- Plain words for the walk of joined: its second half. -/
namespace Go.Proofs.Bg
open Go.RowKit

/-- What the loops over the first table's rows hold: the table that is built. -/
structure JOut (W1 wr : World) (g : Nat) (cv rv : Sl) (cols : List Int) (rows : List (List Int)) : Prop where
  b : Below W1.heap.size W1 wr
  box : wr.heap[g]? = some (.cells #[.slice cv.A cv.n cv.cap, .slice rv.A rv.n rv.cap] 40)
  hg : W1.heap.size ≤ g
  cols : Own iv 1 3 W1.heap.size wr cv.v cols
  rows : ∃ ss, Own Sl.vs 1 32 W1.heap.size wr rv.v ss ∧ All2 (fun s r => Own iv 1 3 W1.heap.size wr s.v r) ss rows
section
variable {W1 wr W : World} {g : Nat} {cv rv : Sl} {cols : List Int} {rows : List (List Int)}
theorem JOut.lt (h : JOut W1 wr g cv rv cols rows) : g < wr.heap.size := (Array.getElem?_eq_some_iff.1 h.box).1
theorem JOut.below (h : JOut W1 wr g cv rv cols rows) (hb : Below wr.heap.size wr W) : JOut W1 W g cv rv cols rows where
  b := bchain h.b hb
  box := (hb.block g h.lt).trans h.box
  hg := h.hg
  cols := h.cols.below hb
  rows := by
    obtain ⟨ss, h1, h2⟩ := h.rows
    exact ⟨ss, h1.below hb, h2.mono fun x y h => h.below hb⟩
theorem JOut.grown8 {g8 : Nat} {m : V8} (h : JOut W1 wr g cv rv cols rows) (h8 : H8 wr g8 m) (hg : wr.grownBy W (some g8)) (hw : W1.heap.size ≤ g8) : JOut W1 W g cv rv cols rows where
  b := below_row h.b hg (fun j e => by cases e; exact hw)
  box := (hg.block g h.lt (fun e => by cases e; have := h8.symm.trans h.box; simp at this)).trans h.box
  hg := h.hg
  cols := h.cols.grownT hg h8 (by decide)
  rows := by
    obtain ⟨ss, h1, h2⟩ := h.rows
    exact ⟨ss, h1.grownT hg h8 (by decide), h2.mono fun x y h => h.grownT hg h8 (by decide)⟩
theorem JOut.len (h : JOut W1 wr g cv rv cols rows) : rv.n = rows.length := by
  obtain ⟨ss, h1, h2⟩ := h.rows
  rw [← h2.1]
  exact h1.len
theorem JOut.cells (h : JOut W1 wr g cv rv cols rows) : wr.cell? ⟨g, 0, none⟩ = some (.slice cv.A cv.n cv.cap) ∧ wr.cell? ⟨g, 1, none⟩ = some (.slice rv.A rv.n rv.cap) ∧ wr.frozen? ⟨g, 0, none⟩ = false ∧ wr.frozen? ⟨g, 1, none⟩ = false :=
  ⟨cell_at_block h.box rfl, cell_at_block h.box rfl, free_at_block h.box, free_at_block h.box⟩
/-- One row more: the row made (w2), its header in a new block (w3), appended (w4), the header put back. -/
theorem JOut.push {w2 w4 : World} {rw4 : Sl} {s : Sl} {r : List Int} {_ : List Sl} (h : JOut W1 wr g cv rv cols rows) (hb : Below wr.heap.size wr w2) (hr : Own iv 1 3 W1.heap.size w2 s.v r) {o : Obj}
    (ho4 : ∀ ss, Own Sl.vs 1 32 W1.heap.size (w2.alloc o) rv.v ss → All2 (fun s r => Own iv 1 3 W1.heap.size (w2.alloc o) s.v r) ss rows → Own Sl.vs 1 32 W1.heap.size w4 rw4.v (ss ++ [s])) (hg4 : (w2.alloc o).grownBy w4 rv.v.ownBlock) :
    JOut W1 (w4.setCell ⟨g, 1, none⟩ (.slice rw4.A rw4.n rw4.cap)) g cv rw4 cols (rows ++ [r]) := by
  have h2 := (h.below hb).below (below_new w2 o)
  obtain ⟨ss, q1, q2⟩ := h2.rows
  have hne : some g ≠ rv.v.ownBlock := fun e => by
    rcases q1.2 with ⟨e', _⟩ | ⟨g', cap, cur, e', _, hb2, _⟩
    · rw [e'] at e; cases e
    · rw [e'] at e
      have : g = g' := Option.some.inj e
      subst this
      have := hb2.symm.trans h2.box
      simp at this
  have hbox4 := (hg4.block g h2.lt hne).trans h2.box
  obtain ⟨b1, b2⟩ := setCell_at (off := 1) hbox4 (.slice rw4.A rw4.n rw4.cap)
  have o4 := ho4 ss q1 q2
  have hown : ∀ {s : Sl} {r : List Int}, Own iv 1 3 W1.heap.size (w2.alloc o) s.v r → Own iv 1 3 W1.heap.size w4 s.v r := fun hh => hh.grown hg4 (own_ne hh q1 (by decide))
  exact {
    b := below_row (below_row h2.b hg4 (fun j e => (q1.blk j e).1)) b2 (fun j e => by cases e; exact h.hg)
    box := b1
    hg := h.hg
    cols := (h2.cols.grown hg4 (own_ne h2.cols q1 (by decide))).grownT b2 hbox4 (by decide)
    rows := ⟨_, o4.grownT b2 hbox4 (by decide), (All2.snoc (q2.mono fun x y hh => hown hh) (hown (hr.alloc o))).mono fun x y hh => hh.grownT b2 hbox4 (by decide)⟩ }
end

/-- The rows that one row of the first table gives. -/
def rowJ (A B : PT) (r : List Int) : List (List Int) :=
  (partTo B (bitsN A.cols) (onlyV (spreadV A.cols r) (bitsN B.cols)) B.rows.length).map fun u => inV (mixV u (spreadV A.cols r) A.cols) (colsN (bitsN A.cols ||| bitsN B.cols))
theorem joinRows_eq (A B : PT) : joinRows A B = A.rows.flatMap (rowJ A B) := by
  unfold joinRows rowJ partTo
  congr 1
  funext r
  rw [List.take_length, List.filter_map, List.map_map]
  rfl
theorem take_flat {A B : PT} {k : Nat} {r : List Int} (h : A.rows[k]? = some r) : (A.rows.take (k + 1)).flatMap (rowJ A B) = (A.rows.take k).flatMap (rowJ A B) ++ rowJ A B r := by
  rw [List.take_add_one, h, List.flatMap_append]
  simp
theorem flat_pre {A B : PT} {k : Nat} {r : List Int} (h : A.rows[k]? = some r) : joinRows A B = (A.rows.take k).flatMap (rowJ A B) ++ (rowJ A B r ++ (A.rows.drop (k + 1)).flatMap (rowJ A B)) := by
  rw [joinRows_eq]
  have e : A.rows = A.rows.take k ++ r :: A.rows.drop (k + 1) := by rw [← drop_at h, List.take_append_drop]
  conv => lhs; rw [e]
  simp
/-- A bundle for the region that appends. -/
structure JK (w0 : World) (g b : Nat) (cv rv : Sl) (m : V8) (W : World) : Prop where
  hb : Below w0.heap.size w0 W
  c0 : W.cell? ⟨g, 0, none⟩ = some (.slice cv.A cv.n cv.cap)
  c1 : W.cell? ⟨g, 1, none⟩ = some (.slice rv.A rv.n rv.cap)
  f1 : W.frozen? ⟨g, 1, none⟩ = false
  h8 : H8 W b m
theorem JK.turn {w0 W W' : World} {g b : Nat} {cv rv : Sl} {m : V8} (h : JK w0 g b cv rv m W) (hb : Below W.heap.size W W') : JK w0 g b cv rv m W' where
  hb := bchain h.hb hb
  c0 := (hb.cell (World.block_lt_of_cell? W _ h.c0)).trans h.c0
  c1 := (hb.cell (World.block_lt_of_cell? W _ h.c1)).trans h.c1
  f1 := (hb.frozen (World.block_lt_of_cell? W _ h.c1)).trans h.f1
  h8 := h.h8.keep hb
theorem JK.start {W1 wr : World} {g b : Nat} {cv rv : Sl} {cols : List Int} {rows : List (List Int)} {m : V8} (h : JOut W1 wr g cv rv cols rows) (h8 : H8 wr b m) : JK wr g b cv rv m wr := ⟨Below.refl _ _, h.cells.1, h.cells.2.1, h.cells.2.2.2, h8⟩
/-- What the region reads and does not write. -/
structure J2 (g b : Nat) (cv : Sl) (m : V8) (W : World) : Prop where
  c0 : W.cell? ⟨g, 0, none⟩ = some (.slice cv.A cv.n cv.cap)
  h8 : H8 W b m
theorem J2.below {g b : Nat} {cv : Sl} {m : V8} {W W' : World} (h : J2 g b cv m W) (hb : Below W.heap.size W W') : J2 g b cv m W' := ⟨(hb.cell (World.block_lt_of_cell? W _ h.c0)).trans h.c0, h.h8.keep hb⟩
theorem J2.grown {g b : Nat} {cv : Sl} {m : V8} {W W' : World} {row : Option Nat} (h : J2 g b cv m W) (hg : W.grownBy W' row) (h1 : some g ≠ row) (h2 : some b ≠ row) : J2 g b cv m W' := ⟨(hg.cell_far ⟨g, 0, none⟩ (World.block_lt_of_cell? W _ h.c0) h1).trans h.c0, h.h8.grown hg h2⟩
theorem J2.store {g b : Nat} {cv : Sl} {m : V8} {W : World} (h : J2 g b cv m W) (hne : b ≠ g) (v : Value) : J2 g b cv m (W.setCell ⟨g, 1, none⟩ v) :=
  ⟨(World.cell?_setCell_other W ⟨g, 1, none⟩ ⟨g, 0, none⟩ v (by simp)).trans h.c0, by
    have : (W.setCell ⟨g, 1, none⟩ v).heap[b]? = W.heap[b]? := by
      simp [World.setCell, Array.getElem?_modify]
      intro e
      exact absurd e.symm hne
    exact this.trans h.h8⟩
theorem J2.all {g b : Nat} {cA : Option Addr} {cn ck : Nat} {m : V8} {W : World} (h : J2 g b ⟨cA, cn, ck⟩ m W) : W.cell? ⟨g, 0, none⟩ = some (.slice cA cn ck) ∧ W.cell? ⟨b, 0, none⟩ = some (.int .i64 m.a0) ∧ W.cell? ⟨b, 1, none⟩ = some (.int .i64 m.a1) ∧ W.cell? ⟨b, 2, none⟩ = some (.int .i64 m.a2) ∧ W.cell? ⟨b, 3, none⟩ = some (.int .i64 m.a3) ∧ W.cell? ⟨b, 4, none⟩ = some (.int .i64 m.a4) ∧ W.cell? ⟨b, 5, none⟩ = some (.int .i64 m.a5) ∧ W.cell? ⟨b, 6, none⟩ = some (.int .i64 m.a6) ∧ W.cell? ⟨b, 7, none⟩ = some (.int .i64 m.a7) := ⟨h.c0, h.h8.cells⟩
end Go.Proofs.Bg
end

section
/- Plain words: the join of formed tables is formed. -/
namespace Go.Proofs.Bg
open Go.RowKit

theorem setFrom_of {n : Int} : ∀ {l : List Int} {p : Int}, l.Pairwise (· < ·) → (∀ c ∈ l, 0 ≤ c ∧ c < n ∧ p < c) → setFrom p n l = true
  | [], _, _, _ => rfl
  | a :: r, p, h, hm => by
    obtain ⟨h1, h2⟩ := List.pairwise_cons.1 h
    have h3 := hm a (by simp)
    have ih := setFrom_of (n := n) (p := a) h2 fun c hc => ⟨(hm c (by simp [hc])).1, (hm c (by simp [hc])).2.1, h1 c hc⟩
    unfold setFrom
    simp [ih]
    omega
theorem setB_of {n : Int} {l : List Int} (h : l.Pairwise (· < ·)) (hm : ∀ c ∈ l, 0 ≤ c ∧ c < n) : setB l n = true := by
  unfold setB
  exact setFrom_of h fun c hc => ⟨(hm c hc).1, (hm c hc).2, by have := (hm c hc).1; omega⟩
theorem setB_colsN (x : Nat) : setB (colsN x) 8 = true := setB_of (colsFrom_pairwise _ _ _) fun c hc => by
  obtain ⟨k, rfl, _, h2, _⟩ := mem_colsFrom.1 hc
  omega
theorem mixV_ok : ∀ (cs : List Int) (u v : V8), (∀ c ∈ cs, 0 ≤ c ∧ c < 8) → (∀ i, i < 8 → rangeB (u.get i) = true) → (∀ i, i < 8 → rangeB (v.get i) = true) → ∀ i, i < 8 → rangeB ((mixV u v cs).get i) = true
  | [], u, v, _, hu, _ => by simpa [mixV] using hu
  | c :: cs, u, v, hc, hu, hv => by
    have h1 := hc c (by simp)
    rw [mixV]
    refine mixV_ok cs _ v (fun d hd => hc d (by simp [hd])) (fun i hi => ?_) hv
    rw [V8.get_set (by omega)]
    split
    · exact hv _ (by omega)
    · exact hu i hi
theorem joinRow_ok {A B : PT} (fa : Formed A) (fb : Formed B) : ∀ r ∈ joinRows A B, r.length = (colsN (bitsN A.cols ||| bitsN B.cols)).length ∧ ∀ v ∈ r, rangeB v = true := by
  intro r hr
  unfold joinRows at hr
  obtain ⟨a, ha, hr⟩ := List.mem_flatMap.1 hr
  obtain ⟨b, hb, rfl⟩ := List.mem_map.1 hr
  have hb' := (List.mem_filter.1 hb).1
  refine ⟨by simp [inV], fun v hv => ?_⟩
  obtain ⟨c, hc, rfl⟩ := List.mem_map.1 hv
  have hc8 := setB_mem (setB_colsN _) c hc
  exact mixV_ok _ _ _ fa.cols (spread_ok fb hb') (spread_ok fa ha) _ (by omega)
theorem joinB_formed {A B T : PT} (fa : Formed A) (fb : Formed B) (h : joinB A B = some T) : Formed T := by
  unfold joinB at h
  by_cases hl : (joinRows A B).length ≤ 500
  · rw [if_pos hl] at h
    cases h
    exact ⟨setB_colsN _, Nat.le_trans (length_sortR _) hl, fun r hr => joinRow_ok fa fb r (mem_sortR.1 hr), sortR_up _⟩
  · rw [if_neg hl] at h
    cases h
theorem formed_back {T : PT} (h : Formed T) : formedB T = true := by
  have hv : ∀ l : List Int, (∀ v ∈ l, rangeB v = true) → valsB l = true := fun l hl => List.all_eq_true.2 hl
  have hr : ∀ (m : Nat) (p : Option (List Int)) (l : List (List Int)), (∀ r ∈ l, r.length = m ∧ ∀ v ∈ r, rangeB v = true) → RowsUp l → (∀ q r, p = some q → r ∈ l → lexC q r < 0) → rowsB m p l = true := by
    intro m p l
    induction l generalizing p with
    | nil => intros; rfl
    | cons a r ih =>
      intro h1 h2 h3
      obtain ⟨u1, u2⟩ := List.pairwise_cons.1 h2
      have i := ih (some a) (fun x hx => h1 x (by simp [hx])) u2 (fun q x hq hx => by cases hq; exact u1 x hx)
      have h4 := h1 a (by simp)
      unfold rowsB
      rw [i, hv a h4.2]
      have ha : afterB p a = true := by
        cases p with
        | none => rfl
        | some q => simpa [afterB] using h3 q a rfl (by simp)
      rw [ha]
      simp [h4.1]
  unfold formedB
  rw [h.set, hr _ _ _ h.row h.up (fun q r hq => by cases hq)]
  simp [h.most]
end Go.Proofs.Bg
end

section
/- Plain words: the reference's parts are the program's. -/
namespace Go.Proofs.Bg
open Go.RowKit

theorem parts_eq (n : Int) (L : List (List Int)) : (setsG L n && fullB L) = partsB n L := by
  rw [Bool.eq_iff_iff]
  simp only [setsG, fullB, partsB, Bool.and_eq_true, List.all_eq_true, decide_eq_true_eq]
  constructor
  · rintro ⟨⟨⟨h1, h2⟩, h3⟩, h4⟩
    exact ⟨⟨by omega, h2⟩, fun p hp => ⟨h4 p hp, h3 p hp⟩⟩
  · rintro ⟨⟨h1, h2⟩, h3⟩
    exact ⟨⟨⟨by omega, h2⟩, fun p hp => (h3 p hp).2⟩, fun p hp => (h3 p hp).1⟩
theorem putL_mem (n : Int) : ∀ (l : List Int) (x : Int), x ∈ putL n l ↔ x = n ∨ x ∈ l
  | [], x => by simp [putL]
  | y :: r, x => by
    rw [putL]
    split
    · rw [List.mem_cons, putL_mem n r x, List.mem_cons]
      constructor
      · rintro (h | h | h)
        · exact .inr (.inl h)
        · exact .inl h
        · exact .inr (.inr h)
      · rintro (h | h | h)
        · exact .inr (.inl h)
        · exact .inl h
        · exact .inr (.inr h)
    · split
      · rename_i h
        subst h
        simp
      · simp
theorem putL_pairwise (n : Int) : ∀ {l : List Int}, l.Pairwise (· < ·) → (putL n l).Pairwise (· < ·)
  | [], _ => by simp [putL]
  | y :: r, h => by
    obtain ⟨h1, h2⟩ := List.pairwise_cons.1 h
    rw [putL]
    split
    · rename_i hy
      refine List.pairwise_cons.2 ⟨fun z hz => ?_, putL_pairwise n h2⟩
      rcases (putL_mem n r z).1 hz with rfl | hz
      · exact hy
      · exact h1 z hz
    · split
      · exact h
      · rename_i h3 h4
        refine List.pairwise_cons.2 ⟨fun z hz => ?_, h⟩
        rcases List.mem_cons.1 hz with rfl | hz
        · omega
        · have := h1 z hz
          omega
theorem unionL_mem : ∀ (b a : List Int) (x : Int), x ∈ unionL a b ↔ x ∈ a ∨ x ∈ b
  | [], a, x => by simp [unionL]
  | y :: b, a, x => by
    have := unionL_mem b (putL y a) x
    unfold unionL at this ⊢
    rw [List.foldl_cons, this, putL_mem, List.mem_cons]
    constructor
    · rintro ((h | h) | h)
      · exact .inr (.inl h)
      · exact .inl h
      · exact .inr (.inr h)
    · rintro (h | h | h)
      · exact .inl (.inr h)
      · exact .inl (.inl h)
      · exact .inr h
theorem unionL_pairwise : ∀ (b : List Int) {a : List Int}, a.Pairwise (· < ·) → (unionL a b).Pairwise (· < ·)
  | [], _, h => h
  | y :: b, a, h => by
    have := unionL_pairwise b (putL_pairwise y h)
    unfold unionL at this ⊢
    rw [List.foldl_cons]
    exact this
theorem met_all : ∀ (L : List (List Int)) {a : List Int}, a.Pairwise (· < ·) → (L.foldl unionL a).Pairwise (· < ·) ∧ ∀ x, x ∈ L.foldl unionL a ↔ x ∈ a ∨ ∃ p ∈ L, x ∈ p
  | [], a, h => ⟨h, fun x => by simp⟩
  | p :: L, a, h => by
    obtain ⟨h1, h2⟩ := met_all L (unionL_pairwise p h)
    refine ⟨h1, fun x => ?_⟩
    rw [List.foldl_cons, h2, unionL_mem]
    constructor
    · rintro ((h | h) | ⟨q, hq, h⟩)
      · exact .inl h
      · exact .inr ⟨p, List.mem_cons_self, h⟩
      · exact .inr ⟨q, List.mem_cons_of_mem _ hq, h⟩
    · rintro (h | ⟨q, hq, h⟩)
      · exact .inl (.inl h)
      · rcases List.mem_cons.1 hq with rfl | hq
        · exact .inl (.inr h)
        · exact .inr ⟨q, hq, h⟩
/-- Two lists that increase and hold the same are one. -/
theorem incr_ext : ∀ {a b : List Int}, a.Pairwise (· < ·) → b.Pairwise (· < ·) → (∀ x, x ∈ a ↔ x ∈ b) → a = b
  | [], [], _, _, _ => rfl
  | [], y :: b, _, _, h => by have := (h y).2 List.mem_cons_self; simp at this
  | x :: a, [], _, _, h => by have := (h x).1 List.mem_cons_self; simp at this
  | x :: a, y :: b, ha, hb, h => by
    obtain ⟨a1, a2⟩ := List.pairwise_cons.1 ha
    obtain ⟨b1, b2⟩ := List.pairwise_cons.1 hb
    have hxy : x = y := by
      rcases List.mem_cons.1 ((h x).1 List.mem_cons_self) with e | e
      · exact e
      · rcases List.mem_cons.1 ((h y).2 List.mem_cons_self) with e2 | e2
        · exact e2.symm
        · have := b1 x e
          have := a1 y e2
          omega
    subst hxy
    have : a = b := incr_ext a2 b2 fun z => by
      constructor
      · intro hz
        rcases List.mem_cons.1 ((h z).1 (List.mem_cons_of_mem _ hz)) with e | e
        · have := a1 z hz; omega
        · exact e
      · intro hz
        rcases List.mem_cons.1 ((h z).2 (List.mem_cons_of_mem _ hz)) with e | e
        · have := b1 z hz; omega
        · exact e
    rw [this]
theorem testBit_orAll : ∀ (L : List (List Int)) (o i : Nat), (∀ p ∈ L, ∀ c ∈ p, 0 ≤ c) → (orAll o L).testBit i = (o.testBit i || decide (∃ p ∈ L, (i : Int) ∈ p))
  | [], o, i, _ => by simp [orAll]
  | p :: L, o, i, h => by
    rw [orAll, testBit_orAll L _ i (fun q hq => h q (List.mem_cons_of_mem _ hq)), Nat.testBit_or, testBit_bitsN (h p List.mem_cons_self), Bool.or_assoc]
    congr 1
    rw [Bool.eq_iff_iff]
    simp
theorem cols_len_all : ∀ n, n ≤ 8 → ∀ x, x < pw n → ((colsN x).length = n ↔ x = pw n - 1) := by decide +kernel
theorem orAll_lt {n : Nat} : ∀ (L : List (List Int)) {o : Nat}, o < 2 ^ n → (∀ p ∈ L, setB p (n : Int) = true) → orAll o L < 2 ^ n
  | [], _, h, _ => h
  | p :: L, o, h, hl => by
    rw [orAll]
    exact orAll_lt L (Nat.or_lt_two_pow h (bitsN_lt (n := n) (setB_mem (hl p List.mem_cons_self)))) fun q hq => hl q (List.mem_cons_of_mem _ hq)
/-- All columns are met just if all bits are there. -/
theorem met_whole {n : Nat} (hn : n ≤ 8) {L : List (List Int)} (hl : ∀ p ∈ L, setB p (n : Int) = true) : ((metL L).length : Int) = (n : Int) ↔ orAll 0 L = pw n - 1 := by
  obtain ⟨h1, h2⟩ := met_all L (a := []) List.Pairwise.nil
  have hlt : orAll 0 L < 2 ^ n := orAll_lt L (Nat.two_pow_pos n) hl
  have h0 : ∀ p ∈ L, ∀ c ∈ p, 0 ≤ c := fun p hp c hc => (setB_mem (hl p hp) c hc).1
  have e : metL L = colsN (orAll 0 L) := by
    refine incr_ext h1 (colsFrom_pairwise _ _ _) fun x => ?_
    show x ∈ L.foldl unionL [] ↔ _
    rw [h2, colsN, mem_colsFrom]
    constructor
    · rintro (h | ⟨p, hp, hx⟩)
      · simp at h
      · obtain ⟨q1, q2⟩ := setB_mem (hl p hp) x hx
        refine ⟨x.toNat, by omega, by omega, by omega, ?_⟩
        rw [testBit_orAll L 0 _ h0]
        have : ∃ p ∈ L, ((x.toNat : Nat) : Int) ∈ p := ⟨p, hp, by rw [Int.toNat_of_nonneg q1]; exact hx⟩
        rw [decide_eq_true this, Bool.or_true]
    · rintro ⟨k, rfl, _, _, hk⟩
      rw [testBit_orAll L 0 k h0] at hk
      simp at hk
      exact .inr hk
  have := cols_len_all n hn (orAll 0 L) hlt
  rw [e]
  constructor
  · intro h
    exact this.1 (by omega)
  · intro h
    have := this.2 h
    omega
end Go.Proofs.Bg
end

section
/- Contract: ref Rules. -/
namespace Go.Proofs.Bg
open Go.RowKit

set_option maxRecDepth 100000 in
set_option maxHeartbeats 4000000 in
theorem RulesR_any (N : Int) (A : Option Addr) (n cap : Nat) (l : List PF) (w : World) (h : FdsAt w 0 A n l) :
    Calls Tryz.prog 53 #[.slice A n cap, .int .i64 N] w fun e w' => e = .returned (.bool (rulesB N l)) ∧ DrN w w' := by
  have HA := Lib.hid h
  have HL := Lib.hid h.len
  have hle := h.le
  clear h
  have Q0 := Lib.hid (inR_any N 1 8 w)
  have HI : Hid (inB N 1 8 = (decide (1 ≤ N) && decide (N ≤ 8))) := rfl
  cases hin : (decide (1 ≤ N) && decide (N ≤ 8)) with
  | false =>
    have HR : Hid (rulesB N l = false) := by show _ = _; rw [rulesB, hin, Bool.false_and, Bool.false_and]
    rw [HI.out, hin] at Q0
    clear hin
    go_enter Tryz.func53, Tryz.ntmps53
    go_wp2_with fail
    (with_reducible refine Q0.out.mono ?_)
    rintro e w1 ⟨rfl, hd⟩
    go_wp2_with fail
    go_ret
    rw [HR.out]
    exact ⟨rfl, hd⟩
  | true =>
    have hN : 1 ≤ N ∧ N ≤ 8 := by simpa using hin
    rw [HI.out, hin] at Q0
    by_cases h3 : n ≤ 10
    · have d3 : decide ((10 : Int) < (n : Int)) = false := by rw [decide_eq_false_iff_not]; omega
      have d3' : decide (10 < n) = false := by rw [decide_eq_false_iff_not]; omega
      have HG : Hid (rulesB N l = (l.drop 0).all (ruleB N)) := by
        show _ = _
        have e3 : decide (l.length ≤ 10) = true := by rw [decide_eq_true_eq, HL.out]; omega
        rw [rulesB, hin, e3]
        rfl
      have hwN : IntKind.i64.wrap (N - 1) = N - 1 := IntWalk.i64_in _ (by omega)
      clear hin
      go_enter Tryz.func53, Tryz.ntmps53
      go_wp2_with fail
      (with_reducible refine Q0.out.mono ?_)
      rintro e w1 ⟨rfl, hd⟩
      go_wp2_with fail
      clear d3 d3' Q0 HI
      go_loopw [5] (fun i wr => ∃ k : Nat, k ≤ n ∧ i = .int .i64 k ∧ rulesB N l = (l.drop k).all (ruleB N) ∧ DrN w wr) (fun i _ => n - (intOf i).toNat)
      case atStart => exact ⟨0, by omega, rfl, HG.out, hd⟩
      case round =>
        clear hd
        obtain ⟨k, hk, rfl, he, hD⟩ := hrel
        have HE := Lib.hid he
        have HD := Lib.hid hD
        clear he HG
        by_cases hlt : k < n
        · obtain ⟨b1, o1, t, T, rfl, -, hT, c0, c1, hTT⟩ := (HA.out.below hD.below).at_ hlt
          have HX := Lib.hid (drop_at hT)
          have hi1 : (k : Int) < n := by omega
          have hi0 : (0 : Int) ≤ k := by omega
          rw [HX.out, List.all_cons] at HE
          have Q := Lib.hid (SetR_any t.A t.n t.cap N T.from_ _ hTT (by omega))
          have QI := Lib.hid (fun W => inR_any T.to_ 0 (N - 1) W)
          have K1 := Lib.hid (fun W (hd : DrN wr W) => (hd.below.cell (World.block_lt_of_cell? _ _ c1)).trans c1)
          clear hT hTT hD
          cases hf : setB T.from_ N with
          | false =>
            have HR : Hid (rulesB N l = false) := by show _ = _; rw [HE.out, ruleB, hf, Bool.false_and, Bool.false_and, Bool.false_and]
            rw [hf] at Q
            clear hf HE
            go_wp2_with fail
            (with_reducible refine Q.out.mono ?_)
            rintro e w2 ⟨rfl, hd2⟩
            go_wp2_with fail
            go_ret
            rw [HR.out]
            exact ⟨rfl, HD.out.trans hd2⟩
          | true =>
            rw [hf] at Q
            cases hi : inB T.to_ 0 (N - 1) with
            | false =>
              have HR : Hid (rulesB N l = false) := by
                show _ = _
                unfold inB at hi
                have : (decide (0 ≤ T.to_) && decide (T.to_ < N)) = false := by
                  rw [Bool.and_eq_false_iff, decide_eq_false_iff_not, decide_eq_false_iff_not] at hi ⊢
                  omega
                rw [HE.out, ruleB, Bool.and_assoc (setB _ _), this, Bool.and_false, Bool.false_and]
              rw [hi] at QI
              clear hf HE hi
              go_wp2_with fail
              (with_reducible refine Q.out.mono ?_)
              rintro e w2 ⟨rfl, hd2⟩
              have c1' := K1.out _ hd2
              have HD2 := Lib.hid (HD.out.trans hd2)
              clear hd2
              go_wp2_with fail
              (with_reducible refine (QI.out _).mono ?_)
              rintro e w3 ⟨rfl, hd3⟩
              go_wp2_with fail
              go_ret
              rw [HR.out]
              exact ⟨rfl, HD2.out.trans hd3⟩
            | true =>
              have HR : Hid (rulesB N l = (l.drop (k + 1)).all (ruleB N)) := by
                show _ = _
                unfold inB at hi
                have : (decide (0 ≤ T.to_) && decide (T.to_ < N)) = true := by
                  rw [Bool.and_eq_true, decide_eq_true_eq, decide_eq_true_eq] at hi ⊢
                  omega
                rw [HE.out, ruleB, Bool.and_assoc (setB _ _), this, hf]
                rfl
              rw [hi] at QI
              clear hf HE hi
              go_wp2_with fail
              (with_reducible refine Q.out.mono ?_)
              rintro e w2 ⟨rfl, hd2⟩
              have c1' := K1.out _ hd2
              have HD2 := Lib.hid (HD.out.trans hd2)
              clear hd2
              go_wp2_with fail
              (with_reducible refine (QI.out _).mono ?_)
              rintro e w3 ⟨rfl, hd3⟩
              have HD3 := Lib.hid (HD2.out.trans hd3)
              clear hd3
              go_wp2_with fail
              exact ⟨⟨k + 1, by omega, by go_num, HR.out, HD3.out⟩, by simp [intOf]; omega⟩
        · have hk' : k = n := by omega
          have HR : Hid (rulesB N l = true) := by
            show _ = _
            rw [HE.out, (List.drop_eq_nil_of_le (by rw [HL.out]; omega) : l.drop k = [])]
            rfl
          have d1 : decide ((k : Int) < (n : Int)) = false := by rw [decide_eq_false_iff_not]; omega
          have d2 : decide (k < n) = false := by rw [decide_eq_false_iff_not]; omega
          clear hlt hk'
          go_wp2_with fail
          go_ret
          rw [HR.out]
          exact ⟨rfl, HD.out⟩
    · have HR : Hid (rulesB N l = false) := by show _ = _; have : decide (l.length ≤ 10) = false := by rw [decide_eq_false_iff_not, HL.out]; exact h3
                                               simp [rulesB, this]
      have d3 : decide ((10 : Int) < (n : Int)) = true := by rw [decide_eq_true_eq]; omega
      have d3' : decide (10 < n) = true := by rw [decide_eq_true_eq]; omega
      clear h3 hin
      go_enter Tryz.func53, Tryz.ntmps53
      go_wp2_with fail
      (with_reducible refine Q0.out.mono ?_)
      rintro e w1 ⟨rfl, hd⟩
      go_wp2_with fail
      go_ret
      rw [HR.out]
      exact ⟨rfl, hd⟩
end Go.Proofs.Bg
end

section
/- Contract: ref Lossless. -/
namespace Go.Proofs.Bg
open Go.RowKit

theorem zrowB_succ (n : Nat) (r : List Int) : zrowB (n + 1) r = (zrowB n r && decide (colI r (n : Nat) = 0)) := by
  unfold zrowB
  rw [List.range_succ, List.all_append]
  simp

set_option maxRecDepth 100000 in
set_option maxHeartbeats 8000000 in
theorem LosslessR_any (N : Int) (A : Option Addr) (m cap : Nat) (l : List PF) (s : Sl) (L : List (List Int)) (w : World) (h : FdsAt w 0 A m l) (hs : RowsAt w 0 s L) :
    Calls Tryz.prog 31 #[.int .i64 N, .slice A m cap, .slice s.A s.n s.cap] w (RetBT w (losslessR N l L)) := by
  obtain ⟨sA, sn, sk⟩ := s
  have hb0 := below_new w (.cells #[.slice none 0 0, .slice none 0 0] 40)
  have hz0 := new_block w #[.slice none 0 0, .slice none 0 0] 40
  generalize hW0 : w.alloc (.cells #[.slice none 0 0, .slice none 0 0] 40) = W0 at *
  have HW0 := Lib.hid hW0
  have HB0 := Lib.hid hb0
  have HZ0 := Lib.hid hz0
  have Q1 := Lib.hid (RulesR_any N A m cap l W0 (h.below hb0))
  have HA := Lib.hid h
  have HS := Lib.hid hs
  have HL : Hid (L.length = sn) := hs.len
  have hle : sn ≤ 9223372036854775807 := hs.le
  clear h hs hW0 hb0 hz0
  cases hr : rulesB N l with
  | false =>
    have HR : Hid (losslessR N l L = (false, ⟨[], []⟩, 2)) := by show _ = _; simp [losslessR, hr]
    rw [hr] at Q1
    clear hr
    go_enter Tryz.func31, Tryz.ntmps31
    go_wp2_with fail
    rw [HW0.out]
    (with_reducible refine Q1.out.mono ?_)
    rintro e w1 ⟨rfl, hd1⟩
    have hb1 := hd1.below
    have hz1 := (hb1.block _ (Array.getElem?_eq_some_iff.1 HZ0.out).1).trans HZ0.out
    have c0 := cell_at_block (off := 0) hz1 rfl
    have c1 := cell_at_block (off := 1) hz1 rfl
    have f0 := free_at_block (off := 0) hz1
    have f1 := free_at_block (off := 1) hz1
    have HZ1 := Lib.hid hz1
    have HB1 := Lib.hid (bchain HB0.out hb1)
    clear hb1 hz1 hd1 Q1
    go_wp2_with fail
    obtain ⟨q1, q2⟩ := zero_again HZ1.out HB1.out (Nat.le_refl _)
    refine bodyPost_ret (results_tct rfl _ _ w.heap.size (.slice none 0 0) (.slice none 0 0) rfl q1) rfl ?_
    rw [HR.out]
    exact ⟨⟨⟨⟨none, 0, 0⟩, ⟨none, 0, 0⟩⟩, rfl, TabAt.empty _⟩, q2⟩
  | true =>
    have HRULE := Lib.hid hr
    have hN : 1 ≤ N ∧ N ≤ 8 := by
      simp only [rulesB, Bool.and_eq_true, decide_eq_true_eq] at hr
      exact ⟨hr.1.1.1, hr.1.1.2⟩
    have hRU : ∀ r ∈ l, ruleB N r = true := by
      simp only [rulesB, Bool.and_eq_true, List.all_eq_true] at hr
      exact hr.2
    obtain ⟨n, rfl⟩ : ∃ n : Nat, N = (n : Int) := ⟨N.toNat, by omega⟩
    have HRU := Lib.hid hRU
    have hn1 : 1 ≤ n := by omega
    have hn8 : n ≤ 8 := by omega
    have HPE := Lib.hid (parts_eq (n : Int) L)
    have QP := Lib.hid (fun W (hb : Below w.heap.size w W) => PartsR_any n ⟨sA, sn, sk⟩ L W (HS.out.below hb) hn8)
    rw [hr] at Q1
    clear hr hN hRU
    cases hp : partsB (n : Int) L with
    | false =>
      have HR : Hid (losslessR (n : Int) l L = (false, ⟨[], []⟩, 2)) := by show _ = _; simp [losslessR, hp]
      have HPR : Hid (partsR (n : Int) L = (false, false)) := by show _ = _; rw [partsR, HPE.out, hp]; rfl
      rw [HPR.out] at QP
      clear hp
      go_enter Tryz.func31, Tryz.ntmps31
      go_wp2_with fail
      rw [HW0.out]
      (with_reducible refine Q1.out.mono ?_)
      rintro e w1 ⟨rfl, hd1⟩
      have HB1 := Lib.hid (bchain HB0.out hd1.below)
      have HZ1 := Lib.hid ((hd1.below.block _ (Array.getElem?_eq_some_iff.1 HZ0.out).1).trans HZ0.out)
      clear hd1 Q1
      go_wp2_with fail
      (with_reducible refine (QP.out _ HB1.out).mono ?_)
      rintro e w2 ⟨rfl, hb2⟩
      have hz1 := (hb2.block _ (Array.getElem?_eq_some_iff.1 HZ1.out).1).trans HZ1.out
      have c0 := cell_at_block (off := 0) hz1 rfl
      have c1 := cell_at_block (off := 1) hz1 rfl
      have f0 := free_at_block (off := 0) hz1
      have f1 := free_at_block (off := 1) hz1
      have HZ2 := Lib.hid hz1
      have HB2 := Lib.hid (bchain HB1.out hb2)
      clear hb2 hz1 QP
      go_wp2_with fail
      obtain ⟨q1, q2⟩ := zero_again HZ2.out HB2.out (Nat.le_refl _)
      refine bodyPost_ret (results_tct rfl _ _ w.heap.size (.slice none 0 0) (.slice none 0 0) rfl q1) rfl ?_
      rw [HR.out]
      exact ⟨⟨⟨⟨none, 0, 0⟩, ⟨none, 0, 0⟩⟩, rfl, TabAt.empty _⟩, q2⟩
    | true =>
      have hpp : 1 ≤ sn ∧ sn ≤ 5 ∧ ∀ p ∈ L, setB p (n : Int) = true := by
        have h := hp
        simp only [partsB, Bool.and_eq_true, decide_eq_true_eq, List.all_eq_true] at h
        rw [HL.out] at h
        exact ⟨h.1.1, h.1.2, fun p hpm => (h.2 p hpm).2⟩
      obtain ⟨hs1, hs5, hset⟩ := hpp
      have HMW := Lib.hid (met_whole hn8 hset)
      by_cases hall : orAll 0 L = pw n - 1
      · have HPR : Hid (partsR (n : Int) L = (true, true)) := by
          show _ = _
          rw [partsR, HPE.out, hp, if_pos rfl, decide_eq_true (HMW.out.2 hall)]
        have HR : Hid (losslessR (n : Int) l L = if wholeB (chaseN l (partRows n 0 L)) then (true, ⟨[], []⟩, 0) else (false, ⟨colsN (pw n - 1), sortR (chaseN l (partRows n 0 L))⟩, 0)) := by
          show _ = _
          rw [losslessR, HRULE.out, hp, Int.toNat_natCast, hall]
          simp
        rw [HPR.out] at QP
        have QC := Lib.hid (fun W (hb : Below w.heap.size w W) => ChaseOfR_any n A m cap l ⟨sA, sn, sk⟩ L W (HA.out.below hb) (HS.out.below hb) hn1 hn8 HRU.out hs5)
        have hok0 : ChOk n (partRows n 0 L) := partRows_ok n L 0
        obtain ⟨-, hok, hlen⟩ := chaseN_fix HRU.out (sumR (partRows n 0 L)) (Nat.le_refl _) hok0
        rw [partRows_len, HL.out] at hlen
        have HWH := Lib.hid (whole_first hok (by omega))
        obtain ⟨RC, hRC⟩ : ∃ RC, chaseN l (partRows n 0 L) = RC := ⟨_, rfl⟩
        rw [hRC] at QC HR hok hlen HWH
        have HOK := Lib.hid hok
        have HLEN := Lib.hid hlen
        clear hp hall hok0 hok hlen hRC hset
        go_enter Tryz.func31, Tryz.ntmps31
        go_wp2_with fail
        rw [HW0.out]
        (with_reducible refine Q1.out.mono ?_)
        rintro e w1 ⟨rfl, hd1⟩
        have HB1 := Lib.hid (bchain HB0.out hd1.below)
        have HZ1 := Lib.hid ((hd1.below.block _ (Array.getElem?_eq_some_iff.1 HZ0.out).1).trans HZ0.out)
        clear hd1 Q1
        go_wp2_with fail
        (with_reducible refine (QP.out _ HB1.out).mono ?_)
        rintro e w2 ⟨rfl, hb2⟩
        have HZ2 := Lib.hid ((hb2.block _ (Array.getElem?_eq_some_iff.1 HZ1.out).1).trans HZ1.out)
        have HB2 := Lib.hid (bchain HB1.out hb2)
        clear hb2 QP
        go_wp2_with fail
        (with_reducible refine (QC.out _ HB2.out).mono ?_)
        rintro e w3 ⟨⟨⟨⟨cA, cn, ck⟩, ⟨rA, rn, rK⟩⟩, rfl, hT⟩, hb3⟩
        have hb4 := bchain hb3 (below_new w3 (.cells #[.slice cA cn ck, .slice rA rn rK] 40))
        have hn4 := new_block w3 #[.slice cA cn ck, .slice rA rn rK] 40
        have HOT := Lib.hid (hT.below (below_new w3 (.cells #[.slice cA cn ck, .slice rA rn rK] 40)))
        have HZ4 := Lib.hid ((hb4.block _ (Array.getElem?_eq_some_iff.1 HZ2.out).1).trans HZ2.out)
        have HB4 := Lib.hid (bchain HB2.out hb4)
        have HLO : Hid (w.heap.size < w2.heap.size) := (Array.getElem?_eq_some_iff.1 HZ2.out).1
        have HS3 : Hid (w.heap.size < w3.heap.size) := by show _ < _; have := hb3.size; have := (Array.getElem?_eq_some_iff.1 HZ2.out).1; omega
        obtain ⟨w4, hw4⟩ : ∃ w4, w3.alloc (.cells #[.slice cA cn ck, .slice rA rn rK] 40) = w4 := ⟨_, rfl⟩
        rw [hw4] at hn4 HOT HZ4 HB4
        have HN4 := Lib.hid hn4
        have HW4 := Lib.hid hw4
        clear hT hb3 hb4 hn4 hw4 QC
        go_wp2_with fail
        rw [HW4.out]
        -- the first row
        have HT := Lib.hid (HOT.out.tab.low (Nat.zero_le _))
        have hrn : rn = (sortR RC).length := HT.out.2.len.symm
        have hr0 : 0 < rn := by
          rw [hrn]
          cases hq : RC with
          | nil => have := HLEN.out; rw [hq] at this; simp at this; omega
          | cons a r =>
            have hm : a ∈ sortR (a :: r) := mem_sortR.2 (by simp)
            exact List.length_pos_of_mem hm
        obtain ⟨b1, o1, x, row, eA, -, hrow, e0, hxI⟩ := HT.out.2.at_ (k := 0) hr0
        simp only [] at eA
        subst eA
        have hrl : row.length = n := (HOK.out row (mem_sortR.1 (List.mem_of_getElem? hrow))).1
        have hxn : row.length = x.n := hxI.len
        have HROW : Hid (rowI (sortR RC) 0 = row) := by show _ = _; simp [rowI, hrow]
        rw [HROW.out] at HWH
        have hr1 : (0 : Int) < rn := by omega
        have c1 := cell_at_block (off := 1) HN4.out rfl
        have HXI := Lib.hid hxI
        have HRL := Lib.hid hrl
        have HXN : Hid (x.n = n) := by show _ = _; omega
        rw [Nat.add_zero] at e0
        clear hrow hxI hrl hxn hrn
        go_loopw [12, 13] (fun b i wr => ∃ c : Nat, c ≤ n ∧ i = .int .i64 c ∧ b = .bool (zrowB c row) ∧ wr = w4) (fun _ i _ => n - (intOf i).toNat)
        case atStart => exact ⟨0, by omega, rfl, rfl, rfl⟩
        case round =>
          obtain ⟨c, hc, rfl, rfl, rfl⟩ := hrel
          by_cases hlt : c < n
          · obtain ⟨b2, o2, v, eX, -, hv, v0⟩ := HXI.out.at_ (k := c) (by rw [HXN.out]; exact hlt)
            have hz := zrowB_succ c row
            have hcv : colI row (c : Nat) = v := by simp [colI, hv]
            rw [hcv] at hz
            have hc1 : (c : Int) < n := by omega
            have hc0 : (0 : Int) ≤ c := by omega
            obtain ⟨xA, xn, xc⟩ := x
            have hxn : xn = n := HXN.out
            have hc2 : (c : Int) < xn := by omega
            simp only [] at eX
            subst eX
            clear hv hcv hxn
            cases hzc : zrowB c row with
            | false =>
              rw [hzc, Bool.false_and] at hz
              have HZN := Lib.hid hz
              clear hz hzc
              go_wp2_with fail
              exact ⟨⟨c + 1, by omega, by go_num, by rw [HZN.out], by first | rfl | trivial⟩, by simp [intOf]; omega⟩
            | true =>
              rw [hzc, Bool.true_and] at hz
              by_cases hv0 : v = 0
              · have ev : (v == 0) = true := by simpa using hv0
                rw [decide_eq_true hv0] at hz
                have HZN := Lib.hid hz
                clear hz hzc hv0
                go_wp2_with fail
                exact ⟨⟨c + 1, by omega, by go_num, by rw [HZN.out], by first | rfl | trivial⟩, by simp [intOf]; omega⟩
              · have ev : (v == 0) = false := by simpa using hv0
                rw [decide_eq_false hv0] at hz
                have HZN := Lib.hid hz
                clear hz hzc hv0
                go_wp2_with fail
                exact ⟨⟨c + 1, by omega, by go_num, by rw [HZN.out], by first | rfl | trivial⟩, by simp [intOf]; omega⟩
          · have hcn : c = n := by omega
            have hzc : zrowB c row = wholeB RC := by rw [hcn]; exact HWH.out
            have d1 : decide ((c : Int) < (n : Int)) = false := by rw [decide_eq_false_iff_not]; omega
            have d2 : decide (c < n) = false := by rw [decide_eq_false_iff_not]; omega
            have z0 := cell_at_block (off := 0) HZ4.out rfl
            have z1 := cell_at_block (off := 1) HZ4.out rfl
            have f0 := free_at_block (off := 0) HZ4.out
            have f1 := free_at_block (off := 1) HZ4.out
            rw [hzc]
            clear hlt hcn hzc
            cases hw : wholeB RC with
            | true =>
              rw [hw, if_pos rfl] at HR
              clear hw
              go_wp2_with fail
              obtain ⟨q1, q2⟩ := zero_again HZ4.out HB4.out (Nat.le_refl _)
              refine bodyPost_ret (results_tct rfl _ _ w.heap.size (.slice none 0 0) (.slice none 0 0) rfl q1) rfl ?_
              rw [HR.out]
              exact ⟨⟨⟨⟨none, 0, 0⟩, ⟨none, 0, 0⟩⟩, rfl, TabAt.empty _⟩, q2⟩
            | false =>
              rw [hw, if_neg (by decide)] at HR
              clear hw
              have c0 := cell_at_block (off := 0) HN4.out rfl
              obtain ⟨q3, q4⟩ := setCell_at (off := 0) HZ4.out (.slice cA cn ck)
              obtain ⟨q5, q6⟩ := setCell_at (off := 1) q3 (.slice (some ⟨b1, o1, none⟩) rn rK)
              have HTAB : Hid (TabAt ((wr.setCell ⟨w.heap.size, 0, none⟩ (.slice cA cn ck)).setCell ⟨w.heap.size, 1, none⟩ (.slice (some ⟨b1, o1, none⟩) rn rK)) 0 ⟨⟨cA, cn, ck⟩, ⟨some ⟨b1, o1, none⟩, rn, rK⟩⟩ ⟨colsN (pw n - 1), sortR RC⟩) := by
                have a1 := HOT.out.far q4 HLO.out
                exact (a1.far q6 HLO.out).tab.low (Nat.zero_le _)
              have HBF : Hid (Below w.heap.size w ((wr.setCell ⟨w.heap.size, 0, none⟩ (.slice cA cn ck)).setCell ⟨w.heap.size, 1, none⟩ (.slice (some ⟨b1, o1, none⟩) rn rK))) := below_row (below_row HB4.out q4 (fun j e => by cases e; exact Nat.le_refl _)) q6 (fun j e => by cases e; exact Nat.le_refl _)
              have HQ5 := Lib.hid q5
              clear q3 q4 q5 q6
              go_upto_region 16 with fail
              go_region
              all_goals
                go_wp2_with fail
                refine bodyPost_ret (results_tct rfl _ _ w.heap.size (.slice cA cn ck) (.slice (some ⟨b1, o1, none⟩) rn rK) rfl HQ5.out) rfl ?_
                rw [HR.out]
                exact ⟨⟨⟨⟨cA, cn, ck⟩, ⟨some ⟨b1, o1, none⟩, rn, rK⟩⟩, rfl, HTAB.out.below ((Below.refl _ _).drew)⟩, HBF.out.drew⟩
      · have HPR : Hid (partsR (n : Int) L = (true, false)) := by
          show _ = _
          rw [partsR, HPE.out, hp, if_pos rfl, decide_eq_false (fun h => hall (HMW.out.1 h))]
        have HR : Hid (losslessR (n : Int) l L = (false, ⟨[], []⟩, 7)) := by
          show _ = _
          rw [losslessR, HRULE.out, hp, Int.toNat_natCast]
          simp
          intro h
          exact absurd h hall
        rw [HPR.out] at QP
        clear hp hall
        go_enter Tryz.func31, Tryz.ntmps31
        go_wp2_with fail
        rw [HW0.out]
        (with_reducible refine Q1.out.mono ?_)
        rintro e w1 ⟨rfl, hd1⟩
        have HB1 := Lib.hid (bchain HB0.out hd1.below)
        have HZ1 := Lib.hid ((hd1.below.block _ (Array.getElem?_eq_some_iff.1 HZ0.out).1).trans HZ0.out)
        clear hd1 Q1
        go_wp2_with fail
        (with_reducible refine (QP.out _ HB1.out).mono ?_)
        rintro e w2 ⟨rfl, hb2⟩
        have hz1 := (hb2.block _ (Array.getElem?_eq_some_iff.1 HZ1.out).1).trans HZ1.out
        have c0 := cell_at_block (off := 0) hz1 rfl
        have c1 := cell_at_block (off := 1) hz1 rfl
        have f0 := free_at_block (off := 0) hz1
        have f1 := free_at_block (off := 1) hz1
        have HZ2 := Lib.hid hz1
        have HB2 := Lib.hid (bchain HB1.out hb2)
        clear hb2 hz1 QP
        go_wp2_with fail
        obtain ⟨q1, q2⟩ := zero_again HZ2.out HB2.out (Nat.le_refl _)
        refine bodyPost_ret (results_tct rfl _ _ w.heap.size (.slice none 0 0) (.slice none 0 0) rfl q1) rfl ?_
        rw [HR.out]
        exact ⟨⟨⟨⟨none, 0, 0⟩, ⟨none, 0, 0⟩⟩, rfl, TabAt.empty _⟩, q2⟩
end Go.Proofs.Bg
end

section
/- Plain words: trees, their costs, the best one, lines, the quick tree; tables reduced. No program in sight. -/
namespace Go.Proofs.Bg
open Go.RowKit

def leafT (t : Nat) : PTr := .mk t []
def nodeT (a b : PTr) : PTr := .mk 0 [a, b]
/-- The tables below a node. -/
def belowT (n : Int) : PTr → Option Nat
  | .mk t [] => if 0 ≤ t ∧ t < n then some (pw t.toNat) else none
  | .mk t [a, b] =>
    if t ≠ 0 then none else
    match belowT n a with
    | none => none
    | some x => match belowT n b with
      | none => none
      | some y => if x &&& y ≠ 0 then none else some (x ||| y)
  | .mk _ _ => none
/-- The cost of a formed tree, and the tables below it. -/
def costT (s : Nat → Nat) : PTr → Nat × Nat
  | .mk t [] => (0, pw t.toNat)
  | .mk _ [a, b] => ((costT s a).1 + (costT s b).1 + s ((costT s a).2 ||| (costT s b).2), (costT s a).2 ||| (costT s b).2)
  | .mk _ _ => (0, 0)
def sameT : PTr → PTr → Bool
  | .mk t [], .mk u [] => decide (t = u)
  | .mk t [a, b], .mk u [c, d] => decide (t = u) && sameT a c && sameT b d
  | _, _ => false

/-- The sizes of the joins of all sets. -/
def sizeOf (js : List PT) (x : Nat) : Nat := (js.getD x ⟨[], []⟩).rows.length

/-- The best cost of a set, and its first part: the least one of some parts. -/
def leastBit (x : Nat) : Nat := x &&& (x ^^^ (x - 1))
def pickW (s c : Nat → Nat) (set : Nat) : Nat → Option (Nat × Nat)
  | 0 => none
  | p + 1 =>
    if p = 0 then none
    else if bdiff p set = 0 ∧ p &&& leastBit set ≠ 0 then
      match pickW s c set p with
      | none => some (c p + c (bdiff set p) + s set, p)
      | some (least, q) => if c p + c (bdiff set p) + s set < least then some (c p + c (bdiff set p) + s set, p) else some (least, q)
    else pickW s c set p
def onceB (x : Nat) : Bool := decide (x &&& (x - 1) = 0)
/-- The costs and first parts of the sets below n. -/
def bestTo (s : Nat → Nat) : Nat → List (Nat × Nat)
  | 0 => []
  | set + 1 =>
    let l := bestTo s set
    l ++ [if onceB set then (0, 0) else (pickW s (fun p => (l.getD p (0, 0)).1) set set).getD (0, 0)]
def treeOf (l : List (Nat × Nat)) : Nat → Nat → PTr
  | 0, set => leafT (Nat.log2 set)
  | f + 1, set => if onceB set then leafT (Nat.log2 set) else nodeT (treeOf l f (l.getD set (0, 0)).2) (treeOf l f (bdiff set (l.getD set (0, 0)).2))
def bestR (s : Nat → Nat) (n : Nat) : PTr × Nat := (treeOf (bestTo s (pw n)) n (pw n - 1), ((bestTo s (pw n)).getD (pw n - 1) (0, 0)).1)

/-- The next list of the same elements, in order. -/
def itemI (l : List Int) (i : Nat) : Int := l.getD i 0
def lastOver (l : List Int) (x : Int) : Nat → Nat
  | 0 => 0
  | k + 1 => if itemI l (k + 1) < x then lastOver l x k else k + 1
def swapI (l : List Int) (i k : Nat) : List Int := (l.set i (itemI l k)).set k (itemI l i)
def turnTail (l : List Int) (i : Nat) : List Int := l.take i ++ (l.drop i).reverse
def nextFrom (l : List Int) : Nat → Option (List Int)
  | 0 => none
  | i + 1 => if itemI l (i + 1) < itemI l i then nextFrom l i else some (turnTail (swapI l i (lastOver l (itemI l i) (l.length - 1))) (i + 1))
def nextL (l : List Int) : Option (List Int) := nextFrom l (l.length - 1)
def lineCostF (s : Nat → Nat) : Nat → Nat → Bool → List Int → Nat
  | cost, _, _, [] => cost
  | cost, set, first, t :: r => lineCostF s (if first then cost else cost + s (set ||| pw t.toNat)) (set ||| pw t.toNat) false r
def lineCost (s : Nat → Nat) (l : List Int) : Nat := lineCostF s 0 0 true l
/-- The best of the lines from one on, some more of them. -/
def linesFrom (s : Nat → Nat) : Nat → List Int → List Int × Nat → List Int × Nat
  | 0, _, b => b
  | f + 1, l, b =>
    let b' := if lineCost s l < b.2 then (l, lineCost s l) else b
    match nextL l with
    | none => b'
    | some l' => linesFrom s f l' b'
def iota (n : Nat) : List Int := (List.range n).map fun (i : Nat) => (i : Int)
def lineR (s : Nat → Nat) (n : Nat) : List Int × Nat :=
  match nextL (iota n) with
  | none => (iota n, lineCost s (iota n))
  | some l => linesFrom s 120 l (iota n, lineCost s (iota n))

/-- The quick tree: of parts with their sets. -/
def quickK (s : Nat → Nat) (P : List (PTr × Nat)) (i : Nat) : Nat → Nat × Nat → Nat × Nat
  | 0, ab => ab
  | k + 1, ab =>
    let ab' := quickK s P i k ab
    if s ((P.getD i (leafT 0, 0)).2 ||| (P.getD (i + 1 + k) (leafT 0, 0)).2) < s ((P.getD ab'.1 (leafT 0, 0)).2 ||| (P.getD ab'.2 (leafT 0, 0)).2) then (i, i + 1 + k) else ab'
def quickI (s : Nat → Nat) (P : List (PTr × Nat)) : Nat → Nat × Nat → Nat × Nat
  | 0, ab => ab
  | i + 1, ab => quickK s P i (P.length - (i + 1)) (quickI s P i ab)
def quickF (s : Nat → Nat) : Nat → List (PTr × Nat) → Nat → PTr × Nat
  | 0, P, cost => ((P.getD 0 (leafT 0, 0)).1, cost)
  | f + 1, P, cost =>
    if P.length ≤ 1 then ((P.getD 0 (leafT 0, 0)).1, cost) else
    let ab := quickI s P P.length (0, 1)
    let x := P.getD ab.1 (leafT 0, 0)
    let y := P.getD ab.2 (leafT 0, 0)
    quickF s f ((P.set ab.1 (nodeT x.1 y.1, x.2 ||| y.2)).eraseIdx ab.2) (cost + s (x.2 ||| y.2))
def quickR (s : Nat → Nat) (n : Nat) : PTr × Nat := quickF s n ((List.range n).map fun i => (leafT i, pw i)) 0

/-- A table without the rows that have no partner in another one. -/
def hasB (b : PT) (x : Nat) (v : V8) : Bool := b.rows.any fun s => decide (onlyV (spreadV b.cols s) x = onlyV v x)
def semiB (a b : PT) : PT := ⟨a.cols, a.rows.filter fun r => hasB b (bitsN a.cols &&& bitsN b.cols) (spreadV a.cols r)⟩
def tabAt (l : List PT) (i : Nat) : PT := l.getD i ⟨[], []⟩
def redK (i : Nat) : Nat → List PT → List PT
  | 0, l => l
  | k + 1, l => let l' := redK i k l; if i = k then l' else l'.set i (semiB (tabAt l' i) (tabAt l' k))
def redI : Nat → List PT → List PT
  | 0, l => l
  | i + 1, l => redK i l.length (redI i l)
def redRound (l : List PT) : List PT := redI l.length l
def rowsOf (l : List PT) : Nat := (l.map fun t => t.rows.length).sum
def redIt : Nat → List PT → List PT
  | 0, l => l
  | f + 1, l => if redRound l = l then l else redIt f (redRound l)
def redN (l : List PT) : List PT := redIt (rowsOf l) l

def exA : PT := ⟨[0, 1], [[1, 1], [1, 2], [2, 3]]⟩
def exB : PT := ⟨[1, 2], [[1, 5], [2, 5], [2, 6]]⟩
def exC : PT := ⟨[2, 3], [[5, 0], [6, 0], [7, 0]]⟩
def exS (x : Nat) : Nat := match joinsB [exA, exB, exC] with | some js => sizeOf js x | none => 0
example : joinB exA exB = some ⟨[0, 1, 2], [[1, 1, 5], [1, 2, 5], [1, 2, 6]]⟩ := by decide +kernel
example : (costT exS (nodeT (nodeT (leafT 0) (leafT 2)) (leafT 1))) = (12, 7) := by decide +kernel
example : (bestR exS 3).2 = 6 ∧ sameT (bestR exS 3).1 (nodeT (leafT 0) (nodeT (leafT 1) (leafT 2))) = true := by decide +kernel
example : lineR exS 3 = ([0, 1, 2], 6) := by decide +kernel
example : (quickR exS 3).2 = 6 ∧ sameT (quickR exS 3).1 (nodeT (nodeT (leafT 0) (leafT 1)) (leafT 2)) = true := by decide +kernel
example : redN [exA, exB, exC] = [⟨[0, 1], [[1, 1], [1, 2]]⟩, exB, ⟨[2, 3], [[5, 0], [6, 0]]⟩] := by decide +kernel
end Go.Proofs.Bg
end

section
/- A region that draws its order, by what is said of each operation's value: every operation keeps what is said of the others, whatever order is drawn. No order is walked. -/
namespace Go.Proofs.Bg
open Go.RowKit

theorem getT_set (l : Array Bool) (i j : Nat) : (l.setIfInBounds i true).getD j true = if i = j then true else l.getD j true := by
  by_cases h : i = j
  · subst h
    by_cases hb : i < l.size
    · simp [hb]
    · simp [hb]
  · simp [h, Array.getElem?_setIfInBounds_ne h]
theorem getF_set {l : Array Bool} {i j : Nat} (h : (l.setIfInBounds i true).getD j false = true) : i = j ∨ l.getD j false = true := by
  by_cases hij : i = j
  · exact .inl hij
  · refine .inr ?_
    simpa [Array.getElem?_setIfInBounds_ne hij] using h
/-- How many have not come up. -/
def cntF : Nat → Array Bool → Nat
  | 0, _ => 0
  | n + 1, l => cntF n l + (if l.getD n true then 0 else 1)
theorem cntF_far {l : Array Bool} {i : Nat} : ∀ n, n ≤ i → cntF n (l.setIfInBounds i true) = cntF n l
  | 0, _ => rfl
  | n + 1, h => by
    have hin : ¬ i = n := by omega
    rw [cntF, cntF, cntF_far n (by omega), getT_set, if_neg hin]
theorem cntF_set {l : Array Bool} {i : Nat} (hl : l.getD i true = false) : ∀ n, i < n → cntF n (l.setIfInBounds i true) + 1 = cntF n l
  | 0, h => by omega
  | n + 1, h => by
    rw [cntF, cntF]
    by_cases hi : i = n
    · subst hi
      rw [cntF_far i (Nat.le_refl _), getT_set, if_pos rfl, hl]
      simp
    · have := cntF_set hl n (by omega)
      rw [getT_set, if_neg hi]
      omega
theorem cntF_zero {l : Array Bool} : ∀ n, cntF n l = 0 → ∀ j, j < n → l.getD j true = true
  | 0, _, j, h => by omega
  | n + 1, h, j, hj => by
    rw [cntF] at h
    by_cases e : j = n
    · subst e
      cases hh : l.getD j true with
      | true => rfl
      | false => rw [hh] at h; simp at h
    · exact cntF_zero n (by omega) j (by omega)

section
variable {P : Program} {ops : Array Oper} {Q : Exit → Act → World → Prop} {md : Region.Mode}
/-- Every operation waits for earlier ones alone. -/
def backB (md : Region.Mode) (ops : Array Oper) : Bool := (List.range ops.size).all fun i => ((ops[i]?).map (·.after.all fun e => !Region.binds md e || decide (e.on < i))).getD true
theorem ready_mem {l : Array Bool} {i : Nat} (h : i ∈ Region.ready md ops l) : i < ops.size ∧ l.getD i true = false ∧ ((ops[i]?).map (·.after.all fun e => !Region.binds md e || l.getD e.on false)).getD false = true := by
  unfold Region.ready at h
  rw [List.mem_filter, List.mem_range, Bool.and_eq_true] at h
  exact ⟨h.1, by simpa using h.2.1, h.2.2⟩
theorem ready_nil (hb : backB md ops = true) {l : Array Bool} (hs : l.size = ops.size) (h : Region.ready md ops l = []) : ∀ i, i < ops.size → l.getD i false = true := by
  intro i
  induction i using Nat.strongRecOn with
  | ind i ih =>
    intro hi
    cases hl : l.getD i true with
    | true =>
      have : i < l.size := by omega
      simp [this] at hl ⊢
      exact hl
    | false =>
      exfalso
      have hm : i ∈ Region.ready md ops l := by
        unfold Region.ready
        rw [List.mem_filter, List.mem_range, Bool.and_eq_true]
        refine ⟨hi, by simpa using hl, ?_⟩
        have h1 := List.all_eq_true.1 hb i (List.mem_range.2 hi)
        rw [Array.getElem?_eq_getElem hi] at h1 ⊢
        simp only [Option.map_some, Option.getD_some] at h1 ⊢
        rw [Array.all_eq_true_iff_forall_mem] at h1 ⊢
        intro e he
        have h2 := h1 e he
        rw [Bool.or_eq_true] at h2 ⊢
        rcases h2 with h2 | h2
        · exact .inl h2
        · have h3 : e.on < i := by simpa using h2
          exact .inr (ih e.on h3 (by omega))
      rw [h] at hm
      cases hm
theorem wpAny_inv (hb : backB md ops = true) (I : Array Bool → Act → World → Prop)
    (step : ∀ i, i < ops.size → ∀ l a w, i ∈ Region.ready md ops l → I l a w → wpOp P ops Q i (I (l.setIfInBounds i true)) a w)
    (done : ∀ l a w, (∀ j, j < ops.size → l.getD j false = true) → I l a w → Q .normal a w) :
    ∀ (fuel : Nat) (l : Array Bool) (a : Act) (w : World), l.size = ops.size → cntF ops.size l ≤ fuel → I l a w → wpAny P md ops Q fuel l a w
  | 0, l, a, w, hs, hc, hI => by
    have hn : Region.ready md ops l = [] := by
      cases hr : Region.ready md ops l with
      | nil => rfl
      | cons i r =>
        exfalso
        obtain ⟨h1, h2, -⟩ := ready_mem (show i ∈ Region.ready md ops l by rw [hr]; exact List.mem_cons_self)
        rw [cntF_zero ops.size (by omega) i h1] at h2
        cases h2
    exact ⟨hn, done l a w (ready_nil hb hs hn) hI⟩
  | fuel + 1, l, a, w, hs, hc, hI => by
    refine ⟨fun hn => done l a w (ready_nil hb hs hn) hI, fun i hi => ?_⟩
    obtain ⟨h1, h2, -⟩ := ready_mem hi
    have h3 := cntF_set h2 ops.size h1
    exact wpOp_mono (fun a' w' h => wpAny_inv hb I step done fuel _ a' w' (by simpa using hs) (by omega) h) (step i h1 l a w hi hI)

def upd (f : Nat → Value) (i : Nat) (v : Value) : Nat → Value := fun k => if k = i then v else f k
/-- What an operation is ahead of: it may count on what is said of those it waits for. -/
def waits (ops : Array Oper) (i j : Nat) : Bool := ((ops[i]?).map (·.after.any fun e => Region.binds .any e && e.on == j)).getD false
def StepOk (P : Program) (ops : Array Oper) (Q : Exit → Act → World → Prop) (w0 : World) (Φ : Nat → Value → World → Prop) (fr : (Nat → Value) → Act) (i : Nat) : Prop :=
  ∀ (f : Nat → Value) (w : World) (K : Act → World → Prop), Below w0.heap.size w0 w → (∀ j, waits ops i j = true → Φ j (f j) w) → (∀ v w', Below w.heap.size w w' → Φ i v w' → K (fr (upd f i v)) w') → wpOp P ops Q i K (fr f) w
def AllSteps (S : Nat → Prop) : Nat → Prop
  | 0 => True
  | n + 1 => AllSteps S n ∧ S n
theorem AllSteps.at_ {S : Nat → Prop} : ∀ {n : Nat}, AllSteps S n → ∀ i, i < n → S i
  | n + 1, h, i, hi => by
    by_cases e : i = n
    · subst e; exact h.2
    · exact h.1.at_ i (by omega)
theorem region_inv {id : Nat} {a : Act} {w : World} (n : Nat) (hn : ops.size = n) (hm : P.follows .mixedOrders = true) (hb : backB .any ops = true) (Φ : Nat → Value → World → Prop) (fr : (Nat → Value) → Act) (f0 : Nat → Value)
    (hst : ∀ j v W W', Φ j v W → Below W.heap.size W W' → Φ j v W') (h0 : a = fr f0)
    (steps : AllSteps (StepOk P ops Q w.drew Φ fr) n)
    (done : ∀ f w', Below w.drew.heap.size w.drew w' → (∀ j, j < n → Φ j (f j) w') → Q .normal (fr f) w') : (Code.region id ops true).wp P Q a w := by
  refine wp_region_any hm ?_
  subst hn
  refine wpAny_inv hb (fun l a' w' => ∃ f, a' = fr f ∧ Below w.drew.heap.size w.drew w' ∧ ∀ j, l.getD j false = true → Φ j (f j) w') ?_ ?_ ops.size _ a _ (by simp) ?_ ⟨f0, h0, Below.refl _ _, fun j hj => ?_⟩
  · rintro i hi l a' w' hr ⟨f, rfl, hB, hf⟩
    obtain ⟨-, -, h3⟩ := ready_mem hr
    refine AllSteps.at_ steps i hi f w' _ hB (fun j hj => hf j ?_) (fun v w2 hb2 hv => ⟨upd f i v, rfl, bchain hB hb2, fun j hj => ?_⟩)
    · unfold waits at hj
      rw [Array.getElem?_eq_getElem hi] at hj h3
      simp only [Option.map_some, Option.getD_some] at hj h3
      rw [Array.any_eq_true] at hj
      obtain ⟨k, hk, he⟩ := hj
      rw [Array.all_eq_true] at h3
      have h4 := h3 k hk
      rw [Bool.and_eq_true] at he
      rw [he.1] at h4
      have e : ops[i].after[k].on = j := by simpa using he.2
      rw [← e]
      simpa using h4
    · rcases getF_set hj with rfl | h
      · simp only [upd, if_true]; exact hv
      · by_cases e : j = i
        · subst e; simp only [upd, if_true]; exact hv
        · simp only [upd, if_neg e]
          exact hst _ _ _ _ (hf j h) hb2
  · rintro l a' w' hl ⟨f, rfl, hB, hf⟩
    exact done f w' hB fun j hj => hf j (hl j hj)
  · have : ∀ n l, cntF n l ≤ n := by
      intro n l
      induction n with
      | zero => exact Nat.le_refl _
      | succ n ih => rw [cntF]; split <;> omega
    exact this _ _
  · exfalso
    rw [Array.getD_eq_getD_getElem?, Array.getElem?_replicate] at hj
    split at hj <;> simp at hj
end
end Go.Proofs.Bg
end

section
/- A region that draws its order, by what is said of each operation's value: the frame is found by itself. -/
namespace Go.Proofs.Bg
open Go.RowKit

/-- The act, n slots from the first on holding what f says. -/
def frOf (a : Act) (first : Nat) : Nat → (Nat → Value) → Act
  | 0, _ => a
  | n + 1, f => (frOf a first n f).put (some (first + n)) (f n)
theorem frOf_size (a : Act) (first : Nat) (f : Nat → Value) : ∀ n, (frOf a first n f).tmps.size = a.tmps.size
  | 0 => rfl
  | n + 1 => by simp [frOf, Act.put, frOf_size a first f n]
theorem frOf_self (a : Act) (first : Nat) : ∀ n, first + n ≤ a.tmps.size → frOf a first n (fun j => a.tmps.getD (first + j) undef) = a
  | 0, _ => rfl
  | n + 1, h => by
    rw [frOf, frOf_self a first n (by omega)]
    have hl : first + n < a.tmps.size := by omega
    obtain ⟨tmps, ds⟩ := a
    simp only [Act.put]
    congr 1
    simp only [] at hl
    refine Array.ext (by simp) fun i h1 h2 => ?_
    rw [Array.getElem_setIfInBounds]
    split
    · rename_i e
      subst e
      simp
    · rfl
/-- A slice of integers, wherever it lies. -/
def IntsW (v : Value) (W : World) (l : List Int) : Prop := ∃ s : Sl, v = .slice s.A s.n s.cap ∧ IntsAt W 0 s l
theorem IntsW.keep {v : Value} {W W' : World} {l : List Int} (h : IntsW v W l) (hb : Below W.heap.size W W') : IntsW v W' l := by
  obtain ⟨s, e, h⟩ := h
  exact ⟨s, e, h.below hb⟩
section
variable {P : Program} {ops : Array Oper} {Q : Exit → Act → World → Prop}
theorem region_invF {id : Nat} {a : Act} {w : World} (n first : Nat) (hn : ops.size = n) (hm : P.follows .mixedOrders = true) (hb : backB .any ops = true) (Φ : Nat → Value → World → Prop) (fr : (Nat → Value) → Act) (hfr : ∀ f, frOf a first n f = fr f) (hsz : first + n ≤ a.tmps.size)
    (hst : ∀ j v W W', Φ j v W → Below W.heap.size W W' → Φ j v W')
    (steps : AllSteps (StepOk P ops Q w.drew Φ fr) n)
    (done : ∀ f w', Below w.drew.heap.size w.drew w' → (∀ j, j < n → Φ j (f j) w') → Q .normal (fr f) w') : (Code.region id ops true).wp P Q a w :=
  region_inv n hn hm hb Φ fr (fun j => a.tmps.getD (first + j) undef) hst (by rw [← hfr, frOf_self a first n hsz]) steps done
end
end Go.Proofs.Bg
end

section
/- A region that draws its order, with one operation that waits for all before it and turns memory, a pure one and a store behind it. -/
namespace Go.Proofs.Bg
open Go.RowKit

theorem getF_up {l : Array Bool} {i j : Nat} (h : l.getD j false = true) : (l.setIfInBounds i true).getD j false = true := by
  by_cases hij : i = j
  · subst hij
    by_cases hb : i < l.size
    · simp [hb]
    · simp [hb] at h
  · simpa [Array.getElem?_setIfInBounds_ne hij] using h
theorem getF_self {l : Array Bool} {i : Nat} (h : i < l.size) : (l.setIfInBounds i true).getD i false = true := by simp [h]
theorem getF_of {l : Array Bool} {i j : Nat} (h : (l.setIfInBounds i true).getD j false = true) (hne : i ≠ j) : l.getD j false = true := by
  rcases getF_set h with e | h
  · exact absurd e hne
  · exact h
section
variable {P : Program} {ops : Array Oper} {Q : Exit → Act → World → Prop}
theorem region_pivot {id : Nat} {a : Act} {w : World} (p n first : Nat) (hn : ops.size = n) (hpn : n = p + 3) (hm : P.follows .mixedOrders = true) (hb : backB .any ops = true)
    (w1 : waits ops (p + 2) p = true) (w2 : waits ops (p + 2) (p + 1) = true)
    (hdown : ∀ l : Array Bool, (∀ i j, i < n → l.getD i false = true → waits ops i j = true → l.getD j false = true) → (∀ j, waits ops p j = true → l.getD j false = true) → ∀ j, j < p → l.getD j false = true)
    (Φ : Nat → Value → World → Prop) (c : Value) (Ψ Ω : (Nat → Value) → World → Prop) (fr : (Nat → Value) → Act) (hfr : ∀ f, frOf a first (p + 2) f = fr f) (hsz : first + (p + 2) ≤ a.tmps.size)
    (hst : ∀ j v W W', Φ j v W → Below W.heap.size W W' → Φ j v W')
    (steps : AllSteps (StepOk P ops Q w.drew Φ fr) p)
    (pivot : ∀ (f : Nat → Value) (W : World) (K : Act → World → Prop), Below w.drew.heap.size w.drew W → (∀ j, j < p → Φ j (f j) W) → (∀ v w', Ψ (upd f p v) w' → K (fr (upd f p v)) w') → wpOp P ops Q p K (fr f) W)
    (mid : ∀ (f : Nat → Value) (W : World) (K : Act → World → Prop), K (fr (upd f (p + 1) c)) W → wpOp P ops Q (p + 1) K (fr f) W)
    (hΨ : ∀ (f : Nat → Value) W, Ψ f W → Ψ (upd f (p + 1) c) W)
    (last : ∀ (f : Nat → Value) (W : World) (K : Act → World → Prop), Ψ f W → f (p + 1) = c → (∀ w', Ω f w' → K (fr f) w') → wpOp P ops Q (p + 2) K (fr f) W)
    (done : ∀ f w', Ω f w' → Q .normal (fr f) w') : (Code.region id ops true).wp P Q a w := by
  refine wp_region_any hm ?_
  subst hn
  refine wpAny_inv hb (fun l a' w' => l.size = ops.size ∧ (∀ i j, i < ops.size → l.getD i false = true → waits ops i j = true → l.getD j false = true) ∧ ∃ f, a' = fr f ∧ (l.getD (p + 1) false = true → f (p + 1) = c) ∧ (l.getD p false = false → Below w.drew.heap.size w.drew w' ∧ ∀ j, j < p → l.getD j false = true → Φ j (f j) w') ∧ (l.getD p false = true → l.getD (p + 2) false = false → Ψ f w') ∧ (l.getD (p + 2) false = true → Ω f w')) ?_ ?_ ops.size _ a _ (by simp) ?_ ⟨by simp, fun i j hi hl => ?_, fun j => a.tmps.getD (first + j) undef, (by rw [← hfr, frOf_self a first _ hsz]), fun hl => ?_, fun _ => ⟨Below.refl _ _, fun j _ hl => ?_⟩, fun hl => ?_, fun hl => ?_⟩
  · rintro i hi l a' w' hr ⟨hs, hc, f, rfl, h1, h2, h3, h4⟩
    obtain ⟨-, hnl, hrd⟩ := ready_mem hr
    have hnl' : l.getD i false = false := by
      have hil : i < l.size := by omega
      simp [hil] at hnl ⊢
      exact hnl
    have haw : ∀ j, waits ops i j = true → l.getD j false = true := fun j hj => by
      unfold waits at hj
      rw [Array.getElem?_eq_getElem hi] at hj hrd
      simp only [Option.map_some, Option.getD_some] at hj hrd
      rw [Array.any_eq_true] at hj
      obtain ⟨k, hk, he⟩ := hj
      rw [Array.all_eq_true] at hrd
      have h5 := hrd k hk
      rw [Bool.and_eq_true] at he
      rw [he.1] at h5
      have e : ops[i].after[k].on = j := by simpa using he.2
      rw [← e]
      simpa using h5
    have hc' : ∀ i' j, i' < ops.size → (l.setIfInBounds i true).getD i' false = true → waits ops i' j = true → (l.setIfInBounds i true).getD j false = true := fun i' j hi' hl hw => by
      rcases getF_set hl with e | hl
      · subst e; exact getF_up (haw j hw)
      · exact getF_up (hc i' j hi' hl hw)
    have hs' : (l.setIfInBounds i true).size = ops.size := by simp [hs]
    have hp2 : l.getD (p + 2) false = true → l.getD p false = true := fun h => hc (p + 2) p (by omega) h w1
    have hp3 : l.getD (p + 2) false = true → l.getD (p + 1) false = true := fun h => hc (p + 2) (p + 1) (by omega) h w2
    have hset : ∀ {j}, i ≠ j → (l.setIfInBounds i true).getD j false = l.getD j false := fun {j} hne => by simp [Array.getElem?_setIfInBounds_ne hne]
    rcases Nat.lt_trichotomy i p with hip | hip | hip
    · have hlp : l.getD p false = false := by
        cases hh : l.getD p false with
        | false => rfl
        | true =>
          have := hdown l hc (fun j hj => hc p j (by omega) hh hj) i hip
          rw [this] at hnl'; cases hnl'
      obtain ⟨hB, hΦ⟩ := h2 hlp
      refine AllSteps.at_ steps i hip f w' _ hB (fun j hj => ?_) (fun v w3 hb3 hv => ⟨hs', hc', upd f i v, rfl, fun hl => ?_, fun _ => ⟨bchain hB hb3, fun j hj hl => ?_⟩, fun hl => ?_, fun hl => ?_⟩)
      · have hj' := haw j hj
        have : j < p := by
          rcases Nat.lt_or_ge j p with h | h
          · exact h
          · exfalso
            have hbk := List.all_eq_true.1 hb i (List.mem_range.2 hi)
            unfold waits at hj
            rw [Array.getElem?_eq_getElem hi] at hj hbk
            simp only [Option.map_some, Option.getD_some] at hj hbk
            rw [Array.any_eq_true] at hj
            obtain ⟨k, hk, he⟩ := hj
            rw [Array.all_eq_true] at hbk
            have h5 := hbk k hk
            rw [Bool.and_eq_true] at he
            rw [he.1] at h5
            have e : ops[i].after[k].on = j := by simpa using he.2
            rw [e] at h5
            have : j < i := by simpa using h5
            omega
        exact hΦ j this hj'
      · rw [hset (by omega)] at hl
        show (if p + 1 = i then v else f (p + 1)) = c
        rw [if_neg (by omega)]
        exact h1 hl
      · rcases getF_set hl with rfl | hl
        · show Φ i (if i = i then v else f i) w3
          rw [if_pos rfl]; exact hv
        · by_cases e : j = i
          · subst e
            show Φ j (if j = j then v else f j) w3
            rw [if_pos rfl]; exact hv
          · show Φ j (if j = i then v else f j) w3
            rw [if_neg e]
            exact hst _ _ _ _ (hΦ j hj hl) hb3
      · rw [hset (by omega), hlp] at hl
        cases hl
      · rw [hset (by omega)] at hl
        have := hp2 hl
        rw [hlp] at this; cases this
    · subst hip
      have hall := hdown l hc haw
      obtain ⟨hB, hΦ⟩ := h2 hnl'
      refine pivot f w' _ hB (fun j hj => hΦ j hj (hall j hj)) (fun v w3 hv => ⟨hs', hc', upd f i v, rfl, fun hl => ?_, fun hl => ?_, fun _ _ => hv, fun hl => ?_⟩)
      · rw [hset (by omega)] at hl
        show (if i + 1 = i then v else f (i + 1)) = c
        rw [if_neg (by omega)]
        exact h1 hl
      · rw [getF_self (by omega)] at hl
        cases hl
      · rw [hset (by omega)] at hl
        have := hp2 hl
        rw [hnl'] at this; cases this
    · rcases Nat.lt_or_ge i (p + 2) with hi2 | hi2
      · obtain rfl : i = p + 1 := by omega
        refine mid f w' _ ⟨hs', hc', upd f (p + 1) c, rfl, fun _ => by show (if p + 1 = p + 1 then c else f (p + 1)) = c; rw [if_pos rfl], fun hl => ?_, fun hl hl2 => ?_, fun hl => ?_⟩
        · rw [hset (by omega)] at hl
          obtain ⟨hB, hΦ⟩ := h2 hl
          refine ⟨hB, fun j hj hlj => ?_⟩
          rw [hset (by omega)] at hlj
          show Φ j (if j = p + 1 then c else f j) w'
          rw [if_neg (by omega)]
          exact hΦ j hj hlj
        · rw [hset (by omega)] at hl hl2
          exact hΨ f w' (h3 hl hl2)
        · rw [hset (by omega)] at hl
          have := hp3 hl
          rw [hnl'] at this; cases this
      · obtain rfl : i = p + 2 := by omega
        refine last f w' _ (h3 (haw p w1) hnl') (h1 (haw (p + 1) w2)) (fun w3 hv => ⟨hs', hc', f, rfl, fun hl => ?_, fun hl => ?_, fun _ hl => ?_, fun _ => hv⟩)
        · rw [hset (by omega)] at hl
          exact h1 hl
        · rw [hset (by omega), haw p w1] at hl
          cases hl
        · rw [getF_self (by omega)] at hl
          cases hl
  · rintro l a' w' hl ⟨-, -, f, rfl, -, -, -, h4⟩
    exact done f w' (h4 (hl (p + 2) (by omega)))
  · have : ∀ n l, cntF n l ≤ n := by
      intro n l
      induction n with
      | zero => exact Nat.le_refl _
      | succ n ih => rw [cntF]; split <;> omega
    exact this _ _
  all_goals
    exfalso
    rw [Array.getD_eq_getD_getElem?, Array.getElem?_replicate] at hl
    split at hl <;> simp at hl
end
end Go.Proofs.Bg
end

section
/- The deferred function that catches a join that became too long. -/
namespace Go.Proofs.Bg
open Go.RowKit

def longChain : List PanicEntry := [{ v := .iface 177 (.agg #[]), recovered := false }]
/-- What joined leaves. -/
def JoinOut (w : World) (p : Option PT) (e : Ending) (w' : World) : Prop :=
  Below w.heap.size w w' ∧ match p with
  | some T => ∃ t : Tb, e = .returned (.agg #[.slice t.cols.A t.cols.n t.cols.cap, .slice t.rows.A t.rows.n t.rows.cap]) ∧ OwnTab w.heap.size w' t T
  | none => e = .panicked longChain
def longTaken : List PanicEntry := [{ v := .iface 177 (.agg #[]), recovered := true }]

set_option maxRecDepth 100000 in
theorem catch_long (eb : Nat) (v1 : Value) (w : World) (he : w.heap[eb]? = some (.cells #[v1] 26)) :
    CallsD Tryz.prog 104 #[.pointer (some ⟨eb, 0, none⟩)] (.panicking longChain) w fun e u' w' =>
      e = .returned (.tuple #[]) ∧ u' = .panicking longTaken ∧ w' = (w.alloc (.cells #[] 177)).setCell ⟨eb, 0, none⟩ (.int .i64 3) := by
  have he' : (w.alloc (.cells #[] 177)).heap[eb]? = some (.cells #[v1] 26) := by
    rw [Below.heap_alloc _ _ _ (Array.getElem?_eq_some_iff.1 he).1]; exact he
  have c1 := cell_at_block (off := 0) he' rfl
  have f1 := free_at_block (off := 0) he'
  clear he he'
  refine callsD_of_wpS Tryz.func104 rfl fun c₀ cs hu => ?_
  apply wpS_seq
  apply wpS_region
  simp [wpOpsS, go_sem, recoverD, hu, Tryz.ntmps104, Exit.thenS, longChain]
  refine wpS_of_wp ?_
  have hta : ∀ w, (Instr.typeAssert (.iface 177 (.agg #[])) 20 177 true).run Tryz.prog w = .ok (.tuple #[.agg #[], .bool true]) w := fun _ => by kernel_rfl
  simp only [Array.replicate_succ, Array.replicate_zero, List.push_toArray, List.append_toArray, List.nil_append, List.cons_append, List.setIfInBounds_toArray, List.set_cons_zero, List.set_cons_succ]
  go_wp2
  simp [bodyPostS, results, Tryz.results104, longTaken]

theorem catch_ok (eb : Nat) (w : World) :
    CallsD Tryz.prog 104 #[.pointer (some ⟨eb, 0, none⟩)] .returning w fun e u' w' => e = .returned (.tuple #[]) ∧ u' = .returning ∧ w' = w := by
  refine callsD_of_wpS Tryz.func104 rfl fun c₀ cs hu => ?_
  apply wpS_seq
  apply wpS_region
  simp [wpOpsS, go_sem, recoverD, hu, Tryz.ntmps104, Exit.thenS]
  refine wpS_of_wp ?_
  simp only [Array.replicate_succ, Array.replicate_zero, List.push_toArray, List.append_toArray, List.nil_append, List.cons_append, List.setIfInBounds_toArray, List.set_cons_zero, List.set_cons_succ]
  go_wp2
  cases c₀
  simp_all [bodyPostS, results, Tryz.results104]
end Go.Proofs.Bg
end

section
/- Contract: joined. -/
namespace Go.Proofs.Bg
open Go.RowKit

theorem alloc_below {B : Nat} {w W : World} (h : Below B w W) (hB : B ≤ W.heap.size) (o : Obj) : Below B w (W.alloc o) := h.alloc hB o

theorem own_ne_map {w : World} {base r : Nat} {v : Value} {l : List V8} {kv : List (V8 × Sl)} (h : OwnV base w v l) (hm : MapP w r kv) : some r ≠ v.ownBlock := fun e => by
  rcases h.2 with ⟨e', _⟩ | ⟨g', cap, cur, e', _, hb, _⟩
  · rw [e'] at e; cases e
  · rw [e'] at e
    have : r = g' := Option.some.inj e
    subst this
    obtain ⟨_, es, clock, hb2, _⟩ := hm
    rw [hb] at hb2
    cases hb2
theorem Own.shapeN {α : Type} {enc : α → List Value} {sz : Nat} {e : TypeId} {base : Nat} {w : World} {v : Value} {l : List α} (h : Own enc sz e base w v l) : ∃ A n cap, v = .slice A n cap := by
  obtain ⟨A, cap, rfl⟩ := h.shape
  exact ⟨A, _, cap, rfl⟩
theorem add_off (b j : Nat) : (⟨b, 0, none⟩ : Addr).add j = ⟨b, j, none⟩ := by unfold Addr.add; split <;> simp_all
theorem news_kept {W W' : World} {b r : Nat} {xs : List Value} (hn : ∀ j u, xs[j]? = some u → W.cell? ((⟨b, 0, none⟩ : Addr).add j) = some u) (hg : W.grownBy W' (some r)) (hne : b ≠ r) : ∀ j u, xs[j]? = some u → W'.cell? ((⟨b, 0, none⟩ : Addr).add j) = some u := fun j u h => by
  have h1 := hn j u h
  rw [add_off] at h1 ⊢
  exact (World.cell?_of_block (hg.block b (World.block_lt_of_cell? W _ h1) (fun e => hne (Option.some.inj e)))).trans h1

/-- One row more; the list of headers in hand. -/
theorem JOut.push2 {W1 wr w2 w4 : World} {g : Nat} {cv rv rw4 s : Sl} {cols : List Int} {rows : List (List Int)} {r : List Int} {ss : List Sl} (h : JOut W1 wr g cv rv cols rows) (hb : Below wr.heap.size wr w2) (hr : Own iv 1 3 W1.heap.size w2 s.v r) {o : Obj}
    (q1' : Own Sl.vs 1 32 W1.heap.size wr rv.v ss) (q2' : All2 (fun s r => Own iv 1 3 W1.heap.size wr s.v r) ss rows) (o4 : Own Sl.vs 1 32 W1.heap.size w4 rw4.v (ss ++ [s])) (hg4 : (w2.alloc o).grownBy w4 rv.v.ownBlock) :
    JOut W1 (w4.setCell ⟨g, 1, none⟩ (.slice rw4.A rw4.n rw4.cap)) g cv rw4 cols (rows ++ [r]) ∧ w4.grownBy (w4.setCell ⟨g, 1, none⟩ (.slice rw4.A rw4.n rw4.cap)) (some g) := by
  have h2 := (h.below hb).below (below_new w2 o)
  have q1 := (q1'.below hb).alloc o
  have q2 : All2 (fun s r => Own iv 1 3 W1.heap.size (w2.alloc o) s.v r) ss rows := q2'.mono fun x y hh => (hh.below hb).alloc o
  have hne : some g ≠ rv.v.ownBlock := fun e => by
    rcases q1.2 with ⟨e', _⟩ | ⟨g', cap, cur, e', _, hb2, _⟩
    · rw [e'] at e; cases e
    · rw [e'] at e
      have : g = g' := Option.some.inj e
      subst this
      have := hb2.symm.trans h2.box
      simp at this
  have hbox4 := (hg4.block g h2.lt hne).trans h2.box
  obtain ⟨b1, b2⟩ := setCell_at (off := 1) hbox4 (.slice rw4.A rw4.n rw4.cap)
  have hown : ∀ {s : Sl} {r : List Int}, Own iv 1 3 W1.heap.size (w2.alloc o) s.v r → Own iv 1 3 W1.heap.size w4 s.v r := fun hh => hh.grown hg4 (own_ne hh q1 (by decide))
  exact ⟨{
    b := below_row (below_row h2.b hg4 (fun j e => (q1.blk j e).1)) b2 (fun j e => by cases e; exact h.hg)
    box := b1
    hg := h.hg
    cols := (h2.cols.grown hg4 (own_ne h2.cols q1 (by decide))).grownT b2 hbox4 (by decide)
    rows := ⟨_, o4.grownT b2 hbox4 (by decide), (All2.snoc (q2.mono fun x y hh => hown hh) (hown (hr.alloc o))).mono fun x y hh => hh.grownT b2 hbox4 (by decide)⟩ }, b2⟩

/-- .. where the world ahead of the append is any. -/
theorem JOut.push3 {W1 wr w2 w4 : World} {g : Nat} {cv rv rw4 s : Sl} {cols : List Int} {rows : List (List Int)} {r : List Int} {ss : List Sl} (h : JOut W1 wr g cv rv cols rows) (hb : Below wr.heap.size wr w2) (hr : Own iv 1 3 W1.heap.size w2 s.v r)
    (q1' : Own Sl.vs 1 32 W1.heap.size wr rv.v ss) (q2' : All2 (fun s r => Own iv 1 3 W1.heap.size wr s.v r) ss rows) (o4 : Own Sl.vs 1 32 W1.heap.size w4 rw4.v (ss ++ [s])) (hg4 : w2.grownBy w4 rv.v.ownBlock) :
    JOut W1 (w4.setCell ⟨g, 1, none⟩ (.slice rw4.A rw4.n rw4.cap)) g cv rw4 cols (rows ++ [r]) ∧ w4.grownBy (w4.setCell ⟨g, 1, none⟩ (.slice rw4.A rw4.n rw4.cap)) (some g) := by
  have h2 := h.below hb
  have q1 := q1'.below hb
  have q2 : All2 (fun s r => Own iv 1 3 W1.heap.size w2 s.v r) ss rows := q2'.mono fun x y hh => hh.below hb
  have hne : some g ≠ rv.v.ownBlock := fun e => by
    rcases q1.2 with ⟨e', _⟩ | ⟨g', cap, cur, e', _, hb2, _⟩
    · rw [e'] at e; cases e
    · rw [e'] at e
      have : g = g' := Option.some.inj e
      subst this
      have := hb2.symm.trans h2.box
      simp at this
  have hbox4 := (hg4.block g h2.lt hne).trans h2.box
  obtain ⟨b1, b2⟩ := setCell_at (off := 1) hbox4 (.slice rw4.A rw4.n rw4.cap)
  have hown : ∀ {s : Sl} {r : List Int}, Own iv 1 3 W1.heap.size w2 s.v r → Own iv 1 3 W1.heap.size w4 s.v r := fun hh => hh.grown hg4 (own_ne hh q1 (by decide))
  exact ⟨{
    b := below_row (below_row h2.b hg4 (fun j e => (q1.blk j e).1)) b2 (fun j e => by cases e; exact h.hg)
    box := b1
    hg := h.hg
    cols := (h2.cols.grown hg4 (own_ne h2.cols q1 (by decide))).grownT b2 hbox4 (by decide)
    rows := ⟨_, o4.grownT b2 hbox4 (by decide), (All2.snoc (q2.mono fun x y hh => hown hh) (hown hr)).mono fun x y hh => hh.grownT b2 hbox4 (by decide)⟩ }, b2⟩

/-- A row that a step has made; its header in a block. -/
def RowV (base : Nat) (v : Value) (W : World) (l : List Int) : Prop := ∃ s : Sl, v = .slice s.A s.n s.cap ∧ Own iv 1 3 base W s.v l
theorem RowV.keep {base : Nat} {v : Value} {W W' : World} {l : List Int} (h : RowV base v W l) (hb : Below W.heap.size W W') : RowV base v W' l := by
  obtain ⟨s, e, h⟩ := h
  exact ⟨s, e, h.below hb⟩
def BlkV (base : Nat) (v : Value) (W : World) (l : List Int) : Prop := ∃ (g : Nat) (s : Sl), v = .slice (some ⟨g, 0, none⟩) 1 1 ∧ W.heap[g]? = some (.cells #[.slice s.A s.n s.cap] 32) ∧ Own iv 1 3 base W s.v l
theorem BlkV.keep {base : Nat} {v : Value} {W W' : World} {l : List Int} (h : BlkV base v W l) (hb : Below W.heap.size W W') : BlkV base v W' l := by
  obtain ⟨g, s, e, h1, h2⟩ := h
  exact ⟨g, s, e, (hb.block g (Array.getElem?_eq_some_iff.1 h1).1).trans h1, h2.below hb⟩

set_option maxRecDepth 100000 in
set_option maxHeartbeats 2000000 in
theorem joined_any (cA rA cB rB : Option Addr) (cn rn ck rk dn sn dk sk : Nat) (A B : PT) (w : World) (ha : TabAt w 0 ⟨⟨cA, cn, ck⟩, ⟨rA, rn, rk⟩⟩ A) (hb : TabAt w 0 ⟨⟨cB, dn, dk⟩, ⟨rB, sn, sk⟩⟩ B) (fa : Formed A) (fb : Formed B) :
    Calls Tryz.prog 105 #[.agg #[.slice cA cn ck, .slice rA rn rk], .agg #[.slice cB dn dk, .slice rB sn sk]] w (JoinOut w (joinB A B)) := by
  have FA := Lib.hid fa
  have FB := Lib.hid fb
  have HCL : Hid (A.cols.length = cn) := ha.1.len
  have HDL : Hid (B.cols.length = dn) := hb.1.len
  have HRL : Hid (A.rows.length = rn) := ha.2.len
  have HSL : Hid (B.rows.length = sn) := hb.2.len
  have hrn : rn ≤ 500 := by rw [← HRL.out]; exact fa.most
  have hsn : sn ≤ 500 := by rw [← HSL.out]; exact fb.most
  have hcn : cn ≤ 8 := by rw [← HCL.out]; exact fa.ncols
  have hdn : dn ≤ 8 := by rw [← HDL.out]; exact fb.ncols
  generalize hW0 : ((w.alloc (.cells #[.slice cA cn ck, .slice rA rn rk] 40)).alloc (.cells #[.slice cB dn dk, .slice rB sn sk] 40)).alloc (.cells #[.slice none 0 0, .slice none 0 0] 40) = W0
  have HW0 := Lib.hid hW0
  have hB0 : Below w.heap.size w W0 := by
    rw [← hW0]
    exact ((below_new w _).alloc (by simp) _).alloc (by simp; omega) _
  have hsz0 : W0.heap.size = w.heap.size + 3 := by rw [← hW0]; simp
  have hb0 : W0.heap[w.heap.size]? = some (.cells #[.slice cA cn ck, .slice rA rn rk] 40) := by
    rw [← hW0, Below.heap_alloc _ _ _ (by simp; omega), Below.heap_alloc _ _ _ (by simp)]
    exact new_block _ _ _
  have hb1 : W0.heap[w.heap.size + 1]? = some (.cells #[.slice cB dn dk, .slice rB sn sk] 40) := by
    rw [← hW0, Below.heap_alloc _ _ _ (by simp)]
    have := new_block (w.alloc (.cells #[.slice cA cn ck, .slice rA rn rk] 40)) #[.slice cB dn dk, .slice rB sn sk] 40
    simpa using this
  have hb2 : W0.heap[w.heap.size + 2]? = some (.cells #[.slice none 0 0, .slice none 0 0] 40) := by
    rw [← hW0]
    have := new_block ((w.alloc (.cells #[.slice cA cn ck, .slice rA rn rk] 40)).alloc (.cells #[.slice cB dn dk, .slice rB sn sk] 40)) #[.slice none 0 0, .slice none 0 0] 40
    simpa using this
  have H0 := Lib.hid hb0
  have H1 := Lib.hid hb1
  have H2 := Lib.hid hb2
  have HB0 := Lib.hid hB0
  have HSZ := Lib.hid hsz0
  have HA := Lib.hid (ha.below hB0)
  have HBB := Lib.hid (hb.below hB0)
  have hxa := fa.bits
  have hxb := fb.bits
  have QA := Lib.hid (fun n => bitsOf_any cA cn ck A.cols (W0.drewN n) (HA.out.1.below (below_drewN (Below.refl _ _) n)) fa.cols)
  have QB := Lib.hid (fun n => bitsOf_any cB dn dk B.cols (W0.drewN n) (HBB.out.1.below (below_drewN (Below.refl _ _) n)) fb.cols)
  have c00 := cell_at_block (off := 0) hb0 rfl
  have c01 := cell_at_block (off := 1) hb0 rfl
  have c10 := cell_at_block (off := 0) hb1 rfl
  have c11 := cell_at_block (off := 1) hb1 rfl
  generalize hXA : bitsN A.cols = xa at *
  generalize hXB : bitsN B.cols = xb at *
  have HXA := Lib.hid hXA
  have HXB := Lib.hid hXB
  clear ha hb fa fb hW0 hB0 hsz0 hb0 hb1 hb2 hXA hXB
  go_enter Tryz.func105, Tryz.ntmps105
  go_wp2_with fail
  rw [HW0.out]
  go_quiet (first | (go_at_call 92; first | (with_reducible exact Calls.quiet_of_same (QA.out _)) | (with_reducible exact Calls.quiet_of_same (QB.out _))))
  clear c00 c10
  have hmm := @run_makeMap Tryz.prog
  have hbm : Below W0.heap.size W0 ((W0.drewN nq).alloc (.map #[] 0)) := (below_drewN (Below.refl _ _) nq).alloc (Nat.le_refl _) _
  have c11' := cell_at_block (off := 1) ((hbm.block _ (by rw [HSZ.out]; omega)).trans H1.out) rfl
  go_wp2_with fail
  clear hmm c11' hbm
  go_loopw [31] (fun i wr => ∃ k : Nat, k ≤ sn ∧ i = .int .i64 k ∧ PMap B xa W0.heap.size k wr W0.heap.size ∧ Below W0.heap.size W0 wr) (fun i _ => sn - (intOf i).toNat)
  case atStart => exact ⟨0, by omega, rfl, PMap.start B xa _ (W0.drewN nq), (below_drewN (Below.refl _ _) nq).alloc (Nat.le_refl _) _⟩
  case round =>
    obtain ⟨k, hk, rfl, hP, hB⟩ := hrel
    have HB := Lib.hid hB
    clear QA QB
    by_cases hlt : k < sn
    · obtain ⟨kv, hM, hO, hD⟩ := hP
      have hsz := hB.size
      obtain ⟨b1, o1, s, row, hbb, -, hr, e0, hR⟩ := ((HBB.out.below (Below.refl _ _)).2.below HB.out).at_ hlt
      simp only [] at hbb
      subst hbb
      have hmem := List.mem_of_getElem? hr
      have hrl : row.length = s.n := hR.len
      have hrow := FB.out.row row hmem
      have n0 := hB.block (w.heap.size + 1) (by rw [HSZ.out]; omega) |>.trans H1.out
      have n1 := cell_at_block (off := 1) n0 rfl
      have n2 := cell_at_block (off := 0) n0 rfl
      obtain ⟨v, hv⟩ : ∃ v, spreadV B.cols row = v := ⟨_, rfl⟩
      obtain ⟨key, hkey⟩ : ∃ key, onlyV v xa = key := ⟨_, rfl⟩
      have Q1 := Lib.hid (spread_lit cB (some ⟨b1, o1, none⟩) s.A dn sn s.n dk sk s.cap B.cols row wr v hv (HBB.out.1.below HB.out) hR FB.out.cols (by rw [← hrl, hrow.1, HDL.out]))
      have Q2 := Lib.hid (fun W => only_lit v xa W key hkey hxa)
      have hok : ∃ kl, keyOf Tryz.prog 142 key.v = some kl := keyV8 key (by rw [← hkey]; exact only_ok (by rw [← hv]; exact spread_ok FB.out hmem))
      obtain ⟨kl, hkl⟩ := hok
      have HM := Lib.hid hM
      have HO := Lib.hid hO
      have HD := Lib.hid hD
      have HV := Lib.hid hv
      have HK := Lib.hid hkey
      have HKL := Lib.hid hkl
      have HR := Lib.hid hr
      have hi1 : (k : Int) < sn := by omega
      clear hM hO hD hv hkey hkl hr hrow hrl hmem hR hB
      go_wp2_with fail
      (with_reducible refine Q1.out.mono ?_)
      rintro e w2 ⟨rfl, hb2⟩
      have HB2 := Lib.hid hb2
      clear hb2 Q1 n0 n1 n2
      go_wp2_with fail
      (with_reducible refine (Q2.out _).mono ?_)
      rintro e w3 ⟨rfl, hb3⟩
      have hB3 : Below wr.heap.size wr w3 := bchain (bchain HB2.out (below_new w2 _)) hb3
      have h8 := (((H8.new w2 v).keep hb3).alloc (.cells #[.int .i64 key.a0, .int .i64 key.a1, .int .i64 key.a2, .int .i64 key.a3, .int .i64 key.a4, .int .i64 key.a5, .int .i64 key.a6, .int .i64 key.a7] 142))
      have hB4 : Below wr.heap.size wr (w3.alloc (.cells #[.int .i64 key.a0, .int .i64 key.a1, .int .i64 key.a2, .int .i64 key.a3, .int .i64 key.a4, .int .i64 key.a5, .int .i64 key.a6, .int .i64 key.a7] 142)) := bchain hB3 (below_new w3 _)
      have HB4 := Lib.hid hB4
      have HB6 := Lib.hid (bchain hB4 (below_new (w3.alloc (.cells #[.int .i64 key.a0, .int .i64 key.a1, .int .i64 key.a2, .int .i64 key.a3, .int .i64 key.a4, .int .i64 key.a5, .int .i64 key.a6, .int .i64 key.a7] 142)) (.cells #[.int .i64 v.a0, .int .i64 v.a1, .int .i64 v.a2, .int .i64 v.a3, .int .i64 v.a4, .int .i64 v.a5, .int .i64 v.a6, .int .i64 v.a7] 142)))
      obtain ⟨z0, z1, z2, z3, z4, z5, z6, z7⟩ := h8.cells
      clear h8 hB3 hB4 hb3 HB2 Q2
      obtain ⟨old, hold⟩ : ∃ old : Sl, (getKV kv key).getD ⟨none, 0, 0⟩ = old := ⟨_, rfl⟩
      have HOLD := Lib.hid hold
      have HOO := Lib.hid (HO.out key)
      rw [hold] at HOO
      have HNM := Lib.hid (own_ne_map HOO.out HM.out)
      have hrlt := HM.out.lt
      have hLl := partTo_length B xa key k
      clear hold
      go_wp2_with (first
        | (refine wpList_mapEntry_is rfl _ _ _ rfl lawV8 Tryz.underlying179 V8.v_inj zeroSl rfl (HM.out.below HB6.out) key rfl HKL.out (fun st w7 hM7 hg7 hs7 hst => ?_); rw [HOLD.out] at hM7 ⊢; change wpList _ _ _ _ (Act.put _ _ (Value.tuple #[Value.slice old.A old.n old.cap, Value.int .i64 ((st : Nat) : Int)])) _; have HM7 := Lib.hid hM7; have HG7 := Lib.hid hg7; have HS7 := Lib.hid hs7; have HST := Lib.hid hst; clear hM7 hg7 hs7 hst)
        | (at_builtin; go_loud (refine wpList_app1 V8.vs 8 142 _ 64 infoV rfl (by decide) rfl _ _ _ rfl Tryz.underlying180 W0.heap.size _ (partTo B xa key k) rfl ((HOO.out.below HB6.out).grownM HG7.out (HM.out.below HB6.out)) v _ _ rfl rfl (news_kept (newAt (w3.alloc (.cells #[.int .i64 key.a0, .int .i64 key.a1, .int .i64 key.a2, .int .i64 key.a3, .int .i64 key.a4, .int .i64 key.a5, .int .i64 key.a6, .int .i64 key.a7] 142)) _ _ _ (by simp)) HG7.out (by have := HB4.out.size; simp at this; omega)) (V8.one v) (by omega) (by unfold maxLen; omega) (by have := HS7.out; have := HB6.out.size; simp at *; omega) (fun v8 w8 hown8 hg8 hloc => ?_)); obtain ⟨A8, n8, c8, rfl⟩ := hown8.shapeN; obtain ⟨w9, hes, hM9, hg9, hs9⟩ := HST.out w8 ⟨A8, n8, c8⟩ (hg8.block _ HM7.out.lt HNM.out); have HO8 := Lib.hid hown8; have HG8 := Lib.hid hg8; have HLOC := Lib.hid hloc; have HES := Lib.hid hes; have HM9 := Lib.hid hM9; have HG9 := Lib.hid hg9; clear hown8 hg8 hloc hes hM9 hg9 hs9)
        | (refine wpList_entryStore_is rfl _ _ _ _ rfl rfl rfl rfl HES.out ?_))
      have hp9 : PMap B xa W0.heap.size (k + 1) w9 W0.heap.size := PMap.step (s' := ⟨A8, n8, c8⟩) HR.out HV.out HK.out HM.out HO.out HD.out HB6.out HG7.out ⟨_, HM7.out⟩ (by rw [HOLD.out]; exact HG8.out) HO8.out (by rw [HOLD.out]; exact HLOC.out) HG9.out HM9.out
      have h6 : Below W0.heap.size W0 _ := HB.out.trans (HB6.out.mono hsz)
      have h7 := h6.grown HG7.out h6.size (fun j e => by cases e; exact Nat.le_refl _)
      have h8 := h7.grown HG8.out h7.size (fun j e => (HOO.out.blk j e).1)
      have h9 := h8.grown HG9.out h8.size (fun j e => by cases e; exact Nat.le_refl _)
      exact ⟨⟨k + 1, by omega, by go_num, hp9, h9⟩, by simp [intOf]; omega⟩
    · have hk' : k = sn := by omega
      obtain ⟨wo, rfl⟩ : ∃ x, x = wr := ⟨_, rfl⟩
      have hPP : PMap B xa W0.heap.size B.rows.length wo W0.heap.size := by rw [HSL.out, ← hk']; exact hP
      obtain ⟨kv, hM, hO, -⟩ := hPP
      have HM := Lib.hid hM
      have HO := Lib.hid hO
      have hor := bor_nat (a := xa) (b := xb) (by omega) (by omega)
      have hu : xa ||| xb < 256 := Nat.or_lt_two_pow (n := 8) hxa hxb
      obtain ⟨cols, hcols⟩ : ∃ cols, colsN (xa ||| xb) = cols := ⟨_, rfl⟩
      have HCO := Lib.hid hcols
      have Q3 := Lib.hid (columnsOf_any (xa ||| xb) wo hu)
      rw [hcols] at Q3
      have HCB : Hid (∀ c ∈ cols, 0 ≤ c ∧ c < 8) := by
        show ∀ c ∈ cols, 0 ≤ c ∧ c < 8
        rw [← hcols]
        intro c hc
        obtain ⟨j, rfl, _, h2, _⟩ := mem_colsFrom.1 hc
        omega
      have hcl : cols.length ≤ 8 := by rw [← hcols]; exact colsFrom_length _ _ _
      have d1 : decide ((k : Int) < (sn : Int)) = false := by rw [decide_eq_false_iff_not]; omega
      have d2 : decide (k < sn) = false := by rw [decide_eq_false_iff_not]; omega
      generalize hxo : xa ||| xb = xo at *
      have HXO := Lib.hid hxo
      clear hxo
      clear hP hM hO hcols hlt hk' hB
      go_wp2_with fail
      (with_reducible refine Q3.out.mono ?_)
      rintro e w2 ⟨v12, rfl, hown2, hb2⟩
      obtain ⟨cA12, cn12, ck12, rfl⟩ := hown2.shapeN
      have hcn12 : cn12 = cols.length := hown2.len
      subst hcn12
      have hj0 : JOut wo (w2.alloc (.cells #[.slice cA12 cols.length ck12, .slice none 0 0] 40)) w2.heap.size ⟨cA12, cols.length, ck12⟩ ⟨none, 0, 0⟩ cols [] :=
        { b := bchain hb2 (below_new w2 _)
          box := new_block _ _ _
          hg := hb2.size
          cols := hown2.alloc _
          rows := ⟨[], Own.nil _ _ _ _ _, All2.nil _⟩ }
      have HJ0 := Lib.hid hj0
      have b0w := (HB.out.block w.heap.size (by rw [HSZ.out]; omega)).trans H0.out
      have b0z := (hj0.b.block w.heap.size (Array.getElem?_eq_some_iff.1 b0w).1).trans b0w
      have z0 := cell_at_block (off := 1) b0z rfl
      clear hj0 hb2 hown2 Q3 b0w b0z d1 d2
      obtain ⟨g12, hg12⟩ : ∃ g12, w2.heap.size = g12 := ⟨_, rfl⟩
      go_wp2_with fail
      rw [hg12] at HJ0
      clear hor hg12 z0
      go_loopw [58] (fun i wr => ∃ k2 : Nat, k2 ≤ rn ∧ i = .int .i64 k2 ∧ ∃ rv, JOut wo wr g12 ⟨cA12, cols.length, ck12⟩ rv cols ((A.rows.take k2).flatMap (rowJ A B)) ∧ ((A.rows.take k2).flatMap (rowJ A B)).length ≤ 500) (fun i _ => rn - (intOf i).toNat)
      case atStart => exact ⟨0, by omega, rfl, ⟨none, 0, 0⟩, by simpa using HJ0.out, by simp⟩
      case round =>
        clear HJ0
        obtain ⟨k2, hk2, rfl, rv, hJ, hl5⟩ := hrel
        have HJ := Lib.hid hJ
        by_cases hlt : k2 < rn
        · obtain ⟨b1, o1, s, row, hbb, -, hr, e0, hR⟩ := (((HA.out.below HB.out).below hJ.b).2).at_ hlt
          simp only [] at hbb
          subst hbb
          have hmem := List.mem_of_getElem? hr
          have hrl : row.length = s.n := hR.len
          have hrow := FA.out.row row hmem
          have n0 := (hJ.b.block w.heap.size (by have := HB.out.size; rw [HSZ.out] at this; omega)).trans ((HB.out.block w.heap.size (by rw [HSZ.out]; omega)).trans H0.out)
          have n1 := cell_at_block (off := 1) n0 rfl
          have n2 := cell_at_block (off := 0) n0 rfl
          obtain ⟨v, hv⟩ : ∃ v, spreadV A.cols row = v := ⟨_, rfl⟩
          obtain ⟨key, hkey⟩ : ∃ key, onlyV v xb = key := ⟨_, rfl⟩
          have Q1 := Lib.hid (spread_lit cA (some ⟨b1, o1, none⟩) s.A cn rn s.n ck rk s.cap A.cols row wr v hv ((HA.out.1.below HB.out).below hJ.b) hR FA.out.cols (by rw [← hrl, hrow.1, HCL.out]))
          have Q2 := Lib.hid (fun W => only_lit v xb W key hkey hxb)
          obtain ⟨kl, hkl⟩ : ∃ kl, keyOf Tryz.prog 142 key.v = some kl := keyV8 key (by rw [← hkey]; exact only_ok (by rw [← hv]; exact spread_ok FA.out hmem))
          have HKL := Lib.hid hkl
          obtain ⟨L, hL⟩ : ∃ L, partTo B xa key B.rows.length = L := ⟨_, rfl⟩
          have hRJ : rowJ A B row = L.map fun u => inV (mixV u v A.cols) cols := by
            unfold rowJ
            rw [HXA.out, HXB.out, hv, hkey, hL, HXO.out, HCO.out]
          have hPRE := flat_pre (B := B) hr
          have hTK := take_flat (B := B) hr
          rw [hRJ] at hPRE hTK
          obtain ⟨old, hold⟩ : ∃ old : Sl, (getKV kv key).getD ⟨none, 0, 0⟩ = old := ⟨_, rfl⟩
          have hOO := HO.out key
          rw [hold, hL] at hOO
          have hLl := partTo_length B xa key B.rows.length
          rw [hL, HSL.out] at hLl
          obtain ⟨oA, oN, oC⟩ := old
          have hoN : oN = L.length := hOO.len
          subst hoN
          have HOLD := Lib.hid hold
          have HOO := Lib.hid hOO
          have HPRE := Lib.hid hPRE
          have HTK := Lib.hid hTK
          generalize (A.rows.take k2).flatMap (rowJ A B) = pre at *
          have hi1 : (k2 : Int) < rn := by omega
          clear hJ hv hkey hkl hr hrow hrl hmem hR hold hOO hRJ hPRE hTK hL
          go_wp2_with fail
          (with_reducible refine Q1.out.mono ?_)
          rintro e w3 ⟨rfl, hb3⟩
          have HJ3 := Lib.hid (HJ.out.below hb3)
          clear hb3 Q1 n0 n1 n2 HJ
          go_wp2_with fail
          (with_reducible refine (Q2.out _).mono ?_)
          rintro e w4 ⟨rfl, hb4⟩
          have hJ4 := (HJ3.out.below (below_new w3 (.cells #[.int .i64 v.a0, .int .i64 v.a1, .int .i64 v.a2, .int .i64 v.a3, .int .i64 v.a4, .int .i64 v.a5, .int .i64 v.a6, .int .i64 v.a7] 142))).below hb4
          have h84 : H8 w4 w3.heap.size v := (H8.new w3 v).keep hb4
          have h15 : wo.heap.size ≤ w3.heap.size := HJ3.out.b.size
          obtain ⟨b15, hb15⟩ : ∃ b15, w3.heap.size = b15 := ⟨_, rfl⟩
          rw [hb15] at h84 h15
          have HJ4 := Lib.hid hJ4
          have H84 := Lib.hid h84
          have HM4 := Lib.hid (HM.out.below hJ4.b)
          clear hJ4 h84 hb4 HJ3 Q2
          rw [hb15]
          go_wp2_with (refine wpList_lookup_is rfl _ _ _ rfl lawV8 Tryz.underlying179 V8.v_inj zeroSl rfl HM4.out key rfl HKL.out ?_; rw [HOLD.out]; change wpList _ _ _ _ (Act.put _ _ (Value.slice oA L.length oC)) _)
          clear hb15
          go_loopw [71] (fun i wx => ∃ k3 : Nat, k3 ≤ L.length ∧ i = .int .i64 k3 ∧ ∃ rv, JOut wo wx g12 ⟨cA12, cols.length, ck12⟩ rv cols (pre ++ (L.take k3).map fun u => inV (mixV u v A.cols) cols) ∧ (pre ++ (L.take k3).map fun u => inV (mixV u v A.cols) cols).length ≤ 500 ∧ H8 wx b15 v) (fun i _ => L.length - (intOf i).toNat)
          case atStart => exact ⟨0, by omega, rfl, rv, by simpa using HJ4.out, by simpa using hl5, H84.out⟩
          case round =>
            clear HJ4 H84 HM4
            obtain ⟨k3, hk3, rfl, rv3, hJ, hl6, h8v⟩ := hrel
            obtain ⟨wx, rfl⟩ : ∃ x, x = wr := ⟨_, rfl⟩
            have HJX := Lib.hid hJ
            have H8V := Lib.hid h8v
            by_cases hlt3 : k3 < L.length
            · obtain ⟨g, u, rfl, hgb, hgl, -, hu3, hc, -⟩ := (HOO.out.below hJ.b).at_ V8.vs_length hlt3
              have c0 := hc 0 _ rfl
              have c1 := hc 1 _ rfl
              have c2 := hc 2 _ rfl
              have c3 := hc 3 _ rfl
              have c4 := hc 4 _ rfl
              have c5 := hc 5 _ rfl
              have c6 := hc 6 _ rfl
              have c7 := hc 7 _ rfl
              rw [Nat.add_zero] at c0
              have HT3 : Hid (pre ++ (L.take (k3 + 1)).map (fun u => inV (mixV u v A.cols) cols) = (pre ++ (L.take k3).map fun u => inV (mixV u v A.cols) cols) ++ [inV (mixV u v A.cols) cols]) := by
                show _ = _
                rw [List.take_add_one, hu3]
                simp
              have HD3 : Hid (∃ rest, joinRows A B = (pre ++ (L.take (k3 + 1)).map fun u => inV (mixV u v A.cols) cols) ++ rest) := by
                refine ⟨(L.drop (k3 + 1)).map (fun u => inV (mixV u v A.cols) cols) ++ (A.rows.drop (k2 + 1)).flatMap (rowJ A B), ?_⟩
                have e2 : L.map (fun u => inV (mixV u v A.cols) cols) = (L.take (k3 + 1)).map (fun u => inV (mixV u v A.cols) cols) ++ (L.drop (k3 + 1)).map (fun u => inV (mixV u v A.cols) cols) := by rw [← List.map_append, List.take_append_drop]
                rw [HPRE.out, e2]
                simp only [List.append_assoc]
              generalize hPP : (pre ++ (L.take k3).map fun u => inV (mixV u v A.cols) cols) = pre3 at *
              have hb5 : Below wx.heap.size wx ((wx.alloc (.cells #[.int .i64 u.a0, .int .i64 u.a1, .int .i64 u.a2, .int .i64 u.a3, .int .i64 u.a4, .int .i64 u.a5, .int .i64 u.a6, .int .i64 u.a7] 142)).alloc (.cells #[.int .i64 u.a0, .int .i64 u.a1, .int .i64 u.a2, .int .i64 u.a3, .int .i64 u.a4, .int .i64 u.a5, .int .i64 u.a6, .int .i64 u.a7] 142)) := (below_new wx _).alloc (by simp) _
              have hj5 := hJ.below hb5
              have n0 := (hj5.b.block w.heap.size (by have := HB.out.size; rw [HSZ.out] at this; omega)).trans ((HB.out.block w.heap.size (by rw [HSZ.out]; omega)).trans H0.out)
              have n2 := cell_at_block (off := 0) n0 rfl
              have h85 := h8v.keep hb5
              have h18 : H8 ((wx.alloc (.cells #[.int .i64 u.a0, .int .i64 u.a1, .int .i64 u.a2, .int .i64 u.a3, .int .i64 u.a4, .int .i64 u.a5, .int .i64 u.a6, .int .i64 u.a7] 142)).alloc (.cells #[.int .i64 u.a0, .int .i64 u.a1, .int .i64 u.a2, .int .i64 u.a3, .int .i64 u.a4, .int .i64 u.a5, .int .i64 u.a6, .int .i64 u.a7] 142)) (wx.heap.size + 1) u := by
                have := H8.new (wx.alloc (.cells #[.int .i64 u.a0, .int .i64 u.a1, .int .i64 u.a2, .int .i64 u.a3, .int .i64 u.a4, .int .i64 u.a5, .int .i64 u.a6, .int .i64 u.a7] 142)) u
                simpa using this
              have HJ5 := Lib.hid hj5
              have H85 := Lib.hid h85
              have H18 := Lib.hid h18
              have hb18 : wo.heap.size ≤ wx.heap.size + 1 := by have := hJ.b.size; omega
              have hi3 : (k3 : Int) < L.length := by omega
              have HR5 := Lib.hid ((HA.out.1.below HB.out).below hj5.b)
              have hne15 : b15 ≠ wx.heap.size + 1 := by have := h8v.lt; omega
              clear hj5 hb5 h85 h18 n0 hc hu3 hgl hgb hJ h8v
              go_wp2_with fail
              clear c0 c1 c2 c3 c4 c5 c6 c7 n2 HJX H8V
              generalize ((wx.alloc (.cells #[.int .i64 u.a0, .int .i64 u.a1, .int .i64 u.a2, .int .i64 u.a3, .int .i64 u.a4, .int .i64 u.a5, .int .i64 u.a6, .int .i64 u.a7] 142)).alloc (.cells #[.int .i64 u.a0, .int .i64 u.a1, .int .i64 u.a2, .int .i64 u.a3, .int .i64 u.a4, .int .i64 u.a5, .int .i64 u.a6, .int .i64 u.a7] 142)) = W5 at *
              obtain ⟨b18, hbb18⟩ : ∃ b18, wx.heap.size + 1 = b18 := ⟨_, rfl⟩
              rw [hbb18] at H18 hb18 hne15
              try rw [hbb18]
              go_loopw [79] (fun i wy => ∃ k4 : Nat, k4 ≤ cn ∧ i = .int .i64 k4 ∧ ∃ m, H8 wy b18 m ∧ mixV u v A.cols = mixV m v (A.cols.drop k4) ∧ W5.grownBy wy (some b18)) (fun i _ => cn - (intOf i).toNat)
              case atStart => exact ⟨0, by omega, rfl, u, H18.out, rfl, World.grownBy.refl _ _⟩
              case round =>
                obtain ⟨k4, hk4, rfl, m, h8m, hmix, hg5⟩ := hrel
                obtain ⟨wy, rfl⟩ : ∃ x, x = wr := ⟨_, rfl⟩
                have HMIX := Lib.hid hmix
                have HG5 := Lib.hid hg5
                have H8M := Lib.hid h8m
                have hj6 := HJ5.out.grown8 H18.out hg5 hb18
                have h86 := H85.out.grown hg5 (fun e => hne15 (Option.some.inj e))
                by_cases hlt4 : k4 < cn
                · obtain ⟨bb, oo, c, hcb, -, hcc, d0⟩ := ((HA.out.1.below HB.out).below hj6.b).at_ hlt4
                  simp only [] at hcb
                  subst hcb
                  have hm8 := FA.out.cols c (List.mem_of_getElem? hcc)
                  obtain ⟨j, rfl⟩ : ∃ j : Nat, c = (j : Int) := ⟨c.toNat, by omega⟩
                  have hj : j < 8 := by omega
                  have hj0 : (0 : Int) ≤ j := by omega
                  have hj8 : (j : Int) < 8 := by omega
                  have HMX : Hid (mixV u v A.cols = mixV (m.set j (v.get j)) v (A.cols.drop (k4 + 1))) := by
                    show _ = _
                    rw [HMIX.out, drop_at hcc, mixV, Int.toNat_natCast]
                  have e0 := h86.at_ hj
                  have e1 := h8m.at_ hj
                  have f1 := h8m.free j
                  have hi4 : (k4 : Int) < cn := by omega
                  clear hm8 hcc hj6 h86 h8m hmix hg5
                  go_wp2_with fail
                  obtain ⟨q1, q2⟩ := H8M.out.set hj (v.get j)
                  exact ⟨⟨k4 + 1, by omega, by go_num, m.set j (v.get j), q1, HMX.out, HG5.out.then_ q2 (fun _ e => .inr e)⟩, by simp [intOf]; omega⟩
                · have hk4' : k4 = cn := by omega
                  have hm : mixV u v A.cols = m := by
                    rw [HMIX.out, hk4', (List.drop_eq_nil_of_le (by rw [HCL.out]; exact Nat.le_refl _) : A.cols.drop cn = []), mixV]
                  rw [hm] at HT3
                  have HJ6 := Lib.hid hj6
                  have H86 := Lib.hid h86
                  have hk0 := JK.start hj6 h8m
                  have hlen3 : rv3.n = pre3.length := hj6.len
                  have HCY : ∀ W, Below wy.heap.size wy W → Rd iv 1 W 0 cA12 cols.length cols := fun W hW => ((hj6.cols.rdN iv_length).low (Nat.zero_le _)).below hW
                  have Q6 := Lib.hid (fun (W : World) (hW : Below wy.heap.size wy W) => in_any m cA12 cols.length ck12 cols W (HCY W hW) HCB.out (by omega))
                  have HK0 := Lib.hid hk0
                  have y0 := hk0.c0
                  have y1 := hk0.c1
                  have y2 := hk0.f1
                  obtain ⟨z0, z1, z2, z3, z4, z5, z6, z7⟩ := h8m.cells
                  obtain ⟨ss3, hr31, hr32⟩ := hj6.rows
                  have hag : some g12 ≠ (Value.slice rv3.A rv3.n rv3.cap).ownBlock := fun e => by
                    rcases hr31.2 with ⟨e', _⟩ | ⟨g', cap, cur, e', _, hb2, _⟩
                    · change Value.slice rv3.A rv3.n rv3.cap = _ at e'; rw [e'] at e; cases e
                    · change Value.slice rv3.A rv3.n rv3.cap = _ at e'
                      rw [e'] at e
                      have : g12 = g' := Option.some.inj e
                      subst this
                      have := hb2.symm.trans hj6.box
                      simp at this
                  have hak : some b18 ≠ (Value.slice rv3.A rv3.n rv3.cap).ownBlock := fun e => by
                    rcases hr31.2 with ⟨e', _⟩ | ⟨g', cap, cur, e', _, hb2, _⟩
                    · change Value.slice rv3.A rv3.n rv3.cap = _ at e'; rw [e'] at e; cases e
                    · change Value.slice rv3.A rv3.n rv3.cap = _ at e'
                      rw [e'] at e
                      have : b18 = g' := Option.some.inj e
                      subst this
                      have := hb2.symm.trans h8m
                      simp at this
                  have HSS := Lib.hid hr31
                  have HRR := Lib.hid hr32
                  have hak15 : some b15 ≠ (Value.slice rv3.A rv3.n rv3.cap).ownBlock := fun e => by
                    rcases hr31.2 with ⟨e', _⟩ | ⟨g', cap, cur, e', _, hb2, _⟩
                    · change Value.slice rv3.A rv3.n rv3.cap = _ at e'; rw [e'] at e; cases e
                    · change Value.slice rv3.A rv3.n rv3.cap = _ at e'
                      rw [e'] at e
                      have : b15 = g' := Option.some.inj e
                      subst this
                      have := hb2.symm.trans h86
                      simp at this
                  have hb15g : g12 ≠ b15 := fun e => by subst e; have := h86.symm.trans hj6.box; simp at this
                  have hb18g : b18 ≠ g12 := fun e => by subst e; have := h8m.symm.trans hj6.box; simp at this
                  have hb18g' : g12 ≠ b18 := fun e => hb18g e.symm
                  have hssl : ss3.length = pre3.length := hr32.1
                  have hrvn : rv3.n = ss3.length := hr31.len
                  have hglt := hj6.lt
                  have hblt := h8m.lt
                  have hwob := hj6.b.size
                  obtain ⟨i0, hi0, hz0, hz1, hz2⟩ := info_parts infoSl
                  obtain ⟨rvA, rvN, rvC⟩ := rv3
                  simp only [] at hrvn hag hak hak15 y1 hlen3
                  subst hrvn
                  have HSSL := Lib.hid hssl
                  have hs500 : ss3.length ≤ 500 := by omega
                  clear hssl hlen3
                  clear hj6 h86 hk0 h8m hmix hg5 hlt4 HMIX hm HCY hr31 hr32 c11 hxa hxb hdn hi1 hi3
                  go_upto_region 24 with fail
                  clear hk4' hk4
                  go_cut [] (fun wz => ∃ rv4 : Sl, JOut wo wz g12 ⟨cA12, cols.length, ck12⟩ rv4 cols (pre3 ++ [inV m cols]) ∧ H8 wz b15 v)
                  case first =>
                    (try clear FA); (try clear FB); (try clear HCL); (try clear HDL); (try clear HRL); (try clear HSL); (try clear HW0); (try clear H0); (try clear H1); (try clear H2); (try clear HB0); (try clear HSZ); (try clear HXA); (try clear HXB); (try clear HB); (try clear HM); (try clear HO); (try clear HCO); (try clear HXO); (try clear HCB); (try clear HKL); (try clear HOLD); (try clear HOO); (try clear HPRE); (try clear HTK); (try clear HT3); (try clear HD3); (try clear HJ5); (try clear H85); (try clear H18); (try clear HR5); (try clear HG5); (try clear hrn); (try clear hcn); (try clear hcl); (try clear hl5); (try clear hl6); (try clear hk2); (try clear hk3); (try clear h15); (try clear hb18); (try clear hne15); (try clear hu); (try clear hLl); (try clear hlt3); (try clear hlt); (try clear HA); (try clear HBB); (try clear hk); (try clear hk1)
                    have HF : Hid (∀ W, Below wy.heap.size wy W → W.cell? ⟨g12, 0, none⟩ = some (.slice cA12 cols.length ck12) ∧ W.cell? ⟨g12, 1, none⟩ = some (.slice rvA ss3.length rvC) ∧ W.cell? ⟨b18, 0, none⟩ = some (.int .i64 m.a0) ∧ W.cell? ⟨b18, 1, none⟩ = some (.int .i64 m.a1) ∧ W.cell? ⟨b18, 2, none⟩ = some (.int .i64 m.a2) ∧ W.cell? ⟨b18, 3, none⟩ = some (.int .i64 m.a3) ∧ W.cell? ⟨b18, 4, none⟩ = some (.int .i64 m.a4) ∧ W.cell? ⟨b18, 5, none⟩ = some (.int .i64 m.a5) ∧ W.cell? ⟨b18, 6, none⟩ = some (.int .i64 m.a6) ∧ W.cell? ⟨b18, 7, none⟩ = some (.int .i64 m.a7)) := by
                      show ∀ W, _
                      intro W hb
                      have kk : ∀ {a : Addr} {v : Value}, wy.cell? a = some v → W.cell? a = some v := fun h => (hb.cell (World.block_lt_of_cell? _ _ h)).trans h
                      exact ⟨kk y0, kk y1, kk z0, kk z1, kk z2, kk z3, kk z4, kk z5, kk z6, kk z7⟩
                    have y2f := Lib.hid y2
                    clear y0 y1 y2 z0 z1 z2 z3 z4 z5 z6 z7
                    refine region_pivot 7 10 89 rfl rfl (by kernel_rfl) (by kernel_rfl) (by kernel_rfl) (by kernel_rfl) ?hdown (fun j v W => match j with | 0 => v = .pointer (some ⟨g12, 1, none⟩) | 1 => v = .slice rvA ss3.length rvC | 2 => v = .agg #[.int .i64 m.a0, .int .i64 m.a1, .int .i64 m.a2, .int .i64 m.a3, .int .i64 m.a4, .int .i64 m.a5, .int .i64 m.a6, .int .i64 m.a7] | 3 => v = .pointer (some ⟨g12, 0, none⟩) | 4 => v = .slice cA12 cols.length ck12 | 5 => RowV wo.heap.size v W (inV m cols) | 6 => BlkV wo.heap.size v W (inV m cols) | _ => True) (.pointer (some ⟨g12, 1, none⟩)) (fun f W => ∃ (w2 : World) (s : Sl) (gg cap : Nat), f 7 = .slice (some ⟨gg, 0, none⟩) (ss3.length + 1) cap ∧ Below wy.heap.size wy w2 ∧ Own iv 1 3 wo.heap.size w2 s.v (inV m cols) ∧ Own Sl.vs 1 32 wo.heap.size W (.slice (some ⟨gg, 0, none⟩) (ss3.length + 1) cap) (ss3 ++ [s]) ∧ w2.grownBy W (Sl.v ⟨rvA, ss3.length, rvC⟩).ownBlock) (fun _ wz => ∃ rv4 : Sl, JOut wo wz g12 ⟨cA12, cols.length, ck12⟩ rv4 cols (pre3 ++ [inV m cols]) ∧ H8 wz b15 v) ?fr ?hfr (by first | decide | simp) ?hst ?steps ?pivot ?mid ?hPsi ?last ?done
                    case hfr =>
                      intro f
                      simp [frOf, Act.put]
                      rfl
                    case hdown =>
                      intro l hc hp j hj
                      have q1 := hp 1 (by kernel_rfl)
                      have q6 := hp 6 (by kernel_rfl)
                      have q5 := hc 6 5 (by decide) q6 (by kernel_rfl)
                      have q0 := hc 1 0 (by decide) q1 (by kernel_rfl)
                      have q2 := hc 5 2 (by decide) q5 (by kernel_rfl)
                      have q4 := hc 5 4 (by decide) q5 (by kernel_rfl)
                      have q3 := hc 4 3 (by decide) q4 (by kernel_rfl)
                      have hj7 : j = 0 ∨ j = 1 ∨ j = 2 ∨ j = 3 ∨ j = 4 ∨ j = 5 ∨ j = 6 := by omega
                      rcases hj7 with rfl | rfl | rfl | rfl | rfl | rfl | rfl <;> assumption
                    case hst =>
                      intro j v W W' h hb
                      match j, h with
                      | 0, h => exact h
                      | 1, h => exact h
                      | 2, h => exact h
                      | 3, h => exact h
                      | 4, h => exact h
                      | 5, h => exact h.keep hb
                      | 6, h => exact h.keep hb
                      | n + 7, h => trivial
                    case steps =>
                      refine ⟨⟨⟨⟨⟨⟨⟨trivial, ?_⟩, ?_⟩, ?_⟩, ?_⟩, ?_⟩, ?_⟩, ?_⟩
                      · intro f W K hB hd hK
                        refine wpOp_step rfl (fun K' hK' => ?_)
                        obtain ⟨y0, y1, z0, z1, z2, z3, z4, z5, z6, z7⟩ := HF.out W (bchain ((Below.refl wy.heap.size wy).drew) hB)
                        go_simp
                        have hk := hK _ W (Below.refl _ _) rfl
                        simp only [upd, reduceIte, Nat.reduceEqDiff] at hk
                        exact hK' _ _ hk
                      · intro f W K hB hd hK
                        refine wpOp_step rfl (fun K' hK' => ?_)
                        have e0 := hd 0 (by kernel_rfl)
                        (try simp only [] at e0)
                        simp only [e0]
                        obtain ⟨y0, y1, z0, z1, z2, z3, z4, z5, z6, z7⟩ := HF.out W (bchain ((Below.refl wy.heap.size wy).drew) hB)
                        go_simp
                        have hk := hK _ W (Below.refl _ _) rfl
                        simp only [upd, reduceIte, Nat.reduceEqDiff, e0] at hk
                        exact hK' _ _ hk
                      · intro f W K hB hd hK
                        refine wpOp_step rfl (fun K' hK' => ?_)
                        obtain ⟨y0, y1, z0, z1, z2, z3, z4, z5, z6, z7⟩ := HF.out W (bchain ((Below.refl wy.heap.size wy).drew) hB)
                        go_simp
                        have hk := hK _ W (Below.refl _ _) rfl
                        simp only [upd, reduceIte, Nat.reduceEqDiff] at hk
                        exact hK' _ _ hk
                      · intro f W K hB hd hK
                        refine wpOp_step rfl (fun K' hK' => ?_)
                        obtain ⟨y0, y1, z0, z1, z2, z3, z4, z5, z6, z7⟩ := HF.out W (bchain ((Below.refl wy.heap.size wy).drew) hB)
                        go_simp
                        have hk := hK _ W (Below.refl _ _) rfl
                        simp only [upd, reduceIte, Nat.reduceEqDiff] at hk
                        exact hK' _ _ hk
                      · intro f W K hB hd hK
                        refine wpOp_step rfl (fun K' hK' => ?_)
                        have e3 := hd 3 (by kernel_rfl)
                        (try simp only [] at e3)
                        simp only [e3]
                        obtain ⟨y0, y1, z0, z1, z2, z3, z4, z5, z6, z7⟩ := HF.out W (bchain ((Below.refl wy.heap.size wy).drew) hB)
                        go_simp
                        have hk := hK _ W (Below.refl _ _) rfl
                        simp only [upd, reduceIte, Nat.reduceEqDiff, e3] at hk
                        exact hK' _ _ hk
                      · intro f W K hB hd hK
                        refine wpOp_step rfl (fun K' hK' => ?_)
                        have e2 := hd 2 (by kernel_rfl)
                        (try simp only [] at e2)
                        have e4 := hd 4 (by kernel_rfl)
                        (try simp only [] at e4)
                        simp only [e2, e4]
                        go_simp
                        refine (Q6.out W (bchain ((Below.refl wy.heap.size wy).drew) hB)).mono ?_
                        rintro e W2 ⟨v7, rfl, hown7, hb7⟩
                        obtain ⟨A7, n7, c7, rfl⟩ := hown7.shapeN
                        dsimp only
                        have hk := hK _ _ hb7 ⟨⟨A7, n7, c7⟩, rfl, hown7.low (Nat.le_trans hwob (bchain ((Below.refl wy.heap.size wy).drew) hB).size)⟩
                        simp only [upd, reduceIte, Nat.reduceEqDiff, e2, e4] at hk
                        exact hK' _ _ hk
                      · intro f W K hB hd hK
                        refine wpOp_step rfl (fun K' hK' => ?_)
                        obtain ⟨s5, e5, h5⟩ := hd 5 (by kernel_rfl)
                        (try simp only [] at e5)
                        simp only [e5]
                        go_simp
                        have hk := hK _ _ (below_new W _) ⟨W.heap.size, s5, rfl, new_block W _ _, h5.below (below_new W _)⟩
                        simp only [upd, reduceIte, Nat.reduceEqDiff, e5] at hk
                        exact hK' _ _ hk
                    case pivot =>
                      intro f W K hB hd hK
                      have e1 := hd 1 (by decide)
                      (try simp only [] at e1)
                      obtain ⟨g6, s6, e6, h6, h6o⟩ := hd 6 (by decide)
                      (try simp only [] at e6)
                      have hbW := bchain ((Below.refl wy.heap.size wy).drew) hB
                      refine wpOp_step rfl (fun K' hK' => ?_)
                      simp only [List.getElem_toArray, List.getElem_cons_succ, List.getElem_cons_zero, e1, e6]
                      rw [if_pos (by simp [Region.wanted])]
                      refine wp_append_lies W _ _ _ (by rfl) wo.heap.size 32 i0 _ 1 24 Tryz.underlying38 hi0 hz0 hz1 hz2 rfl (by omega) (.slice rvA ss3.length rvC) ss3.length (ss3.flatMap Sl.vs) (by rfl) (HSS.out.below hbW) ⟨g6, 0, none⟩ 1 1 [.slice s6.A s6.n s6.cap] (by rfl) (by rfl) (World.news_of_block (cs := #[.slice s6.A s6.n s6.cap]) (t := 32) (fr := (0, 0)) h6) (by simp [Value.oneCell']) (by omega) (by unfold maxLen; omega) (by omega) (Nat.le_trans hwob hbW.size) W.heap.size rfl ?_
                      intro gg cap w1 hown1 hgrow hat hlt
                      have hk := hK (.slice (some ⟨gg, 0, none⟩) (ss3.length + 1) cap) w1 ⟨W, s6, gg, cap, (by simp [upd]), hbW, h6o, (by unfold Own; simpa [Sl.vs, Sl.v, Nat.mul_one] using hown1), hgrow⟩
                      simp only [upd, reduceIte, Nat.reduceEqDiff, e1, e6] at hk
                      exact hK' _ _ hk
                    case mid =>
                      intro f W K hK
                      refine wpOp_step rfl (fun K' hK' => ?_)
                      go_simp
                      have hk := hK
                      simp only [upd, reduceIte, Nat.reduceEqDiff, Nat.reduceAdd] at hk
                      exact hK' _ _ hk
                    case hPsi =>
                      intro f W h
                      obtain ⟨w2, s, gg, cap, h1, h2⟩ := h
                      exact ⟨w2, s, gg, cap, by rw [← h1]; simp [upd], h2⟩
                    case last =>
                      intro f W K h e8 hK
                      obtain ⟨w2, s, gg, cap, e7, hb2, hr2, ho2, hg2⟩ := h
                      have q := HF.out w2 hb2
                      have hne12 := (hg2.cell_far ⟨g12, 1, none⟩ (World.block_lt_of_cell? _ _ q.2.1) hag).trans q.2.1
                      have hfz12 : W.frozen? ⟨g12, 1, none⟩ = false := (hg2.frozen_far ⟨g12, 1, none⟩ (World.block_lt_of_cell? _ _ q.2.1) hag).trans (HK0.out.turn hb2).f1
                      obtain ⟨p1, p2⟩ := JOut.push3 (s := s) (rw4 := ⟨some ⟨gg, 0, none⟩, ss3.length + 1, cap⟩) HJ6.out hb2 hr2 HSS.out HRR.out ho2 hg2
                      have hq8 : H8 (W.setCell ⟨g12, 1, none⟩ (.slice (some ⟨gg, 0, none⟩) (ss3.length + 1) cap)) b15 v := ((H86.out.keep hb2).grown hg2 hak15).grown p2 (fun e => hb15g (Option.some.inj e).symm)
                      have hom := hK _ ⟨_, p1, hq8⟩
                      refine wpOp_step rfl (fun K' hK' => ?_)
                      (try simp only [Nat.reduceAdd] at e8)
                      simp only [e7, e8] at hom ⊢
                      go_simp
                      exact hK' _ _ hom
                    case done =>
                      intro f wz hz
                      go_wp2_with fail
                      go_meet
                      exact hz
                  case rest =>
                    obtain ⟨rv4, hj4, h84⟩ := hcut
                    have hn4 : rv4.n = pre3.length + 1 := by rw [hj4.len]; simp
                    have HJ4 := Lib.hid hj4
                    have H84 := Lib.hid h84
                    have y1' := hj4.cells.2.1
                    clear hj4 h84 y0 y1 y2 z0 z1 z2 z3 z4 z5 z6 z7 Q6 HK0
                    by_cases hbig : pre3.length + 1 ≤ 500
                    · have d5 : decide ((500 : Int) < (rv4.n : Int)) = false := by rw [decide_eq_false_iff_not]; omega
                      have d5' : decide (500 < rv4.n) = false := by rw [decide_eq_false_iff_not]; omega
                      clear hn4
                      go_wp2_with fail
                      refine ⟨⟨k3 + 1, by omega, by go_num, rv4, by rw [HT3.out]; exact HJ4.out, by rw [HT3.out]; simp; omega, H84.out⟩, by simp [intOf]; omega⟩
                    · have d5 : decide ((500 : Int) < (rv4.n : Int)) = true := by rw [decide_eq_true_eq]; omega
                      have d5' : decide (500 < rv4.n) = true := by rw [decide_eq_true_eq]; omega
                      have HNO : Hid (joinB A B = none) := by
                        show _ = _
                        obtain ⟨rest, hr⟩ := HD3.out
                        unfold joinB
                        rw [if_neg]
                        rw [hr, HT3.out]
                        simp
                        omega
                      have HBF := Lib.hid (bchain HB0.out (HB.out.trans (HJ4.out.b.mono HB.out.size)))
                      clear hn4 hbig
                      go_wp2_with fail
                      rw [HNO.out]
                      exact ⟨rfl, HBF.out, rfl⟩
            · have hk3' : k3 = L.length := by omega
              have ht : (pre ++ (L.take k3).map fun u => inV (mixV u v A.cols) cols) = (A.rows.take (k2 + 1)).flatMap (rowJ A B) := by
                rw [HTK.out, hk3', List.take_length]
              rw [ht] at HJX hl6
              have d1 : decide ((k3 : Int) < ((L.length : Nat) : Int)) = false := by rw [decide_eq_false_iff_not]; omega
              have d2 : decide (k3 < L.length) = false := by rw [decide_eq_false_iff_not]; omega
              clear ht hlt3 hk3' hJ h8v
              go_wp2_with fail
              exact ⟨⟨k2 + 1, by omega, by go_num, rv3, HJX.out, hl6⟩, by simp [intOf]; omega⟩
        · have hk2' : k2 = rn := by omega
          have ht : (A.rows.take k2).flatMap (rowJ A B) = joinRows A B := by
            rw [joinRows_eq, hk2', List.take_of_length_le (by rw [HRL.out]; exact Nat.le_refl _)]
          rw [ht] at HJ hl5
          have HYES : Hid (joinB A B = some ⟨cols, sortR (joinRows A B)⟩) := by
            show _ = _
            unfold joinB
            rw [if_pos hl5, HXA.out, HXB.out, HXO.out, HCO.out]
          generalize joinRows A B = rows at *
          have hrn' := HJ.out.len
          obtain ⟨ss, q1, q2⟩ := HJ.out.rows
          have hrows : RowsAt wr wo.heap.size rv rows := ⟨ss, q1.rdN Sl.vs_length, q2.mono fun x y h => h.ints⟩
          have Q7 := Lib.hid (sorted_lo rv rows wr hrows (by rw [hrn']; omega))
          have y1 := HJ.out.cells.2.1
          have d1 : decide ((k2 : Int) < (rn : Int)) = false := by rw [decide_eq_false_iff_not]; omega
          have d2 : decide (k2 < rn) = false := by rw [decide_eq_false_iff_not]; omega
          clear hJ ht hlt hk2' q1 q2 hrows hrn'
          go_wp2_with fail
          (with_reducible refine Q7.out.mono ?_)
          rintro e w7 ⟨v7, rfl, hr7, hb7⟩
          obtain ⟨A7, c7, rfl⟩ := hr7.shape
          have hbox := (HJ.out.below hb7).box
          obtain ⟨q1, q2⟩ := setCell_at (off := 1) hbox (.slice A7 (sortR rows).length c7)
          have y1 := cell_at_block (off := 1) hbox rfl
          have f1 := free_at_block (off := 1) hbox
          have x0 := cell_at_block (off := 0) q1 rfl
          have x1 := cell_at_block (off := 1) q1 rfl
          have hlt2 : w.heap.size + 2 < W0.heap.size := by rw [HSZ.out]; omega
          have hws := HB.out.size
          have hgl := HJ.out.hg
          have hne2 : w.heap.size + 2 ≠ g12 := by omega
          have hbj := HJ.out.b
          have hz2 := (q2.block (w.heap.size + 2) (by have := hb7.size; have := hbj.size; omega) (fun e => hne2 (Option.some.inj e))).trans ((hb7.block (w.heap.size + 2) (by have := hbj.size; omega)).trans ((hbj.block (w.heap.size + 2) (by omega)).trans ((HB.out.block _ hlt2).trans H2.out)))
          have f20 : (w7.setCell ⟨g12, 1, none⟩ (.slice A7 (sortR rows).length c7)).frozen? ⟨w.heap.size + 1 + 1, 0, none⟩ = false := free_at_block (off := 0) hz2
          have f21 : (w7.setCell ⟨g12, 1, none⟩ (.slice A7 (sortR rows).length c7)).frozen? ⟨w.heap.size + 1 + 1, 1, none⟩ = false := free_at_block (off := 1) hz2
          have c20 : (w7.setCell ⟨g12, 1, none⟩ (.slice A7 (sortR rows).length c7)).cell? ⟨w.heap.size + 1 + 1, 0, none⟩ = some (.slice none 0 0) := cell_at_block (off := 0) hz2 rfl
          have c21 : (w7.setCell ⟨g12, 1, none⟩ (.slice A7 (sortR rows).length c7)).cell? ⟨w.heap.size + 1 + 1, 1, none⟩ = some (.slice none 0 0) := cell_at_block (off := 1) hz2 rfl
          obtain ⟨q3, q4⟩ := setCell_at (off := 0) hz2 (.slice cA12 cols.length ck12)
          obtain ⟨q5, q6⟩ := setCell_at (off := 1) q3 (.slice A7 (sortR rows).length c7)
          have HTAB : Hid (OwnTab w.heap.size (((w7.setCell ⟨g12, 1, none⟩ (.slice A7 (sortR rows).length c7)).setCell ⟨w.heap.size + 2, 0, none⟩ (.slice cA12 cols.length ck12)).setCell ⟨w.heap.size + 2, 1, none⟩ (.slice A7 (sortR rows).length c7)) ⟨⟨cA12, cols.length, ck12⟩, ⟨A7, (sortR rows).length, c7⟩⟩ ⟨cols, sortR rows⟩) := by
            have t0 : OwnTab w.heap.size w7 ⟨⟨cA12, cols.length, ck12⟩, ⟨A7, (sortR rows).length, c7⟩⟩ ⟨cols, sortR rows⟩ := ⟨(HJ.out.below hb7).cols.low (by omega), hr7.lowB (by omega) (by have := hbj.size; omega)⟩
            have t1 := t0.grownS q2 hbox (by decide) (by decide) (pair_noInt ⟨cA12, cols.length, ck12⟩ rv)
            have t2 := t1.grownS q4 hz2 (by decide) (by decide) (pair_noInt ⟨none, 0, 0⟩ ⟨none, 0, 0⟩)
            exact t2.grownS q6 q3 (by decide) (by decide) (pair_noInt ⟨cA12, cols.length, ck12⟩ ⟨none, 0, 0⟩)
          have HBF : Hid (Below w.heap.size w (((w7.setCell ⟨g12, 1, none⟩ (.slice A7 (sortR rows).length c7)).setCell ⟨w.heap.size + 2, 0, none⟩ (.slice cA12 cols.length ck12)).setCell ⟨w.heap.size + 2, 1, none⟩ (.slice A7 (sortR rows).length c7))) := by
            have b0 := bchain (bchain (bchain HB0.out HB.out) hbj) hb7
            exact below_row (below_row (below_row b0 q2 (fun j e => by cases e; omega)) q4 (fun j e => by cases e; omega)) q6 (fun j e => by cases e; omega)
          have HQ5 := Lib.hid q5
          clear hr7 hb7 hbox q1 q2 hz2 q3 q4 q5 q6 hbj
          go_wp2_with fail
          refine bodyPost_ret (results_cell_row rfl _ _ (w.heap.size + 2) 40 #[.slice cA12 cols.length ck12, .slice A7 (sortR rows).length c7] (0, 0) _ rfl HQ5.out Tryz.underlying40 rfl (by kernel_rfl)) rfl ?_
          rw [HYES.out]
          exact ⟨HBF.out, _, rfl, HTAB.out⟩
end Go.Proofs.Bg
end

section
/- Contract: Join. -/
namespace Go.Proofs.Bg
open Go.RowKit

def joinR (A B : PT) : PT × Int := if formedB A && formedB B then (match joinB A B with | some T => (T, 0) | none => (⟨[], []⟩, 3)) else (⟨[], []⟩, 2)
/-- What is handed back: a table, an error. -/
theorem TabAt.emptyL (w : World) (lo : Nat) : TabAt w lo ⟨⟨none, 0, 0⟩, ⟨none, 0, 0⟩⟩ ⟨[], []⟩ := ⟨Rd.nil _ _ _, ⟨[], Rd.nil _ _ _, All2.nil _⟩⟩
def RetTE (w : World) (p : PT × Int) (e : Ending) (w' : World) : Prop :=
  (∃ t : Tb, e = .returned (.tuple #[.agg #[.slice t.cols.A t.cols.n t.cols.cap, .slice t.rows.A t.rows.n t.rows.cap], .int .i64 p.2]) ∧ TabAt w' w.heap.size t p.1) ∧ Below w.heap.size w w'
theorem results_cc {fn : Func} {p q : Tmp} (h : fn.results = #[.cell p 40, .cell q 26]) (tmps : Array Value) (w : World) (g ge : Nat) (a b v : Value) (hp : tmps.getD p undef = .pointer (some ⟨g, 0, none⟩)) (hq : tmps.getD q undef = .pointer (some ⟨ge, 0, none⟩)) (hg : w.heap[g]? = some (.cells #[a, b] 40)) (he : w.heap[ge]? = some (.cells #[v] 26)) :
    (results fn tmps).run Tryz.prog w = .ok (.tuple #[.agg #[a, b], v]) w := by
  have hp' : tmps[p]?.getD undef = .pointer (some ⟨g, 0, none⟩) := by simpa using hp
  have hq' : tmps[q]?.getD undef = .pointer (some ⟨ge, 0, none⟩) := by simpa using hq
  have ce := cell_at_block (off := 0) he rfl
  have c0 := cell_at_block (off := 0) hg rfl
  have c1 := cell_at_block (off := 1) hg rfl
  simp only [List.getElem_toArray, List.getElem_cons_zero, List.getElem_cons_succ] at ce c0 c1
  simp [results, h, hp', hq', asAddr, go_sem, ce, c0, c1]

/-- The four boxes of Join. -/
structure JBox (w W : World) (a b : Tb) (o : Tb) (e : Int) : Prop where
  bl : Below w.heap.size w W
  h0 : W.heap[w.heap.size]? = some (.cells #[.slice a.cols.A a.cols.n a.cols.cap, .slice a.rows.A a.rows.n a.rows.cap] 40)
  h1 : W.heap[w.heap.size + 1]? = some (.cells #[.slice b.cols.A b.cols.n b.cols.cap, .slice b.rows.A b.rows.n b.rows.cap] 40)
  h2 : W.heap[w.heap.size + 1 + 1]? = some (.cells #[.slice o.cols.A o.cols.n o.cols.cap, .slice o.rows.A o.rows.n o.rows.cap] 40)
  h3 : W.heap[w.heap.size + 1 + 1 + 1]? = some (.cells #[.int .i64 e] 26)
section
variable {w W W2 : World} {a b : Tb} {o : Tb} {e : Int}
theorem JBox.lt (h : JBox w W a b o e) : w.heap.size + 3 < W.heap.size := (Array.getElem?_eq_some_iff.1 h.h3).1
theorem JBox.below (h : JBox w W a b o e) (hb : Below W.heap.size W W2) : JBox w W2 a b o e :=
  have hl := h.lt
  ⟨bchain h.bl hb, (hb.block _ (by omega)).trans h.h0, (hb.block _ (by omega)).trans h.h1, (hb.block _ (by omega)).trans h.h2, (hb.block _ (by omega)).trans h.h3⟩
theorem JBox.start (w : World) (a b : Tb) : JBox w ((((w.alloc (.cells #[.slice a.cols.A a.cols.n a.cols.cap, .slice a.rows.A a.rows.n a.rows.cap] 40)).alloc (.cells #[.slice b.cols.A b.cols.n b.cols.cap, .slice b.rows.A b.rows.n b.rows.cap] 40)).alloc (.cells #[.slice none 0 0, .slice none 0 0] 40)).alloc (.cells #[.int .i64 0] 26)) a b ⟨⟨none, 0, 0⟩, ⟨none, 0, 0⟩⟩ 0 := by
  refine ⟨(((below_new w _).alloc (by simp) _).alloc (by simp; omega) _).alloc (by simp; omega) _, ?_, ?_, ?_, ?_⟩
  · rw [Below.heap_alloc _ _ _ (by simp <;> omega), Below.heap_alloc _ _ _ (by simp <;> omega), Below.heap_alloc _ _ _ (by simp)]
    exact new_block _ _ _
  · rw [Below.heap_alloc _ _ _ (by simp <;> omega), Below.heap_alloc _ _ _ (by simp)]
    have := new_block (w.alloc (.cells #[.slice a.cols.A a.cols.n a.cols.cap, .slice a.rows.A a.rows.n a.rows.cap] 40)) #[.slice b.cols.A b.cols.n b.cols.cap, .slice b.rows.A b.rows.n b.rows.cap] 40
    simpa using this
  · rw [Below.heap_alloc _ _ _ (by simp)]
    have := new_block ((w.alloc (.cells #[.slice a.cols.A a.cols.n a.cols.cap, .slice a.rows.A a.rows.n a.rows.cap] 40)).alloc (.cells #[.slice b.cols.A b.cols.n b.cols.cap, .slice b.rows.A b.rows.n b.rows.cap] 40)) #[.slice none 0 0, .slice none 0 0] 40
    simpa using this
  · have := new_block (((w.alloc (.cells #[.slice a.cols.A a.cols.n a.cols.cap, .slice a.rows.A a.rows.n a.rows.cap] 40)).alloc (.cells #[.slice b.cols.A b.cols.n b.cols.cap, .slice b.rows.A b.rows.n b.rows.cap] 40)).alloc (.cells #[.slice none 0 0, .slice none 0 0] 40)) #[.int .i64 0] 26
    simpa using this
/-- The table put into its box, and an error into the other one. -/
theorem JBox.put (h : JBox w W a b o e) (s t : Sl) (e2 : Int) : JBox w (((W.setCell ⟨w.heap.size + 1 + 1, 0, none⟩ (.slice s.A s.n s.cap)).setCell ⟨w.heap.size + 1 + 1, 1, none⟩ (.slice t.A t.n t.cap)).setCell ⟨w.heap.size + 1 + 1 + 1, 0, none⟩ (.int .i64 e2)) a b ⟨s, t⟩ e2 ∧ ∀ {T : PT} {u : Tb} {base : Nat}, OwnTab base W u T → w.heap.size + 4 ≤ base → OwnTab base (((W.setCell ⟨w.heap.size + 1 + 1, 0, none⟩ (.slice s.A s.n s.cap)).setCell ⟨w.heap.size + 1 + 1, 1, none⟩ (.slice t.A t.n t.cap)).setCell ⟨w.heap.size + 1 + 1 + 1, 0, none⟩ (.int .i64 e2)) u T := by
  obtain ⟨q1, q2⟩ := setCell_at (off := 0) h.h2 (.slice s.A s.n s.cap)
  obtain ⟨q3, q4⟩ := setCell_at (off := 1) q1 (.slice t.A t.n t.cap)
  have hl := h.lt
  have s2 := q2.size
  have s4 := q4.size
  have k3 := (q4.block (w.heap.size + 1 + 1 + 1) (by omega) (fun e => by have := Option.some.inj e; omega)).trans ((q2.block (w.heap.size + 1 + 1 + 1) (by omega) (fun e => by have := Option.some.inj e; omega)).trans h.h3)
  obtain ⟨q5, q6⟩ := setCell_at (off := 0) k3 (.int .i64 e2)
  have g : ∀ i, i < w.heap.size + 3 → i ≠ w.heap.size + 1 + 1 → (((W.setCell ⟨w.heap.size + 1 + 1, 0, none⟩ (.slice s.A s.n s.cap)).setCell ⟨w.heap.size + 1 + 1, 1, none⟩ (.slice t.A t.n t.cap)).setCell ⟨w.heap.size + 1 + 1 + 1, 0, none⟩ (.int .i64 e2)).heap[i]? = W.heap[i]? := fun i hi hne =>
    (q6.block i (by omega) (fun e => by have := Option.some.inj e; omega)).trans ((q4.block i (by omega) (fun e => hne (Option.some.inj e))).trans (q2.block i (by omega) (fun e => hne (Option.some.inj e))))
  refine ⟨⟨below_row (below_row (below_row h.bl q2 (fun j e => by cases e; omega)) q4 (fun j e => by cases e; omega)) q6 (fun j e => by cases e; omega),
    (g _ (by omega) (by omega)).trans h.h0, (g _ (by omega) (by omega)).trans h.h1,
    (q6.block _ (by omega) (fun e => by have := Option.some.inj e; omega)).trans q3, q5⟩, fun ho hb => ((ho.far q2 (by omega)).far q4 (by omega)).far q6 (by omega)⟩
theorem JBox.setE (h : JBox w W a b o e) (e2 : Int) : JBox w (W.setCell ⟨w.heap.size + 1 + 1 + 1, 0, none⟩ (.int .i64 e2)) a b o e2 := by
  have hl := h.lt
  obtain ⟨q5, q6⟩ := setCell_at (off := 0) h.h3 (.int .i64 e2)
  have g : ∀ i, i < w.heap.size + 3 → (W.setCell ⟨w.heap.size + 1 + 1 + 1, 0, none⟩ (.int .i64 e2)).heap[i]? = W.heap[i]? := fun i hi => q6.block i (by omega) (fun e => by have := Option.some.inj e; omega)
  exact ⟨below_row h.bl q6 (fun j e => by cases e; omega), (g _ (by omega)).trans h.h0, (g _ (by omega)).trans h.h1, (g _ (by omega)).trans h.h2, q5⟩
theorem JBox.cells (h : JBox w W a b o e) : (W.cell? ⟨w.heap.size, 0, none⟩ = some (.slice a.cols.A a.cols.n a.cols.cap) ∧ W.cell? ⟨w.heap.size, 1, none⟩ = some (.slice a.rows.A a.rows.n a.rows.cap)) ∧ (W.cell? ⟨w.heap.size + 1, 0, none⟩ = some (.slice b.cols.A b.cols.n b.cols.cap) ∧ W.cell? ⟨w.heap.size + 1, 1, none⟩ = some (.slice b.rows.A b.rows.n b.rows.cap)) ∧ (W.cell? ⟨w.heap.size + 1 + 1, 0, none⟩ = some (.slice o.cols.A o.cols.n o.cols.cap) ∧ W.cell? ⟨w.heap.size + 1 + 1, 1, none⟩ = some (.slice o.rows.A o.rows.n o.rows.cap) ∧ W.frozen? ⟨w.heap.size + 1 + 1, 0, none⟩ = false ∧ W.frozen? ⟨w.heap.size + 1 + 1, 1, none⟩ = false) ∧ W.cell? ⟨w.heap.size + 1 + 1 + 1, 0, none⟩ = some (.int .i64 e) ∧ W.frozen? ⟨w.heap.size + 1 + 1 + 1, 0, none⟩ = false :=
  ⟨⟨cell_at_block h.h0 rfl, cell_at_block h.h0 rfl⟩, ⟨cell_at_block h.h1 rfl, cell_at_block h.h1 rfl⟩, ⟨cell_at_block h.h2 rfl, cell_at_block h.h2 rfl, free_at_block h.h2, free_at_block h.h2⟩, cell_at_block h.h3 rfl, free_at_block h.h3⟩
end

set_option maxRecDepth 100000 in
theorem Join_any (a b : Tb) (A B : PT) (w : World) (ha : TabAt w 0 a A) (hb : TabAt w 0 b B) :
    Calls Tryz.prog 35 #[.agg #[.slice a.cols.A a.cols.n a.cols.cap, .slice a.rows.A a.rows.n a.rows.cap], .agg #[.slice b.cols.A b.cols.n b.cols.cap, .slice b.rows.A b.rows.n b.rows.cap]] w (RetTE w (joinR A B)) := by
  have J0 := Lib.hid (JBox.start w a b)
  have QA := Lib.hid (fun W (hW : Below w.heap.size w W) => formed_any a A W (ha.below hW))
  have QB := Lib.hid (fun W (hW : Below w.heap.size w W) => formed_any b B W (hb.below hW))
  have QJ := Lib.hid (fun W (hW : Below w.heap.size w W) (fa : Formed A) (fb : Formed B) => joined_any a.cols.A a.rows.A b.cols.A b.rows.A a.cols.n a.rows.n a.cols.cap a.rows.cap b.cols.n b.rows.n b.cols.cap b.rows.cap A B W (ha.below hW) (hb.below hW) fa fb)
  obtain ⟨⟨c00, c01⟩, ⟨c10, c11⟩, ⟨c20, c21, f20, f21⟩, c30, f30⟩ := J0.out.cells
  simp only [] at c20 c21
  clear ha hb
  cases hfa : formedB A with
  | false =>
    rw [hfa] at QA
    have HR : Hid (joinR A B = (⟨[], []⟩, 2)) := by show _ = _; simp [joinR, hfa]
    clear hfa
    go_enter_defers Tryz.func35, Tryz.ntmps35
    go_wp2_with fail
    (with_reducible refine (QA.out _ J0.out.bl).mono ?_)
    rintro e w1 ⟨rfl, hb1⟩
    have J1 := Lib.hid (J0.out.below hb1)
    obtain ⟨-, -, ⟨c20', c21', f20', f21'⟩, c30', f30'⟩ := J1.out.cells
    simp only [] at c20' c21'
    clear hb1 c00 c01 c10 c11 c20 c21 f20 f21 c30 f30
    go_wp2_with fail
    obtain ⟨p1, -⟩ := J1.out.put ⟨none, 0, 0⟩ ⟨none, 0, 0⟩ 2
    refine ⟨_, results_cc rfl _ _ _ _ _ _ _ rfl rfl p1.h2 p1.h3, ?_⟩
    rw [HR.out]
    exact ⟨⟨⟨⟨none, 0, 0⟩, ⟨none, 0, 0⟩⟩, rfl, TabAt.emptyL _ _⟩, p1.bl⟩
  | true =>
    rw [hfa] at QA
    cases hfb : formedB B with
    | false =>
      rw [hfb] at QB
      have HR : Hid (joinR A B = (⟨[], []⟩, 2)) := by show _ = _; simp [joinR, hfb]
      clear hfa hfb
      go_enter_defers Tryz.func35, Tryz.ntmps35
      go_wp2_with fail
      (with_reducible refine (QA.out _ J0.out.bl).mono ?_)
      rintro e w1 ⟨rfl, hb1⟩
      have J1 := Lib.hid (J0.out.below hb1)
      obtain ⟨-, ⟨c10', c11'⟩, -, -, -⟩ := J1.out.cells
      clear hb1 c00 c01 c10 c11 c20 c21 f20 f21 c30 f30
      go_wp2_with fail
      (with_reducible refine (QB.out _ J1.out.bl).mono ?_)
      rintro e w2 ⟨rfl, hb2⟩
      have J2 := Lib.hid (J1.out.below hb2)
      obtain ⟨-, -, ⟨c20', c21', f20', f21'⟩, c30', f30'⟩ := J2.out.cells
      simp only [] at c20' c21'
      clear hb2 c10' c11'
      go_wp2_with fail
      obtain ⟨p1, -⟩ := J2.out.put ⟨none, 0, 0⟩ ⟨none, 0, 0⟩ 2
      refine ⟨_, results_cc rfl _ _ _ _ _ _ _ rfl rfl p1.h2 p1.h3, ?_⟩
      rw [HR.out]
      exact ⟨⟨⟨⟨none, 0, 0⟩, ⟨none, 0, 0⟩⟩, rfl, TabAt.emptyL _ _⟩, p1.bl⟩
    | true =>
      rw [hfb] at QB
      have FA := Lib.hid (formed_of hfa)
      have FB := Lib.hid (formed_of hfb)
      cases hj : joinB A B with
      | none =>
        have HR : Hid (joinR A B = (⟨[], []⟩, 3)) := by show _ = _; simp [joinR, hfa, hfb, hj]
        rw [hj] at QJ
        clear hfa hfb hj
        go_enter_defers Tryz.func35, Tryz.ntmps35
        go_wp2_with fail
        (with_reducible refine (QA.out _ J0.out.bl).mono ?_)
        rintro e w1 ⟨rfl, hb1⟩
        have J1 := Lib.hid (J0.out.below hb1)
        obtain ⟨-, ⟨c10', c11'⟩, -, -, -⟩ := J1.out.cells
        clear hb1 c00 c01 c10 c11 c20 c21 f20 f21 c30 f30
        go_wp2_with fail
        (with_reducible refine (QB.out _ J1.out.bl).mono ?_)
        rintro e w2 ⟨rfl, hb2⟩
        have J2 := Lib.hid (J1.out.below hb2)
        obtain ⟨⟨c00', c01'⟩, ⟨c10'', c11''⟩, -, -, -⟩ := J2.out.cells
        clear hb2 c10' c11'
        go_wp2_with fail
        (with_reducible refine (QJ.out _ J2.out.bl FA.out FB.out).mono ?_)
        rintro e w3 ⟨hb3, rfl⟩
        have J3 := J2.out.below hb3
        refine leaves_cons (f := 104) (args := #[.pointer (some ⟨w.heap.size + 1 + 1 + 1, 0, none⟩)]) (by simp) (by simp [go_sem]) ?_
        refine (catch_long _ _ _ J3.h3).mono ?_
        rintro e u' w4 ⟨rfl, rfl, rfl⟩
        have J4 := (J3.below (below_new w3 (.cells #[] 177))).setE 3
        refine ⟨_, results_cc rfl _ _ _ _ _ _ _ rfl rfl J4.h2 J4.h3, ?_⟩
        rw [HR.out]
        exact ⟨⟨⟨⟨none, 0, 0⟩, ⟨none, 0, 0⟩⟩, rfl, TabAt.emptyL _ _⟩, J4.bl⟩
      | some T =>
        have HR : Hid (joinR A B = (T, 0)) := by show _ = _; simp [joinR, hfa, hfb, hj]
        rw [hj] at QJ
        clear hfa hfb hj
        go_enter_defers Tryz.func35, Tryz.ntmps35
        go_wp2_with fail
        (with_reducible refine (QA.out _ J0.out.bl).mono ?_)
        rintro e w1 ⟨rfl, hb1⟩
        have J1 := Lib.hid (J0.out.below hb1)
        obtain ⟨-, ⟨c10', c11'⟩, -, -, -⟩ := J1.out.cells
        clear hb1 c00 c01 c10 c11 c20 c21 f20 f21 c30 f30
        go_wp2_with fail
        (with_reducible refine (QB.out _ J1.out.bl).mono ?_)
        rintro e w2 ⟨rfl, hb2⟩
        have J2 := Lib.hid (J1.out.below hb2)
        obtain ⟨⟨c00', c01'⟩, ⟨c10'', c11''⟩, -, -, -⟩ := J2.out.cells
        clear hb2 c10' c11'
        go_wp2_with fail
        (with_reducible refine (QJ.out _ J2.out.bl FA.out FB.out).mono ?_)
        rintro e w3 ⟨hb3, t, rfl, ht⟩
        have J3 := Lib.hid (J2.out.below hb3)
        have HT := Lib.hid ht
        obtain ⟨-, -, ⟨c20', c21', f20', f21'⟩, c30', f30'⟩ := J3.out.cells
        simp only [] at c20' c21'
        have hl2 := J2.out.lt
        clear hb3 ht c00' c01' c10'' c11''
        go_wp2_with fail
        obtain ⟨p1, p2⟩ := J3.out.put t.cols t.rows 0
        refine leaves_cons (f := 104) (args := #[.pointer (some ⟨w.heap.size + 1 + 1 + 1, 0, none⟩)]) (by simp) (by simp [go_sem]) ?_
        refine (catch_ok _ _).mono ?_
        rintro e u' w4 ⟨rfl, rfl, rfl⟩
        refine ⟨_, results_cc rfl _ _ _ _ _ _ _ rfl rfl p1.h2 p1.h3, ?_⟩
        rw [HR.out]
        exact ⟨⟨t, rfl, (p2 HT.out (by omega)).tab.low (by omega)⟩, p1.bl⟩
end Go.Proofs.Bg
end

section
/- Plain words: the array of joins. -/
namespace Go.Proofs.Bg
open Go.RowKit

/-- The cells of the array of 32 tables, its first ones set. -/
def arrV (ts : List Tb) : Array Value := (ts.flatMap Tb.vs ++ List.replicate (64 - 2 * ts.length) (Value.slice none 0 0)).toArray
theorem arrV_size {ts : List Tb} (h : ts.length ≤ 32) : (arrV ts).size = 64 := by
  have := flat_length Tb.vs_length ts
  simp only [arrV, List.size_toArray, List.length_append, List.length_replicate, this]
  omega
theorem arrV_at {ts : List Tb} {i : Nat} {t : Tb} (h : ts[i]? = some t) : (arrV ts)[i * 2]? = some (.slice t.cols.A t.cols.n t.cols.cap) ∧ (arrV ts)[i * 2 + 1]? = some (.slice t.rows.A t.rows.n t.rows.cap) := by
  have hl := flat_length Tb.vs_length ts
  have hi := (List.getElem?_eq_some_iff.1 h).1
  have h0 := flat_at Tb.vs_length ts _ _ h 0 _ rfl
  have h1 := flat_at Tb.vs_length ts _ _ h 1 _ rfl
  unfold arrV
  refine ⟨?_, ?_⟩
  · simp only [List.getElem?_toArray]
    rw [List.getElem?_append_left (by omega)]
    exact h0
  · simp only [List.getElem?_toArray]
    rw [List.getElem?_append_left (by omega)]
    exact h1
theorem arrV_push {ts : List Tb} (t : Tb) (h : ts.length < 32) : ((arrV ts).setIfInBounds (ts.length * 2) (.slice t.cols.A t.cols.n t.cols.cap)).setIfInBounds (ts.length * 2 + 1) (.slice t.rows.A t.rows.n t.rows.cap) = arrV (ts ++ [t]) := by
  have hl := flat_length Tb.vs_length ts
  obtain ⟨m, hm⟩ : ∃ m, 64 - 2 * ts.length = m + 2 := ⟨62 - 2 * ts.length, by omega⟩
  have hm' : 64 - 2 * (ts ++ [t]).length = m := by simp; omega
  unfold arrV
  rw [hm, hm', List.setIfInBounds_toArray, List.setIfInBounds_toArray]
  congr 1
  have e0 : ts.length * 2 = (ts.flatMap Tb.vs).length := hl.symm
  rw [List.set_append_right _ _ (by omega), e0, Nat.sub_self, List.replicate_succ, List.replicate_succ, List.set_cons_zero, List.set_append_right _ _ (by omega)]
  have e1 : (ts.flatMap Tb.vs).length + 1 - (ts.flatMap Tb.vs).length = 1 := by omega
  rw [e1, List.set_cons_succ, List.set_cons_zero, List.flatMap_append]
  simp [Tb.vs]
theorem arrV_slices {ts : List Tb} : ∀ v ∈ (arrV ts), ∃ A n cap, v = Value.slice A n cap := by
  intro v hv
  unfold arrV at hv
  simp only [List.mem_toArray, List.mem_append] at hv
  rcases hv with hv | hv
  · obtain ⟨t, _, ht⟩ := List.mem_flatMap.1 hv
    simp [Tb.vs] at ht
    rcases ht with rfl | rfl <;> exact ⟨_, _, _, rfl⟩
  · exact ⟨none, 0, 0, (List.mem_replicate.1 hv).2⟩
theorem arrV_noInt {ts : List Tb} : ∀ (i : Nat) (x : Int), (arrV ts)[i]? ≠ some (.int .i64 x) := fun i x h => by
  obtain ⟨A, n, cap, e⟩ := arrV_slices _ (Array.mem_of_getElem? h)
  cases e
theorem arrV_one {ts : List Tb} : (arrV ts).all (·.oneCell') = true := Array.all_eq_true_iff_forall_mem.2 fun v hv => by
  obtain ⟨A, n, cap, e⟩ := arrV_slices _ hv
  subst e
  rfl
theorem setRow_at {w : World} {g : Nat} {c : Array Value} {T : TypeId} (h : w.heap[g]? = some (.cells c T)) (cs : Array Value) : (w.setRow g cs).heap[g]? = some (.cells cs T) ∧ w.grownBy (w.setRow g cs) (some g) := by
  refine ⟨by simp [World.setRow, Array.getElem?_modify, h], rfl, rfl, rfl, by simp [World.setRow], fun i _ hi => ?_⟩
  have : g ≠ i := fun e => hi (by rw [e])
  simp [World.setRow, Array.getElem?_modify, this]

/-- The array, its error's box, and the tables made so far. -/
structure JArr (w wr : World) (ts : List Tb) (Ts : List PT) : Prop where
  bl : Below w.heap.size w wr
  box : wr.heap[w.heap.size]? = some (.cells (arrV ts) 138)
  err : wr.heap[w.heap.size + 1]? = some (.cells #[.int .i64 0] 26)
  tabs : All2 (fun t T => OwnTab (w.heap.size + 2) wr t T) ts Ts
section
variable {w wr W : World} {ts : List Tb} {Ts : List PT}
theorem JArr.lt (h : JArr w wr ts Ts) : w.heap.size + 1 < wr.heap.size := (Array.getElem?_eq_some_iff.1 h.err).1
theorem JArr.below (h : JArr w wr ts Ts) (hb : Below wr.heap.size wr W) : JArr w W ts Ts :=
  ⟨bchain h.bl hb, (hb.block _ (by have := h.lt; omega)).trans h.box, (hb.block _ (by have := h.lt; omega)).trans h.err, h.tabs.mono fun x y h => h.below hb⟩
theorem JArr.push (h : JArr w wr ts Ts) {t : Tb} {T : PT} (ht : OwnTab (w.heap.size + 2) wr t T) (hl : ts.length < 32) :
    JArr w ((wr.setCell ⟨w.heap.size, ts.length * 2, none⟩ (.slice t.cols.A t.cols.n t.cols.cap)).setCell ⟨w.heap.size, ts.length * 2 + 1, none⟩ (.slice t.rows.A t.rows.n t.rows.cap)) (ts ++ [t]) (Ts ++ [T]) := by
  obtain ⟨q1, q2⟩ := setCell_at (off := ts.length * 2) h.box (.slice t.cols.A t.cols.n t.cols.cap)
  obtain ⟨q3, q4⟩ := setCell_at (off := ts.length * 2 + 1) q1 (.slice t.rows.A t.rows.n t.rows.cap)
  rw [arrV_push t hl] at q3
  have hlt := h.lt
  have s2 := q2.size
  refine ⟨below_row (below_row h.bl q2 (fun j e => by cases e; omega)) q4 (fun j e => by cases e; omega), q3, (q4.block _ (by omega) (fun e => by have := Option.some.inj e; omega)).trans ((q2.block _ (by omega) (fun e => by have := Option.some.inj e; omega)).trans h.err), ?_⟩
  exact All2.snoc (h.tabs.mono fun x y hh => (hh.far q2 (by omega)).far q4 (by omega)) ((ht.far q2 (by omega)).far q4 (by omega))
end
end Go.Proofs.Bg
end

section
/- Contract: joinsOf. -/
namespace Go.Proofs.Bg
open Go.RowKit

theorem bdiff_last : ∀ k, k < 32 → 1 ≤ k → bdiff k (pw (lastT k)) = k - pw (lastT k) := by decide +kernel
theorem shr_last : ∀ k, k < 32 → 1 ≤ k → ∀ j, j < 6 → (k >>> j > 1 ↔ j < lastT k) := by decide +kernel
theorem lastT_lt {k n : Nat} (h : k < pw n) (h1 : 1 ≤ k) : lastT k < n := (Nat.log2_lt (by omega)).2 h
theorem pw_lastT {k : Nat} (h1 : 1 ≤ k) : pw (lastT k) ≤ k := Nat.log2_self_le (by omega)
def joinsE (l : List PT) : Int := if givenB l then (match joinsB l with | none => 3 | some _ => 0) else 2
/-- What joinsOf leaves. -/
def JoinsOut (w : World) (l : List PT) (e : Ending) (w' : World) : Prop :=
  Below w.heap.size w w' ∧ ∃ ts Ts, e = .returned (.tuple #[.agg (arrV ts), .int .i64 (joinsE l)]) ∧ ts.length ≤ 32 ∧ (joinsE l = 0 → joinsB l = some Ts ∧ (∀ T ∈ Ts, Formed T) ∧ All2 (fun t T => OwnTab w.heap.size w' t T) ts Ts)
theorem results_ja {fn : Func} {p q : Tmp} (h : fn.results = #[.cell p 138, .cell q 26]) (tmps : Array Value) (w : World) (g ge : Nat) (ts : List Tb) (v : Value) (hts : ts.length ≤ 32) (hp : tmps.getD p undef = .pointer (some ⟨g, 0, none⟩)) (hq : tmps.getD q undef = .pointer (some ⟨ge, 0, none⟩)) (hg : w.heap[g]? = some (.cells (arrV ts) 138)) (he : w.heap[ge]? = some (.cells #[v] 26)) :
    (results fn tmps).run Tryz.prog w = .ok (.tuple #[.agg (arrV ts), v]) w := by
  have hp' : tmps[p]?.getD undef = .pointer (some ⟨g, 0, none⟩) := by simpa using hp
  have hq' : tmps[q]?.getD undef = .pointer (some ⟨ge, 0, none⟩) := by simpa using hq
  have hl := run_loadVar_row (P := Tryz.prog) w g 138 138 (arrV ts) (0, 0) _ hg Tryz.underlying138 rfl (by rw [arrV_size hts]; kernel_rfl)
  have ce := cell_at_block (off := 0) he rfl
  simp only [List.getElem_toArray, List.getElem_cons_zero] at ce
  have hl2 : (loadVar 26 ⟨ge, 0, none⟩).run Tryz.prog w = .ok v w := by simp [go_sem, ce]
  simp [results, h, hp', hq', asAddr, hl, hl2, Sem.run_bind, Result.andThen]

/-- The array stored over itself, and an error put. -/
theorem JArr.same {w wr : World} {ts : List Tb} {Ts : List PT} (h : JArr w wr ts Ts) (_ : ts.length ≤ 32) (e : Int) : (wr.setRow w.heap.size (arrV ts)).heap[w.heap.size + 1]? = some (.cells #[.int .i64 0] 26) ∧ (Below w.heap.size w ((wr.setRow w.heap.size (arrV ts)).setCell ⟨w.heap.size + 1, 0, none⟩ (.int .i64 e)) ∧ ((wr.setRow w.heap.size (arrV ts)).setCell ⟨w.heap.size + 1, 0, none⟩ (.int .i64 e)).heap[w.heap.size]? = some (.cells (arrV ts) 138) ∧ ((wr.setRow w.heap.size (arrV ts)).setCell ⟨w.heap.size + 1, 0, none⟩ (.int .i64 e)).heap[w.heap.size + 1]? = some (.cells #[.int .i64 e] 26)) := by
  obtain ⟨q1, q2⟩ := setRow_at h.box (arrV ts)
  have hlt := h.lt
  have s2 := q2.size
  have k := (q2.block (w.heap.size + 1) (by omega) (fun e => by have := Option.some.inj e; omega)).trans h.err
  obtain ⟨q3, q4⟩ := setCell_at (off := 0) k (.int .i64 e)
  exact ⟨k, below_row (below_row h.bl q2 (fun j e => by cases e; omega)) q4 (fun j e => by cases e; omega), (q4.block _ (by omega) (fun e => by have := Option.some.inj e; omega)).trans q1, q3⟩
theorem JArr.sameTabs {w wr : World} {ts : List Tb} {Ts : List PT} (h : JArr w wr ts Ts) (e : Int) : All2 (fun t T => OwnTab w.heap.size ((wr.setRow w.heap.size (arrV ts)).setCell ⟨w.heap.size + 1, 0, none⟩ (.int .i64 e)) t T) ts Ts := by
  obtain ⟨q1, q2⟩ := setRow_at h.box (arrV ts)
  have hlt := h.lt
  have s2 := q2.size
  have k := (q2.block (w.heap.size + 1) (by omega) (fun e => by have := Option.some.inj e; omega)).trans h.err
  obtain ⟨q3, q4⟩ := setCell_at (off := 0) k (.int .i64 e)
  exact h.tabs.mono fun x y hh => ((hh.far q2 (by omega)).far q4 (by omega)).low (by omega)
/-- Two cells that a region reads. -/
structure Two (a b : Addr) (x y : Value) (W : World) : Prop where
  c0 : W.cell? a = some x
  c1 : W.cell? b = some y
theorem Two.below {a b : Addr} {x y : Value} {W W' : World} (h : Two a b x y W) (hb : Below W.heap.size W W') : Two a b x y W' := ⟨(hb.cell (World.block_lt_of_cell? W _ h.c0)).trans h.c0, (hb.cell (World.block_lt_of_cell? W _ h.c1)).trans h.c1⟩
theorem Two.all {a b : Addr} {x y : Value} {W : World} (h : Two a b x y W) : W.cell? a = some x ∧ W.cell? b = some y := ⟨h.c0, h.c1⟩
theorem Two.store2 {g : Nat} {a b : Addr} {x y : Value} {W : World} (h : Two a b x y W) (ha : a.block ≠ g) (hb : b.block ≠ g) (i j : Nat) (u v : Value) : Two a b x y ((W.setCell ⟨g, i, none⟩ u).setCell ⟨g, j, none⟩ v) := by
  refine ⟨?_, ?_⟩
  · rw [World.cell?_setCell_other _ _ _ _ (fun e => ha (by rw [← e])), World.cell?_setCell_other _ _ _ _ (fun e => ha (by rw [← e]))]
    exact h.c0
  · rw [World.cell?_setCell_other _ _ _ _ (fun e => hb (by rw [← e])), World.cell?_setCell_other _ _ _ _ (fun e => hb (by rw [← e]))]
    exact h.c1
theorem Two.store3 {g r k : Nat} {x y : Value} {W : World} (h : Two ⟨g, r * 2, none⟩ ⟨g, r * 2 + 1, none⟩ x y W) (hne : r ≠ k) (u v : Value) : Two ⟨g, r * 2, none⟩ ⟨g, r * 2 + 1, none⟩ x y ((W.setCell ⟨g, k * 2, none⟩ u).setCell ⟨g, k * 2 + 1, none⟩ v) := by
  refine ⟨?_, ?_⟩
  · rw [World.cell?_setCell_other _ _ _ _ (fun e => by have := congrArg Addr.off e; simp at this; omega), World.cell?_setCell_other _ _ _ _ (fun e => by have := congrArg Addr.off e; simp at this; omega)]
    exact h.c0
  · rw [World.cell?_setCell_other _ _ _ _ (fun e => by have := congrArg Addr.off e; simp at this; omega), World.cell?_setCell_other _ _ _ _ (fun e => by have := congrArg Addr.off e; simp at this; omega)]
    exact h.c1
theorem JArr.cell {w wr : World} {ts : List Tb} {Ts : List PT} (h : JArr w wr ts Ts) {k : Nat} (hk : k < 64) (hl : ts.length ≤ 32) : ∃ v, wr.cell? ⟨w.heap.size, k, none⟩ = some v := by
  have hs := arrV_size hl
  exact ⟨_, cell_at_block (off := k) h.box (Array.getElem?_eq_getElem (by omega))⟩
theorem OwnRows.l {base : Nat} {w : World} {v : Value} {l : List (List Int)} (h : OwnRows base w v l) : RowsOwnL base base w v l := by
  obtain ⟨ss, h1, h2⟩ := h
  exact ⟨ss, h1, h2.mono fun x y h => h.ints⟩

theorem JArr.setE {w wr : World} {ts : List Tb} {Ts : List PT} (h : JArr w wr ts Ts) (e : Int) : Below w.heap.size w (wr.setCell ⟨w.heap.size + 1, 0, none⟩ (.int .i64 e)) ∧ (wr.setCell ⟨w.heap.size + 1, 0, none⟩ (.int .i64 e)).heap[w.heap.size]? = some (.cells (arrV ts) 138) ∧ (wr.setCell ⟨w.heap.size + 1, 0, none⟩ (.int .i64 e)).heap[w.heap.size + 1]? = some (.cells #[.int .i64 e] 26) := by
  have hlt := h.lt
  obtain ⟨q3, q4⟩ := setCell_at (off := 0) h.err (.int .i64 e)
  exact ⟨below_row h.bl q4 (fun j e => by cases e; omega), (q4.block _ (by omega) (fun e => by have := Option.some.inj e; omega)).trans h.box, q3⟩
theorem leaves_results {P : Program} {fn : Func} {t1 t2 : Array Value} {R : Ending → World → Prop} (he : results fn t1 = results fn t2) : ∀ (D : List Deferred), Leaves P fn t1 R D = Leaves P fn t2 R D
  | [] => by
    funext u w
    cases u <;> simp only [Leaves, he]
  | d :: D => by
    funext u w
    simp only [Leaves, leaves_results he D]
theorem panic_put {R : Ending → World → Prop} (d : Nat) (h2 : d ≠ 2) (h3 : d ≠ 3) (v : Value) (c : List PanicEntry) (a : Act) (w : World) (h : bodyPostD Tryz.prog Tryz.f107 R (.panic c) (a.put (some d) v) w) : bodyPostD Tryz.prog Tryz.f107 R (.panic c) a w := by
  have he : results Tryz.f107 (a.put (some d) v).tmps = results Tryz.f107 a.tmps := by
    simp [results, Tryz.results107, Act.put, Array.getElem?_setIfInBounds, h2, h3]
  show Leaves _ _ _ _ _ _ _
  rw [← leaves_results he]
  exact h

set_option maxRecDepth 100000 in
set_option maxHeartbeats 2000000 in
theorem joinsOf_any (A : Option Addr) (n cap : Nat) (l : List PT) (w : World) (h : TabsAt w 0 A n l) :
    Calls Tryz.prog 107 #[.slice A n cap] w (JoinsOut w l) := by
  have hl := h.len
  have hle := h.le
  generalize hW0 : (w.alloc (.cells (arrV []) 138)).alloc (.cells #[.int .i64 0] 26) = W0
  have hB0 : Below w.heap.size w W0 := by
    rw [← hW0]
    exact (below_new w _).alloc (by simp) _
  have hj0 : JArr w W0 [⟨⟨none, 0, 0⟩, ⟨none, 0, 0⟩⟩] [⟨[], []⟩] := by
    refine ⟨hB0, ?_, ?_, ⟨rfl, fun i x y h1 h2 => ?_⟩⟩
    · rw [← hW0, Below.heap_alloc _ _ _ (by simp)]
      exact new_block w (arrV []) _
    · rw [← hW0]
      have := new_block (w.alloc (.cells (arrV []) 138)) #[.int .i64 0] 26
      simpa using this
    · cases i with
      | succ i => simp at h1
      | zero =>
        simp at h1 h2
        subst h1 h2
        exact ⟨Own.nil _ _ _ _ _, ⟨[], Own.nil _ _ _ _ _, All2.nil _⟩⟩
  have HW0 := Lib.hid hW0
  have QC := Lib.hid (Check_any A n cap l W0 (h.below hB0))
  have J0 := Lib.hid hj0
  have H := Lib.hid h
  have HL := Lib.hid hl
  clear h hl hW0 hB0 hj0
  cases hgv : givenB l with
  | false =>
    rw [hgv] at QC
    have HE : Hid (joinsE l = 2) := by show _ = _; simp [joinsE, hgv]
    clear hgv
    go_enter_defers Tryz.func107, Tryz.ntmps107
    go_wp2_with fail
    change Calls _ _ _ ((w.alloc (.cells (arrV []) 138)).alloc (.cells #[.int .i64 0] 26)) _
    rw [HW0.out]
    (with_reducible refine QC.out.mono ?_)
    rintro e w1 ⟨rfl, hb1⟩
    have J1 := Lib.hid (J0.out.below hb1)
    have f1 := free_at_block (off := 0) J1.out.err
    have c1 := cell_at_block (off := 0) J1.out.err rfl
    have JS := Lib.hid (J1.out.same (by decide) 2)
    have f2 := free_at_block (off := 0) JS.out.1
    have c2 := cell_at_block (off := 0) JS.out.1 rfl
    clear hb1
    go_wp2_with (first
      | (refine wpList_load_row rfl 138 _ rfl w.heap.size rfl 138 (arrV [⟨⟨none, 0, 0⟩, ⟨none, 0, 0⟩⟩]) (0, 0) _ J1.out.box Tryz.underlying138 rfl (by rw [arrV_size (by decide)]; kernel_rfl) ?_)
      | (refine wpList_store_row rfl 138 _ _ rfl w.heap.size (arrV [⟨⟨none, 0, 0⟩, ⟨none, 0, 0⟩⟩]) rfl rfl 138 (arrV [⟨⟨none, 0, 0⟩, ⟨none, 0, 0⟩⟩]) J1.out.box (by rw [arrV_size (by decide)]; kernel_rfl) rfl arrV_one ?_))
    obtain ⟨-, hJ⟩ := JS.out
    refine ⟨_, results_ja rfl _ _ _ _ [⟨⟨none, 0, 0⟩, ⟨none, 0, 0⟩⟩] _ (by decide) rfl rfl hJ.2.1 hJ.2.2, hJ.1, _, [], by rw [HE.out], by decide, fun h => ?_⟩
    rw [HE.out] at h
    exact absurd h (by decide)
  | true =>
    rw [hgv] at QC
    have hg2 := hgv
    simp only [givenB, Bool.and_eq_true, decide_eq_true_eq, List.all_eq_true] at hg2
    have HF : Hid (∀ T ∈ l, Formed T ∧ T.rows.length ≤ 16) := by
      show ∀ T ∈ l, Formed T ∧ T.rows.length ≤ 16
      exact fun T hT => ⟨formed_of (hg2.2 T hT).1, (hg2.2 T hT).2⟩
    have hn1 : 1 ≤ n := by rw [← HL.out]; exact hg2.1.1
    have hn5 : n ≤ 5 := by rw [← HL.out]; exact hg2.1.2
    have HGV := Lib.hid hgv
    clear hgv hg2
    go_enter_defers Tryz.func107, Tryz.ntmps107
    go_wp2_with fail
    change Calls _ _ _ ((w.alloc (.cells (arrV []) 138)).alloc (.cells #[.int .i64 0] 26)) _
    rw [HW0.out]
    (with_reducible refine QC.out.mono ?_)
    rintro e w1 ⟨rfl, hb1⟩
    have J1 := Lib.hid (J0.out.below hb1)
    clear hb1 QC J0
    have hpn : pw n ≤ 32 := Nat.pow_le_pow_right (by decide) hn5
    have hpn1 := pw_pos n
    have hsl : IntKind.i64.wrap (2 ^ n) = ((pw n : Nat) : Int) := shl_nat (by omega)
    have hn0 : (0 : Int) ≤ n := by omega
    have hn64 : (n : Int) ≤ 64 := by omega
    go_wp2_with fail
    go_loopw [5] (fun i wr => ∃ k : Nat, ∃ ts Ts, i = .int .i64 k ∧ 1 ≤ k ∧ k ≤ pw n ∧ JArr w wr ts Ts ∧ ts.length = k ∧ (∀ T ∈ Ts, Formed T) ∧ joinsFrom l (pw n - k) k Ts = joinsB l) (fun i _ => pw n - (intOf i).toNat)
    case atStart =>
      refine ⟨1, [⟨⟨none, 0, 0⟩, ⟨none, 0, 0⟩⟩], [⟨[], []⟩], rfl, by omega, hpn1, J1.out, rfl, fun T hT => ?_, by unfold joinsB; rw [HL.out]⟩
      simp at hT
      subst hT
      exact ⟨rfl, by decide, (fun r hr => by cases hr), List.Pairwise.nil⟩
    case round =>
      clear J1
      obtain ⟨k, ts, Ts, rfl, hk1, hkn, hJ, htl, hFT, hjf⟩ := hrel
      have HJ := Lib.hid hJ
      have HTL := Lib.hid htl
      have HFT := Lib.hid hFT
      have HJF := Lib.hid hjf
      clear hJ htl hFT hjf
      by_cases hlt : k < pw n
      · have hi1 : (k : Int) < ((pw n : Nat) : Int) := by omega
        have hk32 : k < 32 := by omega
        obtain ⟨wo, rfl⟩ : ∃ x, x = wr := ⟨_, rfl⟩
        have hshr := fun (j : Nat) => shr_nat k j
        go_wp2_with fail
        go_loopw [6] (fun i wr => ∃ j : Nat, i = .int .i64 j ∧ j ≤ lastT k ∧ wr = wo) (fun i _ => lastT k - (intOf i).toNat)
        case atStart => exact ⟨0, rfl, by omega, rfl⟩
        case round =>
          obtain ⟨j, rfl, hj, rfl⟩ := hrel
          have hlk := lastT_lt hlt hk1
          have hj0 : (0 : Int) ≤ j := by omega
          have hj64 : (j : Int) < 64 := by omega
          have hsh := shr_nat k j
          by_cases hlt2 : j < lastT k
          · have hgt : (1 : Int) < ((k >>> j : Nat) : Int) := by have := (shr_last k hk32 hk1 j (by omega)).2 hlt2; omega
            have hd : decide ((1 : Int) < (k : Int) / 2 ^ j) = true := by rw [hsh, decide_eq_true_eq]; exact hgt
            clear hshr hsh hgt
            go_wp2_with fail
            exact ⟨⟨j + 1, by go_num, by omega, by first | rfl | trivial⟩, by simp [intOf]; omega⟩
          · have hgt : ¬ (1 : Int) < ((k >>> j : Nat) : Int) := by have := mt (shr_last k hk32 hk1 j (by omega)).1 hlt2; omega
            have hjk : j = lastT k := by omega
            subst hjk
            have hd : decide ((1 : Int) < (k : Int) / 2 ^ (lastT k)) = false := by rw [hsh, decide_eq_false_iff_not]; exact hgt
            have hlast : l[lastT k]? = some (l[lastT k]'(by rw [HL.out]; exact hlk)) := List.getElem?_eq_getElem _
            generalize l[lastT k]'(by rw [HL.out]; exact hlk) = TL at hlast
            have hgd : l.getD (lastT k) ⟨[], []⟩ = TL := by rw [List.getD_eq_getElem?_getD, hlast]; rfl
            have hpl := pw_lastT hk1
            have hpl2 : pw (lastT k) ≤ 32 := Nat.le_trans hpl (by omega)
            have hslj : IntKind.i64.wrap (2 ^ (lastT k)) = ((pw (lastT k) : Nat) : Int) := shl_nat (by omega)
            have hbd := bandnot_nat (a := k) (b := pw (lastT k)) (by omega) (by omega)
            rw [bdiff_last k hk32 hk1] at hbd
            have HLT := Lib.hid hlast
            have HGD := Lib.hid hgd
            have HJF2 := HJF.out
            obtain ⟨m, hm⟩ : ∃ m, pw n - k = m + 1 := ⟨pw n - k - 1, by omega⟩
            rw [hm, joinsFrom, hgd] at HJF2
            have hm' : m = pw n - (k + 1) := by omega
            subst hm'
            have hll : lastT k < 5 := by omega
            generalize hLK : lastT k = L at *
            have hpl1 := pw_pos L
            generalize hPL : pw L = pl at *
            obtain ⟨b1, o1, t, T', hbA, -, hT', d0, d1, hTT⟩ := (H.out.below HJ.out.bl).at_ hlk
            subst hbA
            have hb1w : b1 < w.heap.size := by
              obtain ⟨b2, o2, t2, T2, e2, -, -, g0, -⟩ := H.out.at_ hlk
              cases e2
              exact World.block_lt_of_cell? _ _ g0
            have hb1n : b1 ≠ w.heap.size := by omega
            have hk320 : (0 : Int) ≤ k := by omega
            have hk321 : (k : Int) < 32 := by omega
            have hTT' : T' = TL := by have := hT'.symm.trans HLT.out; exact Option.some.inj this
            subst hTT'
            have hFL := HF.out T' (List.mem_of_getElem? hT')
            have hiL : (L : Int) < n := by omega
            have hiL0 : (0 : Int) ≤ L := by omega
            have HTT := Lib.hid hTT
            have HFL := Lib.hid hFL
            have HMM := Lib.hid hm
            clear hshr hlast hgd hT' hTT hFL hm hsh hlt2 hj hLK hgt
            by_cases hr0 : k - pl = 0
            · rw [if_pos hr0] at HJF2
              have HJ2 := Lib.hid HJF2
              have hr0' : (((k - pl : Nat) : Int) == 0) = true := by rw [hr0]; rfl
              have hr0n : ((k - pl) == 0) = true := by rw [hr0]; rfl
              clear HJF2
              have Q1 := Lib.hid (fun W (hW : Below wr.heap.size wr W) => CloneI_any t.cols.A t.cols.n t.cols.cap T'.cols W (Rd.below HTT.out.1 hW) (by rw [← HTT.out.1.len]; have := HFL.out.1.ncols; omega))
              have Q2 := Lib.hid (fun W (hW : Below wr.heap.size wr W) => copied_any t.rows T'.rows W (HTT.out.2.below hW) (by rw [← HTT.out.2.len]; have := HFL.out.2; omega) (fun r hr => by rw [(HFL.out.1.row r hr).1]; have := HFL.out.1.ncols; omega))
              have K0 := Lib.hid (Two.mk d0 d1)
              have htl2 : ts.length ≤ 32 := by rw [HTL.out]; omega
              clear d0 d1
              go_wp2_with fail
              go_cut [] from 33 to 47 (fun wz => ∃ ts2, JArr w wz ts2 (Ts ++ [T']) ∧ ts2.length = k + 1)
              case first =>
                go_region_held3 (fun w' => w'.cell? ⟨b1, o1 + L * 2, none⟩ = some (.slice t.cols.A t.cols.n t.cols.cap) ∧ w'.cell? ⟨b1, o1 + L * 2 + 1, none⟩ = some (.slice t.rows.A t.rows.n t.rows.cap))
                  (first
                    | assumption
                    | exact (K0.out.below ((Below.refl wr.heap.size wr).drew)).all
                    | exact K3.out.all
                    | exact K2.out.all
                    | exact (K4.out _ _ _ _).all)
                  (first
                    | (go_at_call 80; (with_reducible refine (Q1.out _ (by repeat' first | exact Below.refl _ _ | refine Below.drew ?_)).mono ?_); rintro e w2 ⟨v2, rfl, hown2, hb2⟩; obtain ⟨A2, n2, c2, rfl⟩ := hown2.shapeN; have HO2 := Lib.hid hown2; have HB2 := Lib.hid (bchain ((Below.refl wr.heap.size wr).drew) hb2); have K2 := Lib.hid (K0.out.below HB2.out); clear hown2 hb2)
                    | (go_at_call 88; (with_reducible refine (Q2.out _ HB2.out).mono ?_); rintro e w3 ⟨v3, rfl, hown3, hb3⟩; obtain ⟨A3, c3, rfl⟩ := hown3.shape; have HO3 := Lib.hid hown3; have HB3 := Lib.hid hb3; have J3 := Lib.hid (HJ.out.below (bchain HB2.out hb3)); have K3 := Lib.hid (K2.out.below hb3); have K4 := Lib.hid (fun i j u v => K3.out.store2 hb1n hb1n i j u v); obtain ⟨x0, y0⟩ := J3.out.cell (k := k * 2) (by omega) htl2; obtain ⟨x1, y1⟩ := J3.out.cell (k := k * 2 + 1) (by omega) htl2; have f0 := free_at_block (off := k * 2) J3.out.box; have f1 := free_at_block (off := k * 2 + 1) J3.out.box; clear hown3 hb3))
                all_goals
                  go_wp2_with fail
                  go_meet
                  have p1 := J3.out.push (t := ⟨⟨A2, n2, c2⟩, ⟨A3, T'.rows.length, c3⟩⟩) (T := T') ⟨(HO2.out.below HB3.out).low (by have := HJ.out.lt; show w.heap.size + 2 ≤ wr.heap.size; omega), HO3.out.l.lowB (by have := HB2.out.size; have := HJ.out.lt; omega) (by have := HB2.out.size; have := HJ.out.lt; omega)⟩ (by rw [HTL.out]; exact hk32)
                  rw [HTL.out] at p1
                  exact ⟨_, p1, by simp [HTL.out]⟩
              case rest =>
                obtain ⟨ts2, hJ2, htl2⟩ := hcut
                have HJn := Lib.hid hJ2
                have HTn := Lib.hid htl2
                clear hJ2 htl2
                go_wp2_with fail
                refine ⟨⟨k + 1, ts2, Ts ++ [T'], by go_num, by omega, by omega, HJn.out, HTn.out, fun T hT => ?_, HJ2.out⟩, by simp [intOf]; omega⟩
                rcases List.mem_append.1 hT with hT | hT
                · exact HFT.out T hT
                · simp at hT; subst hT; exact HFL.out.1
            · rw [if_neg hr0] at HJF2
              have hr0' : (((k - pl : Nat) : Int) == 0) = false := by simp; omega
              have hr0n : ((k - pl) == 0) = false := by simp; omega
              have htT : Ts.length = k := by rw [← HJ.out.tabs.1, HTL.out]
              obtain ⟨r, hr⟩ : ∃ r, k - pl = r := ⟨_, rfl⟩
              rw [hr] at HJF2 hr0' hr0n hbd
              have hrk : r < k := by omega
              have htr : ts[r]? = some (ts[r]'(by rw [HTL.out]; exact hrk)) := List.getElem?_eq_getElem _
              generalize ts[r]'(by rw [HTL.out]; exact hrk) = tr at htr
              have hTr : Ts[r]? = some (Ts[r]'(by omega)) := List.getElem?_eq_getElem _
              generalize Ts[r]'(by omega) = Tr at hTr
              have hgd2 : Ts.getD r ⟨[], []⟩ = Tr := by rw [List.getD_eq_getElem?_getD, hTr]; rfl
              rw [hgd2] at HJF2
              have hOT := HJ.out.tabs.2 r tr Tr htr hTr
              have QJ := Lib.hid (fun W (hW : Below wr.heap.size wr W) => joined_any tr.cols.A tr.rows.A t.cols.A t.rows.A tr.cols.n tr.rows.n tr.cols.cap tr.rows.cap t.cols.n t.rows.n t.cols.cap t.rows.cap Tr T' W ((hOT.tab.low (Nat.zero_le _)).below hW) (HTT.out.below hW) (HFT.out Tr (List.mem_of_getElem? hTr)) HFL.out.1)
              have HFJ := Lib.hid (fun T (hT : joinB Tr T' = some T) => joinB_formed (HFT.out Tr (List.mem_of_getElem? hTr)) HFL.out.1 hT)
              have e0 := cell_at_block (off := r * 2) HJ.out.box (arrV_at htr).1
              have e1 := cell_at_block (off := r * 2 + 1) HJ.out.box (arrV_at htr).2
              have K0 := Lib.hid (Two.mk d0 d1)
              have L0 := Lib.hid (Two.mk e0 e1)
              have htl2 : ts.length ≤ 32 := by rw [HTL.out]; omega
              have hrne : r ≠ k := by omega
              have hr320 : (0 : Int) ≤ r := by omega
              have hr321 : (r : Int) < 32 := by omega
              clear d0 d1 e0 e1 hgd2 hOT htr hTr htT hr
              cases hjb : joinB Tr T' with
              | none =>
                rw [hjb] at HJF2 QJ
                have HE : Hid (joinsE l = 3) := by show _ = _; unfold joinsE; rw [HGV.out, ← HJF2]; rfl
                clear HJF2 hjb
                go_wp2_with fail
                refine wp_region_held_drew (S := fun w' => w'.cell? ⟨b1, o1 + L * 2, none⟩ = some (.slice t.cols.A t.cols.n t.cols.cap) ∧ w'.cell? ⟨b1, o1 + L * 2 + 1, none⟩ = some (.slice t.rows.A t.rows.n t.rows.cap) ∧ w'.cell? ⟨w.heap.size, r * 2, none⟩ = some (.slice tr.cols.A tr.cols.n tr.cols.cap) ∧ w'.cell? ⟨w.heap.size, r * 2 + 1, none⟩ = some (.slice tr.rows.A tr.rows.n tr.rows.cap)) (by kernel_rfl) ⟨(K0.out.below ((Below.refl wr.heap.size wr).drew)).c0, (K0.out.below ((Below.refl wr.heap.size wr).drew)).c1, (L0.out.below ((Below.refl wr.heap.size wr).drew)).c0, (L0.out.below ((Below.refl wr.heap.size wr).drew)).c1⟩ (fun hHeld => ?_)
                refine wpAnyH_take (i := 0) (v := ?v0) rfl (by kernel_rfl) (by kernel_rfl) (by kernel_rfl) (fun c a' w' h => panic_put 48 (by decide) (by decide) _ c a' w' h) (Or.inl ⟨by rfl, ?hy0⟩) hHeld ?rest0
                case hy0 => (intro w' hSw; (try dsimp only at hSw); go_simp; try with_reducible rfl)
                try simp only [Act.put, List.getElem_toArray, List.getElem_cons_zero, List.setIfInBounds_toArray, List.set_cons_zero, List.set_cons_succ]
                refine wpAnyH_take (i := 1) (v := ?v1) rfl (by kernel_rfl) (by kernel_rfl) (by kernel_rfl) (fun c a' w' h => panic_put 49 (by decide) (by decide) _ c a' w' h) (Or.inl ⟨by rfl, ?hy1⟩) hHeld ?rest1
                case hy1 => (intro w' hSw; (try dsimp only at hSw); go_simp; try with_reducible rfl)
                try simp only [Act.put, List.getElem_toArray, List.getElem_cons_zero, List.getElem_cons_succ, List.setIfInBounds_toArray, List.set_cons_zero, List.set_cons_succ]
                refine wpAnyH_take (i := 2) (v := ?v2) rfl (by kernel_rfl) (by kernel_rfl) (by kernel_rfl) (fun c a' w' h => panic_put 50 (by decide) (by decide) _ c a' w' h) (Or.inl ⟨by rfl, ?hy2⟩) hHeld ?rest2
                case hy2 => (intro w' hSw; (try dsimp only at hSw); go_simp; try with_reducible rfl)
                try simp only [Act.put, List.getElem_toArray, List.getElem_cons_zero, List.getElem_cons_succ, List.setIfInBounds_toArray, List.set_cons_zero, List.set_cons_succ]
                refine wpAnyH_take (i := 3) (v := ?v3) rfl (by kernel_rfl) (by kernel_rfl) (by kernel_rfl) (fun c a' w' h => panic_put 51 (by decide) (by decide) _ c a' w' h) (Or.inl ⟨by rfl, ?hy3⟩) hHeld ?rest3
                case hy3 => (intro w' hSw; (try dsimp only at hSw); go_simp; try with_reducible rfl)
                try simp only [Act.put, List.getElem_toArray, List.getElem_cons_zero, List.getElem_cons_succ, List.setIfInBounds_toArray, List.set_cons_zero, List.set_cons_succ]
                refine wpAnyH_take (i := 4) (v := ?v4) rfl (by kernel_rfl) (by kernel_rfl) (by kernel_rfl) (fun c a' w' h => panic_put 52 (by decide) (by decide) _ c a' w' h) (Or.inl ⟨by rfl, ?hy4⟩) hHeld ?rest4
                case hy4 => (intro w' hSw; (try dsimp only at hSw); go_simp; try with_reducible rfl)
                try simp only [Act.put, List.getElem_toArray, List.getElem_cons_zero, List.getElem_cons_succ, List.setIfInBounds_toArray, List.set_cons_zero, List.set_cons_succ]
                refine wpAnyH_take (i := 5) (v := ?v5) rfl (by kernel_rfl) (by kernel_rfl) (by kernel_rfl) (fun c a' w' h => panic_put 53 (by decide) (by decide) _ c a' w' h) (Or.inl ⟨by rfl, ?hy5⟩) hHeld ?rest5
                case hy5 => (intro w' hSw; (try dsimp only at hSw); go_simp; try with_reducible rfl)
                try simp only [Act.put, List.getElem_toArray, List.getElem_cons_zero, List.getElem_cons_succ, List.setIfInBounds_toArray, List.set_cons_zero, List.set_cons_succ]
                refine wpAnyH_take (i := 6) (v := ?v6) rfl (by kernel_rfl) (by kernel_rfl) (by kernel_rfl) (fun c a' w' h => panic_put 54 (by decide) (by decide) _ c a' w' h) (Or.inl ⟨by rfl, ?hy6⟩) hHeld ?rest6
                case hy6 => (intro w' hSw; (try dsimp only at hSw); go_simp; try with_reducible rfl)
                try simp only [Act.put, List.getElem_toArray, List.getElem_cons_zero, List.getElem_cons_succ, List.setIfInBounds_toArray, List.set_cons_zero, List.set_cons_succ]
                refine wpAnyH_take (i := 7) (v := ?v7) rfl (by kernel_rfl) (by kernel_rfl) (by kernel_rfl) (fun c a' w' h => panic_put 55 (by decide) (by decide) _ c a' w' h) (Or.inl ⟨by rfl, ?hy7⟩) hHeld ?rest7
                case hy7 => (intro w' hSw; (try dsimp only at hSw); go_simp; try with_reducible rfl)
                try simp only [Act.put, List.getElem_toArray, List.getElem_cons_zero, List.getElem_cons_succ, List.setIfInBounds_toArray, List.set_cons_zero, List.set_cons_succ]
                refine wpAnyH_ready (rs := [8]) (by kernel_rfl) (by simp) (AllReadyH.cons rfl (fun K hK => ?_) AllReadyH.nil)
                go_simp
                (with_reducible refine (QJ.out _ ((Below.refl wr.heap.size wr).drew)).mono ?_)
                rintro e w2 ⟨hb2, rfl⟩
                have J3 := HJ.out.below (bchain ((Below.refl wr.heap.size wr).drew) hb2)
                have J4 := (J3.below (below_new w2 (.cells #[] 177))).setE 3
                show Leaves _ _ _ _ _ _ _
                refine leaves_cons (f := 104) (args := #[.pointer (some ⟨w.heap.size + 1, 0, none⟩)]) (by simp) (by simp [go_sem]) ?_
                refine (catch_long _ _ _ J3.err).mono ?_
                rintro e u' w4 ⟨rfl, rfl, rfl⟩
                refine ⟨_, results_ja rfl _ _ _ _ ts _ htl2 rfl rfl J4.2.1 J4.2.2, J4.1, ts, [], by rw [HE.out], htl2, fun h => ?_⟩
                rw [HE.out] at h
                exact absurd h (by decide)
              | some TJ =>
                rw [hjb] at HJF2 QJ
                have HJ2 := Lib.hid HJF2
                have HFJ2 := Lib.hid (HFJ.out TJ hjb)
                clear HJF2 hjb
                go_wp2_with fail
                go_region_held3 (fun w' => w'.cell? ⟨b1, o1 + L * 2, none⟩ = some (.slice t.cols.A t.cols.n t.cols.cap) ∧ w'.cell? ⟨b1, o1 + L * 2 + 1, none⟩ = some (.slice t.rows.A t.rows.n t.rows.cap) ∧ w'.cell? ⟨w.heap.size, r * 2, none⟩ = some (.slice tr.cols.A tr.cols.n tr.cols.cap) ∧ w'.cell? ⟨w.heap.size, r * 2 + 1, none⟩ = some (.slice tr.rows.A tr.rows.n tr.rows.cap))
                    (first
                      | assumption
                      | exact ⟨(K0.out.below ((Below.refl wr.heap.size wr).drew)).c0, (K0.out.below ((Below.refl wr.heap.size wr).drew)).c1, (L0.out.below ((Below.refl wr.heap.size wr).drew)).c0, (L0.out.below ((Below.refl wr.heap.size wr).drew)).c1⟩
                      | exact ⟨(K0.out.below HB2.out).c0, (K0.out.below HB2.out).c1, (L0.out.below HB2.out).c0, (L0.out.below HB2.out).c1⟩
                      | exact ⟨(K4.out _ _ _ _).c0, (K4.out _ _ _ _).c1, (L4.out _ _).c0, (L4.out _ _).c1⟩)
                    (first
                      | (go_at_call 105; (with_reducible refine (QJ.out _ (by repeat' first | exact Below.refl _ _ | refine Below.drew ?_)).mono ?_); rintro e w2 ⟨hb2, t2, rfl, hO2⟩; have HB2 := Lib.hid (bchain ((Below.refl wr.heap.size wr).drew) hb2); have HO2 := Lib.hid hO2; have J3 := Lib.hid (HJ.out.below HB2.out); have K4 := Lib.hid (fun i j u v => (K0.out.below HB2.out).store2 hb1n hb1n i j u v); have L4 := Lib.hid (fun u v => (L0.out.below HB2.out).store3 hrne u v); obtain ⟨x0, y0⟩ := J3.out.cell (k := k * 2) (by omega) htl2; obtain ⟨x1, y1⟩ := J3.out.cell (k := k * 2 + 1) (by omega) htl2; have f0 := free_at_block (off := k * 2) J3.out.box; have f1 := free_at_block (off := k * 2 + 1) J3.out.box; clear hb2 hO2))
                all_goals
                  have p1 := J3.out.push (t := t2) (T := TJ) (HO2.out.low (by have := HJ.out.lt; show w.heap.size + 2 ≤ wr.heap.size; omega)) (by rw [HTL.out]; exact hk32)
                  rw [HTL.out] at p1
                  have HP1 := Lib.hid p1
                  clear p1 x0 y0 x1 y1 f0 f1
                  go_wp2_with fail
                  refine ⟨⟨k + 1, _, Ts ++ [TJ], by go_num, by omega, by omega, HP1.out, by simp [HTL.out], fun T hT => ?_, HJ2.out⟩, by simp [intOf]; omega⟩
                  rcases List.mem_append.1 hT with hT | hT
                  · exact HFT.out T hT
                  · simp at hT; subst hT; exact HFJ2.out
      · have hk' : k = pw n := by omega
        have hJB : joinsB l = some Ts := by
          have := HJF.out
          rw [hk', Nat.sub_self, joinsFrom] at this
          exact this.symm
        have HE : Hid (joinsE l = 0) := by show _ = _; unfold joinsE; rw [HGV.out, hJB]; rfl
        have HJB := Lib.hid hJB
        have htl2 : ts.length ≤ 32 := by rw [HTL.out]; omega
        have JS := Lib.hid (HJ.out.same htl2 0)
        have JT := Lib.hid (HJ.out.sameTabs 0)
        have f2 := free_at_block (off := 0) JS.out.1
        have c2 := cell_at_block (off := 0) JS.out.1 rfl
        have d1 : decide ((k : Int) < ((pw n : Nat) : Int)) = false := by rw [decide_eq_false_iff_not]; omega
        have d2 : decide (k < pw n) = false := by rw [decide_eq_false_iff_not]; omega
        clear hlt hk' hJB
        go_wp2_with (first
          | (refine wpList_load_row rfl 138 _ rfl w.heap.size rfl 138 (arrV ts) (0, 0) _ HJ.out.box Tryz.underlying138 rfl (by rw [arrV_size htl2]; kernel_rfl) ?_)
          | (refine wpList_store_row rfl 138 _ _ rfl w.heap.size (arrV ts) rfl rfl 138 (arrV ts) HJ.out.box (by rw [arrV_size htl2]; kernel_rfl) rfl arrV_one ?_))
        refine leaves_cons (f := 104) (args := #[.pointer (some ⟨w.heap.size + 1, 0, none⟩)]) (by simp) (by simp [go_sem]) ?_
        refine (catch_ok _ _).mono ?_
        rintro e u' w4 ⟨rfl, rfl, rfl⟩
        obtain ⟨-, hJ⟩ := JS.out
        exact ⟨_, results_ja rfl _ _ _ _ ts _ htl2 rfl rfl hJ.2.1 hJ.2.2, hJ.1, ts, Ts, by rw [HE.out], htl2, fun _ => ⟨HJB.out, HFT.out, JT.out⟩⟩
end Go.Proofs.Bg
end

section
/- Contract: sizesOf. -/
namespace Go.Proofs.Bg
open Go.RowKit

/-- 32 numbers in a row. -/
def intsV (S : List Int) : Array Value := (S.map (Value.int .i64)).toArray
theorem intsV_size (S : List Int) : (intsV S).size = S.length := by simp [intsV]
theorem intsV_one (S : List Int) : (intsV S).all (·.oneCell') = true := Array.all_eq_true_iff_forall_mem.2 fun v hv => by
  simp only [intsV, List.mem_toArray, List.mem_map] at hv
  obtain ⟨x, _, rfl⟩ := hv
  rfl
theorem intsV_at {S : List Int} {i : Nat} (h : i < S.length) : (intsV S)[i]? = some (.int .i64 S[i]) := by simp [intsV, h]
theorem intsV_set (S : List Int) (i : Nat) (x : Int) : (intsV S).setIfInBounds i (.int .i64 x) = intsV (S.set i x) := by
  simp [intsV, List.map_set]
/-- A table of the array. -/
def tabOf (ts : List Tb) (i : Nat) : Tb := ts.getD i ⟨⟨none, 0, 0⟩, ⟨none, 0, 0⟩⟩
theorem tabOf_cells {ts : List Tb} (h : ts.length ≤ 32) {i : Nat} (hi : i < 32) : (arrV ts)[i * 2]? = some (.slice (tabOf ts i).cols.A (tabOf ts i).cols.n (tabOf ts i).cols.cap) ∧ (arrV ts)[i * 2 + 1]? = some (.slice (tabOf ts i).rows.A (tabOf ts i).rows.n (tabOf ts i).rows.cap) := by
  by_cases hl : i < ts.length
  · have ht : ts[i]? = some ts[i] := List.getElem?_eq_getElem hl
    have : tabOf ts i = ts[i] := by simp [tabOf, hl]
    rw [this]
    exact arrV_at ht
  · have : tabOf ts i = ⟨⟨none, 0, 0⟩, ⟨none, 0, 0⟩⟩ := by simp [tabOf, List.getElem?_eq_none (Nat.le_of_not_lt hl)]
    rw [this]
    have hfl := flat_length Tb.vs_length ts
    unfold arrV
    simp only [List.getElem?_toArray]
    rw [List.getElem?_append_right (by omega), List.getElem?_append_right (by omega), List.getElem?_replicate, List.getElem?_replicate, if_pos (by omega), if_pos (by omega)]
    exact ⟨rfl, rfl⟩
theorem extract2 {cs : Array Value} {a b : Value} {i : Nat} (h0 : cs[i]? = some a) (h1 : cs[i + 1]? = some b) : cs.extract i (i + 2) = #[a, b] := by
  apply Array.ext_getElem?
  intro j
  rw [Array.getElem?_extract]
  have hs := (Array.getElem?_eq_some_iff.1 h1).1
  match j with
  | 0 => rw [if_pos (by omega)]; simpa using h0
  | 1 => rw [if_pos (by omega)]; simpa using h1
  | j + 2 => rw [if_neg (by omega)]; simp
theorem run_indexTab {ts : List Tb} (h : ts.length ≤ 32) {i : Nat} (hi : i < 32) (w : World) :
    (Instr.index 138 (.agg (arrV ts)) (.int .i64 i)).run Tryz.prog w = .ok (.agg #[.slice (tabOf ts i).cols.A (tabOf ts i).cols.n (tabOf ts i).cols.cap, .slice (tabOf ts i).rows.A (tabOf ts i).rows.n (tabOf ts i).rows.cap]) w := by
  have h1 : (Tryz.prog.info? 40).map (·.size) = some 2 := by kernel_rfl
  obtain ⟨c0, c1⟩ := tabOf_cells h hi
  have he := extract2 c0 c1
  have hb : 0 ≤ (i : Int) ∧ (i : Int) < 32 := by omega
  have hagg : (isAgg 40).run Tryz.prog w = .ok true w := by
    unfold isAgg
    rw [Sem.run_bind, run_underlying Tryz.underlying40 w]
    simp
  cases hq : Tryz.prog.info? 40 with
  | none => rw [hq] at h1; cases h1
  | some inf =>
    have hs : inf.size = 2 := by rw [hq] at h1; simpa using h1
    simp [Instr.index, run_underlying Tryz.underlying138, asIntOf, hb, go_sem, part, sizeOf, typeInfo, hq, hs, he]
    intro h
    omega
def sz32 (Ts : List PT) : List Int := (List.range 32).map fun i => (((Ts.getD i ⟨[], []⟩).rows.length : Nat) : Int)
theorem sz32_length (Ts : List PT) : (sz32 Ts).length = 32 := by simp [sz32]
def sizesR (l : List PT) : List Int := if joinsE l = 0 then (match joinsB l with | some Ts => sz32 Ts | none => List.replicate 32 0) else List.replicate 32 0
theorem sizesR_ok {l : List PT} {Ts : List PT} (h : joinsE l = 0) (h2 : joinsB l = some Ts) : sizesR l = sz32 Ts := by unfold sizesR; rw [if_pos h, h2]
theorem sizesR_no {l : List PT} (h : joinsE l ≠ 0) : sizesR l = List.replicate 32 0 := by unfold sizesR; rw [if_neg h]
theorem joinsE_cases (l : List PT) : joinsE l = 0 ∨ joinsE l = 2 ∨ joinsE l = 3 := by
  unfold joinsE
  cases givenB l with
  | false => exact .inr (.inl rfl)
  | true => cases joinsB l with
    | none => exact .inr (.inr rfl)
    | some Ts => exact .inl rfl
theorem results_sz {fn : Func} {p q : Tmp} (h : fn.results = #[.cell p 95, .tmp q]) (tmps : Array Value) (w : World) (g : Nat) (S : List Int) (hS : S.length = 32) (hp : tmps.getD p undef = .pointer (some ⟨g, 0, none⟩)) (hg : w.heap[g]? = some (.cells (intsV S) 95)) :
    (results fn tmps).run Tryz.prog w = .ok (.tuple #[.agg (intsV S), tmps.getD q undef]) w := by
  have hp' : tmps[p]?.getD undef = .pointer (some ⟨g, 0, none⟩) := by simpa using hp
  have hl := run_loadVar_row (P := Tryz.prog) w g 95 95 (intsV S) (0, 0) _ hg Tryz.underlying95 rfl (by rw [intsV_size, hS]; kernel_rfl)
  simp [results, h, hp', asAddr, hl, Result.andThen]
/-- The sizes so far. -/
def szTo (ts : List Tb) (k : Nat) : List Int := ((List.range 32).map fun i => if i < k then (((tabOf ts i).rows.n : Nat) : Int) else 0)
theorem szTo_length (ts : List Tb) (k : Nat) : (szTo ts k).length = 32 := by simp [szTo]
theorem szTo_zero (ts : List Tb) : szTo ts 0 = List.replicate 32 0 := by
  apply List.ext_getElem (by simp [szTo])
  intro i h1 h2
  rw [List.getElem_replicate]
  simp [szTo]
theorem szTo_succ (ts : List Tb) (k : Nat) (_ : k < 32) : szTo ts (k + 1) = (szTo ts k).set k (((tabOf ts k).rows.n : Nat) : Int) := by
  apply List.ext_getElem (by simp [szTo])
  intro i h1 h2
  rw [List.getElem_set]
  simp only [szTo, List.getElem_map, List.getElem_range]
  by_cases h : k = i
  · subst h
    simp
  · rw [if_neg h]
    by_cases h3 : i < k
    · rw [if_pos h3, if_pos (by omega)]
    · rw [if_neg h3, if_neg (by omega)]
theorem szTo_all {base : Nat} {w : World} {ts : List Tb} {Ts : List PT} (h : All2 (fun t T => OwnTab base w t T) ts Ts) : szTo ts 32 = sz32 Ts := by
  apply List.ext_getElem (by simp [szTo, sz32])
  intro i h1 h2
  simp only [szTo, sz32, List.getElem_map, List.getElem_range]
  have h3 : i < 32 := by simpa [szTo] using h1
  rw [if_pos h3]
  by_cases hi : i < ts.length
  · have hi2 : i < Ts.length := by rw [← h.1]; exact hi
    have ho := h.2 i _ _ (List.getElem?_eq_getElem hi) (List.getElem?_eq_getElem hi2)
    have e1 : tabOf ts i = ts[i] := by simp [tabOf, hi]
    have e2 : Ts.getD i ⟨[], []⟩ = Ts[i] := by simp [hi2]
    rw [e1, e2, ho.tab.2.len]
  · have hi2 : ¬ i < Ts.length := by rw [← h.1]; exact hi
    have e1 : tabOf ts i = ⟨⟨none, 0, 0⟩, ⟨none, 0, 0⟩⟩ := by simp [tabOf, List.getElem?_eq_none (Nat.le_of_not_lt hi)]
    have e2 : Ts.getD i ⟨[], []⟩ = ⟨[], []⟩ := by simp [List.getElem?_eq_none (Nat.le_of_not_lt hi2)]
    rw [e1, e2]
    rfl

set_option maxRecDepth 100000 in
set_option maxHeartbeats 2000000 in
theorem sizesOf_any (A : Option Addr) (n cap : Nat) (l : List PT) (w : World) (h : TabsAt w 0 A n l) :
    Calls Tryz.prog 70 #[.slice A n cap] w fun e w' => e = .returned (.tuple #[.agg (intsV (sizesR l)), .int .i64 (joinsE l)]) ∧ Below w.heap.size w w' := by
  generalize hW0 : (w.alloc (.cells (intsV (List.replicate 32 0)) 95)).alloc (.cells (intsV (List.replicate 32 0)) 95) = W0
  have hB0 : Below w.heap.size w W0 := by
    rw [← hW0]
    exact (below_new w _).alloc (by simp) _
  have h0 : W0.heap[w.heap.size]? = some (.cells (intsV (List.replicate 32 0)) 95) := by
    rw [← hW0, Below.heap_alloc _ _ _ (by simp)]
    exact new_block _ _ _
  have h1 : W0.heap[w.heap.size + 1]? = some (.cells (intsV (List.replicate 32 0)) 95) := by
    rw [← hW0]
    have := new_block (w.alloc (.cells (intsV (List.replicate 32 0)) 95)) (intsV (List.replicate 32 0)) 95
    simpa using this
  have HW0 := Lib.hid hW0
  have HB0 := Lib.hid hB0
  have H0 := Lib.hid h0
  have H1 := Lib.hid h1
  have Q := Lib.hid (joinsOf_any A n cap l W0 (h.below hB0))
  clear h hW0 hB0 h0 h1
  go_enter Tryz.func70, Tryz.ntmps70
  go_wp2_with fail
  change Calls _ _ _ ((w.alloc (.cells (intsV (List.replicate 32 0)) 95)).alloc (.cells (intsV (List.replicate 32 0)) 95)) _
  rw [HW0.out]
  (with_reducible refine Q.out.mono ?_)
  rintro e w1 ⟨hb1, ts, Ts, rfl, htl, hok⟩
  have HB1 := Lib.hid (bchain HB0.out hb1)
  have H01 := Lib.hid ((hb1.block _ (Array.getElem?_eq_some_iff.1 H0.out).1).trans H0.out)
  have H11 := Lib.hid ((hb1.block _ (Array.getElem?_eq_some_iff.1 H1.out).1).trans H1.out)
  have HOK := Lib.hid hok
  clear hb1 hok Q
  have hbn : Below w1.heap.size w1 ((w1.alloc (.cells (arrV []) 138)).setRow w1.heap.size (arrV ts)) := below_row (below_new w1 _) (setRow_at (new_block w1 (arrV []) 138) (arrV ts)).2 (fun j e => by cases e; exact Nat.le_refl _)
  have hbx := (setRow_at (new_block w1 (arrV []) 138) (arrV ts)).1
  have HB2 := Lib.hid (bchain HB1.out hbn)
  have H02 := Lib.hid ((hbn.block _ (Array.getElem?_eq_some_iff.1 H01.out).1).trans H01.out)
  have H12 := Lib.hid ((hbn.block _ (Array.getElem?_eq_some_iff.1 H11.out).1).trans H11.out)
  have HBX := Lib.hid hbx
  have hne : w1.heap.size ≠ w.heap.size + 1 := by have := (Array.getElem?_eq_some_iff.1 H11.out).1; omega
  clear hbn hbx
  by_cases hE : joinsE l = 0
  · obtain ⟨hJB, hFT, hAT⟩ := HOK.out hE
    have HS : Hid (sizesR l = szTo ts 32) := by show _ = _; rw [sizesR_ok hE hJB, szTo_all hAT]
    clear hJB hFT hAT HOK
    obtain ⟨W2, hW2⟩ : ∃ W2, (w1.alloc (.cells (arrV []) 138)).setRow w1.heap.size (arrV ts) = W2 := ⟨_, rfl⟩
    rw [hW2] at HB2 H02 H12 HBX
    have HW2 := Lib.hid hW2
    clear hW2
    go_wp2_with (first
      | (refine wpList_store_row rfl 138 _ _ rfl w1.heap.size (arrV ts) rfl rfl 138 (arrV []) (new_block w1 (arrV []) 138) (by rw [arrV_size htl]; kernel_rfl) (by rw [arrV_size htl]; rfl) arrV_one ?_; change wpList _ _ _ _ _ ((w1.alloc (.cells (arrV []) 138)).setRow w1.heap.size (arrV ts)); rw [HW2.out])
      | (refine wpList_load_row rfl 138 _ rfl w1.heap.size rfl 138 (arrV ts) (0, 0) _ HBX.out Tryz.underlying138 rfl (by rw [arrV_size htl]; kernel_rfl) ?_))
    go_loopw [19] (fun i wr => ∃ k : Nat, k ≤ 32 ∧ i = .int .i64 k ∧ Below w.heap.size w wr ∧ wr.heap[w.heap.size]? = some (.cells (intsV (List.replicate 32 0)) 95) ∧ wr.heap[w.heap.size + 1]? = some (.cells (intsV (szTo ts k)) 95)) (fun i _ => 32 - (intOf i).toNat)
    case atStart => exact ⟨0, by omega, rfl, HB2.out, H02.out, by rw [szTo_zero]; exact H12.out⟩
    case round =>
      obtain ⟨k, hk, rfl, hB, hA, hC⟩ := hrel
      obtain ⟨wo, rfl⟩ : ∃ x, x = wr := ⟨_, rfl⟩
      have HB := Lib.hid hB
      have HA := Lib.hid hA
      have HC := Lib.hid hC
      clear H02 H12 HB2
      by_cases hlt : k < 32
      · have hix := fun W => run_indexTab htl hlt W
        have hi1 : (k : Int) < 32 := by omega
        have hi0 : (0 : Int) ≤ k := by omega
        have hlk : k < (szTo ts k).length := by rw [szTo_length]; exact hlt
        have hbb := below_new wo (.cells #[.slice (tabOf ts k).cols.A (tabOf ts k).cols.n (tabOf ts k).cols.cap, .slice (tabOf ts k).rows.A (tabOf ts k).rows.n (tabOf ts k).rows.cap] 40)
        have hC2 := (hbb.block _ (Array.getElem?_eq_some_iff.1 hC).1).trans hC
        have hA2 := (hbb.block _ (Array.getElem?_eq_some_iff.1 hA).1).trans hA
        have c1 := cell_at_block (off := k) hC2 (intsV_at hlk)
        have f1 := free_at_block (off := k) hC2
        obtain ⟨q1, q2⟩ := setCell_at (off := k) hC2 (.int .i64 (((tabOf ts k).rows.n : Nat) : Int))
        rw [intsV_set, ← szTo_succ ts k hlt] at q1
        have HQ1 := Lib.hid q1
        have HBF := Lib.hid (below_row (bchain hB hbb) q2 (fun j e => by cases e; omega))
        have HQA := Lib.hid ((q2.block w.heap.size (Array.getElem?_eq_some_iff.1 hA2).1 (fun e => by have := Option.some.inj e; omega)).trans hA2)
        clear hbb hC2 hA2 q1 q2 hA hB hC
        go_wp2_with fail
        exact ⟨⟨k + 1, by omega, by go_num, HBF.out, HQA.out, HQ1.out⟩, by simp [intOf]; omega⟩
      · have hk' : k = 32 := by omega
        subst hk'
        obtain ⟨q1, q2⟩ := setRow_at hA (intsV (szTo ts 32))
        have HQ1 := Lib.hid q1
        have HBF := Lib.hid (below_row hB q2 (fun j e => by cases e; omega))
        clear hA hB hC q1 q2
        go_wp2_with (first
          | (refine wpList_load_row rfl 95 _ rfl (w.heap.size + 1) rfl 95 (intsV (szTo ts 32)) (0, 0) _ HC.out Tryz.underlying95 rfl (by rw [intsV_size, szTo_length]; kernel_rfl) ?_)
          | (refine wpList_store_row rfl 95 _ _ rfl w.heap.size (intsV (szTo ts 32)) rfl rfl 95 (intsV (List.replicate 32 0)) HA.out (by rw [intsV_size, szTo_length]; kernel_rfl) (by rw [intsV_size, intsV_size, szTo_length, List.length_replicate]) (intsV_one _) ?_))
        refine bodyPost_ret (results_sz rfl _ _ w.heap.size (szTo ts 32) (szTo_length _ _) rfl HQ1.out) rfl ?_
        rw [HS.out, hE]
        exact ⟨rfl, HBF.out⟩
  · have HS := Lib.hid (sizesR_no hE)
    have hE1 : (joinsE l != 0) = true := by simpa using hE
    obtain ⟨q1, q2⟩ := setRow_at H02.out (intsV (List.replicate 32 0))
    have HQ1 := Lib.hid q1
    have HB3 := Lib.hid (below_row HB2.out q2 (fun j e => by cases e; exact Nat.le_refl _))
    clear q1 q2 HOK
    go_wp2_with (first
      | (refine wpList_store_row rfl 138 _ _ rfl w1.heap.size (arrV ts) rfl rfl 138 (arrV []) (new_block w1 (arrV []) 138) (by rw [arrV_size htl]; kernel_rfl) (by rw [arrV_size htl]; rfl) arrV_one ?_)
      | (refine wpList_store_row rfl 95 _ _ rfl w.heap.size (intsV (List.replicate 32 0)) rfl rfl 95 (intsV (List.replicate 32 0)) H02.out (by kernel_rfl) rfl (intsV_one _) ?_))
    refine bodyPost_ret (results_sz rfl _ _ w.heap.size (List.replicate 32 0) rfl rfl HQ1.out) rfl ?_
    rw [HS.out]
    exact ⟨rfl, HB3.out⟩
end Go.Proofs.Bg
end
