/- The sides of a key in memory. -/
import Derived.Test.YtcbemmlhpinjkaaGreatDoorBgEdPure
namespace Go.Proofs.Bg
open Go.RowKit

def nilV : Value := .slice none 0 0
def sv (kv : List (Int × Sd)) (key : Int) (b : Bool) : Value := match getKV kv key with
  | some s => if b then s.t else s.m
  | none => nilV
def putSd (kv : List (Int × Sd)) (key : Int) (b : Bool) (v : Value) : List (Int × Sd) := putKV kv key (if b then ⟨sv kv key false, v⟩ else ⟨v, sv kv key true⟩)
theorem sv_put (kv : List (Int × Sd)) (key : Int) (b : Bool) (v : Value) (key' : Int) (b' : Bool) : sv (putSd kv key b v) key' b' = if key' = key ∧ b' = b then v else sv kv key' b' := by
  unfold putSd
  by_cases hk : key' = key
  · subst hk
    have : ∀ s, sv (putKV kv key' s) key' b' = if b' then s.t else s.m := fun s => by simp [sv, getKV_put]
    rw [this]
    cases b <;> cases b' <;> simp
  · have : ∀ s, sv (putKV kv key s) key' b' = sv kv key' b' := fun s => by simp [sv, getKV_put, Ne.symm hk]
    rw [this, if_neg (fun h => hk h.1)]

theorem map_not_own {w : World} {r g : Nat} {kv : List (Int × Sd)} (h : MapS w r kv) {α : Type} {enc : α → List Value} {sz : Nat} {T : TypeId} {base : Nat} {v : Value} {l : List α} (ho : Own enc sz T base w v l) (hv : v.ownBlock = some g) : g ≠ r := by
  rintro rfl
  obtain ⟨_, es, clock, hb, _⟩ := h
  rcases ho.2 with ⟨e, _⟩ | ⟨g', cap, cur, e, _, hb', _⟩
  · rw [e] at hv; cases hv
  · rw [e] at hv
    have : g' = g := Option.some.inj hv
    subst this
    rw [hb] at hb'
    cases hb'

theorem Own.low {α : Type} {enc : α → List Value} {sz : Nat} {T : TypeId} {base base' : Nat} {w : World} {v : Value} {l : List α} (h : Own enc sz T base w v l) (hb : base' ≤ base) : Own enc sz T base' w v l :=
  ⟨h.1, h.2.imp_right fun ⟨g, cap, cur, e, hg, hrest⟩ => ⟨g, cap, cur, e, Nat.le_trans hb hg, hrest⟩⟩
/-- What the first loop holds: each key's sides, each in a block of its own. -/
structure SRel (r : Nat) (w0 ws : World) (l : List It) (kv : List (Int × Sd)) (wr : World) : Prop where
  map : MapS wr r kv
  own : ∀ key b, Own It.vs 4 40 ws.heap.size wr (sv kv key b) (sideL l key b)
  dis : ∀ key b key' b', ¬ (key = key' ∧ b = b') → ∀ g, (sv kv key b).ownBlock = some g → (sv kv key' b').ownBlock ≠ some g
  keys : ∀ key, key ∈ kv.map Prod.fst ↔ key ∈ l.map (·.r.key)
  len : kv.length ≤ l.length
  below : Below w0.heap.size w0 wr
  lo : w0.heap.size ≤ r
  los : w0.heap.size ≤ ws.heap.size
  sz : ws.heap.size ≤ wr.heap.size
  kept : ∀ K, K < ws.heap.size → K ≠ r → wr.heap[K]? = ws.heap[K]?

theorem SRel.start {r : Nat} {w0 wr : World} (hm : MapS wr r []) (hb : Below w0.heap.size w0 wr) (hr : w0.heap.size ≤ r) : SRel r w0 wr [] [] wr where
  map := hm
  own key b := by cases b <;> exact Own.nil _ _ _ _ _
  dis key b key' b' _ g h := by cases h
  keys key := by simp
  len := Nat.le_refl _
  below := hb
  lo := hr
  los := hb.size
  sz := Nat.le_refl _
  kept _ _ _ := rfl
theorem SRel.rd {r : Nat} {w0 ws wr : World} {l : List It} {kv : List (Int × Sd)} (h : SRel r w0 ws l kv wr) {lo n : Nat} {A : Option Addr} {d : List It} (hr : Rd It.vs 4 ws lo A n d) (hlo : r < lo) : Rd It.vs 4 wr lo A n d := by
  refine ⟨hr.1, hr.2.1, fun h0 => ?_⟩
  obtain ⟨b, off, rfl, hl, hcell⟩ := hr.2.2 h0
  refine ⟨b, off, rfl, hl, fun i y hy j v hv => ?_⟩
  have h1 := hcell i y hy j v hv
  have hlt := World.block_lt_of_cell? ws _ h1
  have hlt' : b < ws.heap.size := hlt
  exact (World.cell?_of_block (w := ws) (a := ⟨b, off + i * 4 + j, none⟩) (h.kept b hlt' (by omega))).trans h1

theorem grownBy_none_then {a b c : World} {row : Option Nat} (h : a.grownBy b none) (k : b.grownBy c row) : a.grownBy c row :=
  ⟨k.os.trans h.os, k.tape.trans h.tape, k.output.trans h.output, Nat.le_trans h.size k.size, fun i hi hne => (k.block i (Nat.lt_of_lt_of_le hi h.size) hne).trans (h.block i hi (by simp))⟩

/-- The map as the walk meets it at the update. -/
theorem SRel.mapAt {r : Nat} {w0 ws : World} {l : List It} {kv : List (Int × Sd)} {wr W w4 w5 : World} (h : SRel r w0 ws l kv wr) {key : Int} {b : Bool} (h0 : wr.grownBy W none) (hg4 : W.grownBy w4 (sv kv key b).ownBlock) {gb : Nat} (hgb : wr.heap.size ≤ gb) (hg5 : w4.grownBy w5 (some gb)) : MapS w5 r kv := by
  have h1 : MapS W r kv := h.map.grown h0 (by simp)
  have h2 : MapS w4 r kv := h1.grown hg4 (fun e => map_not_own h.map (h.own key b) e.symm rfl)
  exact h2.grown hg5 (fun e => by have := Option.some.inj e; have := h.map.lt; omega)

theorem SRel.step {r : Nat} {w0 ws : World} {l : List It} {kv : List (Int × Sd)} {wr W w4 w5 w6 : World} (h : SRel r w0 ws l kv wr) (x : It) {v4 : Value} {gb : Nat} (h0 : wr.grownBy W none)
    (hown4 : Own It.vs 4 40 ws.heap.size w4 v4 (sideL l x.r.key (!decide (x.n < 0)) ++ [sideI x])) (hg4 : W.grownBy w4 (sv kv x.r.key (!decide (x.n < 0))).ownBlock)
    (hloc : v4.ownBlock = (sv kv x.r.key (!decide (x.n < 0))).ownBlock ∨ v4.ownBlock = some W.heap.size) (hgb : wr.heap.size ≤ gb) (hgb2 : gb < W.heap.size) (hg5 : w4.grownBy w5 (some gb))
    (hm6 : MapS w6 r (putSd kv x.r.key (!decide (x.n < 0)) v4)) (hg6 : w5.grownBy w6 (some r)) : SRel r w0 ws (l ++ [x]) (putSd kv x.r.key (!decide (x.n < 0)) v4) w6 := by
  generalize hbb : (!decide (x.n < 0)) = bb at *
  have hlt : ∀ key b g, (sv kv key b).ownBlock = some g → ws.heap.size ≤ g ∧ g < wr.heap.size ∧ g ≠ r := fun key b g e => ⟨((h.own key b).blk g e).1, ((h.own key b).blk g e).2, map_not_own h.map (h.own key b) e⟩
  have hgg : ∀ key b, ¬ (key = x.r.key ∧ b = bb) → Own It.vs 4 40 ws.heap.size w6 (sv kv key b) (sideL l key b) := fun key b hne => by
    have o1 := (h.own key b).grown h0 (by cases (sv kv key b).ownBlock <;> simp)
    have o2 := o1.grown hg4 (by
      cases e : (sv kv key b).ownBlock with
      | none => exact .inl rfl
      | some g => exact .inr (fun e2 => h.dis key b _ _ hne g e e2.symm))
    have o3 := o2.grown hg5 (.inr (fun e => by have := (hlt key b _ e).2.1; omega))
    exact o3.grown hg6 (.inr (fun e => (hlt key b _ e).2.2 rfl))
  have ho6 : Own It.vs 4 40 ws.heap.size w6 v4 (sideL l x.r.key bb ++ [sideI x]) := by
    have hb4 : ∀ g, v4.ownBlock = some g → g ≠ gb ∧ g ≠ r := fun g e => by
      have hrl := h.map.lt
      rcases hloc with e2 | e2
      · rw [e2] at e
        have := hlt _ _ g e
        exact ⟨by omega, this.2.2⟩
      · rw [e2] at e
        have := Option.some.inj e
        have := h0.size
        exact ⟨by omega, by omega⟩
    exact (hown4.grown hg5 (.inr (fun e => (hb4 _ e).1 rfl))).grown hg6 (.inr (fun e => (hb4 _ e).2 rfl))
  have hdis4 : ∀ key b g, ¬ (key = x.r.key ∧ b = bb) → v4.ownBlock = some g → (sv kv key b).ownBlock ≠ some g := fun key b g hne e e2 => by
    rcases hloc with e3 | e3
    · exact h.dis key b _ _ hne g e2 (e3 ▸ e)
    · rw [e3] at e
      have h1 := Option.some.inj e
      have h2 := (hlt _ _ _ e2).2.1
      have h3 := h0.size
      omega
  have hsw := h.sz
  have hsz6 : wr.heap.size ≤ w6.heap.size := Nat.le_trans h0.size (Nat.le_trans hg4.size (Nat.le_trans hg5.size hg6.size))
  refine ⟨hm6, fun key b => ?_, fun key b key' b' hne g => ?_, fun key => ?_, ?_, ?_, h.lo, h.los, by omega, fun K hK hKr => ?_⟩
  · rw [sv_put, sideL_snoc, hbb]
    by_cases hc : key = x.r.key ∧ b = bb
    · obtain ⟨rfl, rfl⟩ := hc
      rw [if_pos ⟨rfl, rfl⟩, if_pos ⟨rfl, rfl⟩]
      exact ho6
    · rw [if_neg hc, if_neg hc]
      exact hgg key b hc
  · rw [sv_put, sv_put]
    by_cases hc : key = x.r.key ∧ b = bb
    · rw [if_pos hc]
      have hc' : ¬ (key' = x.r.key ∧ b' = bb) := fun h => hne ⟨hc.1.trans h.1.symm, hc.2.trans h.2.symm⟩
      rw [if_neg hc']
      exact fun e => hdis4 key' b' g hc' e
    · rw [if_neg hc]
      by_cases hc' : key' = x.r.key ∧ b' = bb
      · rw [if_pos hc']
        exact fun e e2 => hdis4 key b g hc e2 e
      · rw [if_neg hc']
        exact h.dis key b key' b' hne g
  · unfold putSd
    rw [keys_putKV]
    have := h.keys key
    split
    · rename_i hm
      have hm' := (h.keys x.r.key).1 hm
      rw [this]
      simp only [List.map_append, List.mem_append, List.map_cons, List.map_nil, List.mem_singleton]
      constructor
      · exact .inl
      · rintro (h | rfl)
        · exact h
        · exact hm'
    · simp only [List.map_append, List.mem_append, List.map_cons, List.map_nil, List.mem_singleton, this]
  · unfold putSd
    have := length_putKV kv x.r.key (if bb then (⟨sv kv x.r.key false, v4⟩ : Sd) else ⟨v4, sv kv x.r.key true⟩)
    have := h.len
    rw [List.length_append]
    simp only [List.length_cons, List.length_nil]
    omega
  · have hs := h.below.size
    have b1 := h.below.grown h0 hs (fun k e => by cases e)
    have b2 := b1.grown hg4 (Nat.le_trans hs h0.size) (fun k e => Nat.le_trans h.los (hlt _ _ _ e).1)
    have b3 := b2.grown hg5 (Nat.le_trans (Nat.le_trans hs h0.size) hg4.size) (fun k e => by cases e; omega)
    exact b3.grown hg6 (Nat.le_trans (Nat.le_trans (Nat.le_trans hs h0.size) hg4.size) hg5.size) (fun k e => by cases e; exact h.lo)
  · have k0 : K < wr.heap.size := by omega
    have k1 : K < W.heap.size := Nat.lt_of_lt_of_le k0 h0.size
    have k2 : K < w4.heap.size := Nat.lt_of_lt_of_le k1 hg4.size
    have k3 : K < w5.heap.size := Nat.lt_of_lt_of_le k2 hg5.size
    refine (hg6.block K k3 (fun e => hKr (Option.some.inj e))).trans ((hg5.block K k2 (fun e => by have := Option.some.inj e; omega)).trans ((hg4.block K k1 (fun e => by have := (hlt _ _ _ e.symm).1; omega)).trans ((h0.block K k0 (by simp)).trans (h.kept K hK hKr))))

/-- What the second loop holds. -/
structure LRel (r : Nat) (w0 wa wb : World) (d : List It) (kv : List (Int × Sd)) (A : Option Addr) (n : Nat) (ks : List Int) (j : Nat) (v : Value) (wi : World) : Prop where
  own : Own Ed.vs 8 79 wb.heap.size wi v ((ks.take j).flatMap (edKey d))
  map : MapS wi r kv
  rd : Rd iv 1 wi wa.heap.size A n ks
  sl : ∀ key ∈ ks.drop j, ∀ b, Own It.vs 4 40 w0.heap.size wi (sv kv key b) (sideL d key b)
  below : Below w0.heap.size w0 wi
  lo : wb.heap.size ≤ wi.heap.size
  kb : ∀ b off, A = some ⟨b, off, none⟩ → 0 < n → b < wb.heap.size
/-- What stands over the second loop. -/
structure LFix (r : Nat) (w0 wa wb : World) (kv : List (Int × Sd)) : Prop where
  blk : ∀ key b g, (sv kv key b).ownBlock = some g → w0.heap.size ≤ g ∧ g < wa.heap.size ∧ g ≠ r
  dis : ∀ key b key' b', ¬ (key = key' ∧ b = b') → ∀ g, (sv kv key b).ownBlock = some g → (sv kv key' b').ownBlock ≠ some g
  lo : w0.heap.size ≤ r
  rlt : r < wa.heap.size
  ab : wa.heap.size ≤ wb.heap.size
  s0 : w0.heap.size ≤ wa.heap.size

theorem SRel.fix {r : Nat} {w0 ws wa wb : World} {d : List It} {kv : List (Int × Sd)} (h : SRel r w0 ws d kv wa) (hb : Below wa.heap.size wa wb) : LFix r w0 wa wb kv where
  blk key b g e := ⟨Nat.le_trans h.los ((h.own key b).blk g e).1, ((h.own key b).blk g e).2, map_not_own h.map (h.own key b) e⟩
  dis := h.dis
  lo := h.lo
  rlt := h.map.lt
  ab := hb.size
  s0 := h.below.size
theorem SRel.loop {r : Nat} {w0 ws wa wb : World} {d : List It} {kv : List (Int × Sd)} (h : SRel r w0 ws d kv wa) (hb : Below wa.heap.size wa wb) {A : Option Addr} {n : Nat} {ks : List Int} (hr : Rd iv 1 wb wa.heap.size A n ks) : LRel r w0 wa wb d kv A n ks 0 nilV wb where
  own := Own.nil _ _ _ _ _
  map := h.map.below hb
  rd := hr
  sl key _ b := ((h.own key b).below hb).low h.los
  below := h.below.trans (hb.mono h.below.size)
  lo := Nat.le_refl _
  kb b off e hn := by
    obtain ⟨b2, off2, e2, _, hcell⟩ := hr.2.2 hn
    rw [e] at e2
    cases e2
    have hx : ks[0]? = some (ks[0]'(by rw [hr.1]; exact hn)) := List.getElem?_eq_getElem _
    exact World.block_lt_of_cell? wb _ (hcell 0 _ hx 0 _ rfl)

/-- A list of the call's own as a window that may be written. -/
theorem Own.win {base : Nat} {w : World} {A : Option Addr} {n cap : Nat} {l : List It} (h : Own It.vs 4 40 base w (.slice A n cap) l) (D : Nat) : Win ((Value.slice A n cap).ownBlock.getD D) w A cap l := by
  obtain ⟨A', cap1, e1, hr⟩ := h.rd It.vs_length
  cases e1
  refine ⟨hr.low (Nat.zero_le _), fun hl => ?_⟩
  have hpos : 0 < l.length := List.length_pos_iff.2 hl
  rcases h.2 with ⟨e, e0⟩ | ⟨g, cap', cur, e, hb, hblk, hc⟩
  · omega
  · cases e
    exact ⟨⟨0, rfl⟩, by first | omega | exact hc.1 | (have := hc; omega), cur, hblk⟩

theorem Own.same {α : Type} {enc : α → List Value} {sz : Nat} {T : TypeId} {base : Nat} {w w' : World} {v : Value} {l : List α} (h : Own enc sz T base w v l) (he : ∀ g, v.ownBlock = some g → w'.heap[g]? = w.heap[g]?) : Own enc sz T base w' v l := by
  refine ⟨h.1, h.2.imp_right ?_⟩
  rintro ⟨g, cap, cur, e, hb, hblk, hrest⟩
  exact ⟨g, cap, cur, e, hb, (he g (by rw [e]; rfl)).trans hblk, hrest⟩
theorem Rd.sameI {w w' : World} {lo n : Nat} {A : Option Addr} {l : List Int} (h : Rd iv 1 w lo A n l) (he : ∀ K off, A = some ⟨K, off, none⟩ → 0 < n → lo ≤ K → K < w.heap.size → w'.heap[K]? = w.heap[K]?) : Rd iv 1 w' lo A n l := by
  refine ⟨h.1, h.2.1, fun h0 => ?_⟩
  obtain ⟨b, off, rfl, hlo, hcell⟩ := h.2.2 h0
  refine ⟨b, off, rfl, hlo, fun i y hy j v hv => ?_⟩
  have h1 := hcell i y hy j v hv
  have hlt := World.block_lt_of_cell? w _ h1
  exact (World.cell?_of_block (w := w) (a := ⟨b, off + i * 1 + j, none⟩) (he b off rfl h0 hlo hlt)).trans h1

theorem LRel.step {r : Nat} {w0 wa wb : World} {d : List It} {kv : List (Int × Sd)} {A : Option Addr} {n : Nat} {ks : List Int} {j : Nat} {v v2 : Value} {wi w1 w2 : World} {key : Int} (h : LRel r w0 wa wb d kv A n ks j v wi) (F : LFix r w0 wa wb kv) (hk : ks[j]? = some key) (hn : ks.Nodup)
    (hb : But2 wi w1 ((sv kv key false).ownBlock.getD wi.heap.size) ((sv kv key true).ownBlock.getD wi.heap.size)) (hg : w1.grownBy w2 v.ownBlock) (ho : Own Ed.vs 8 79 wb.heap.size w2 v2 ((ks.take j).flatMap (edKey d) ++ edKey d key)) : LRel r w0 wa wb d kv A n ks (j + 1) v2 w2 := by
  have hd : ks.drop j = key :: ks.drop (j + 1) := by
    have hj : j < ks.length := (List.getElem?_eq_some_iff.1 hk).1
    rw [List.drop_eq_getElem_cons hj, (List.getElem?_eq_some_iff.1 hk).2]
  have hnk : key ∉ ks.drop (j + 1) := by
    have := (List.drop_sublist j ks).nodup hn
    rw [hd] at this
    exact (List.nodup_cons.1 this).1
  have hlo := h.lo
  have ha := F.ab
  have hs0 := F.s0
  have hsafe : ∀ g, g < wi.heap.size → (∀ b, (sv kv key b).ownBlock ≠ some g) → w1.heap[g]? = wi.heap[g]? := fun g hg0 hne => by
    refine hb.block g hg0 ?_ ?_
    · cases e : (sv kv key false).ownBlock with
      | none => simp; omega
      | some q => simp; intro e2; exact hne false (by rw [e, e2])
    · cases e : (sv kv key true).ownBlock with
      | none => simp; omega
      | some q => simp; intro e2; exact hne true (by rw [e, e2])
  have hsafe2 : ∀ g, g < wi.heap.size → (∀ b, (sv kv key b).ownBlock ≠ some g) → g < wb.heap.size → w2.heap[g]? = wi.heap[g]? := fun g h1 h2 h3 =>
    (hg.block g (Nat.lt_of_lt_of_le h1 hb.size) (fun e => by have := (h.own.blk g e.symm).1; omega)).trans (hsafe g h1 h2)
  refine ⟨?_, ?_, ?_, fun key' hk' b => ?_, ?_, ?_, h.kb⟩
  · rw [List.take_add_one, hk]
    simpa using ho
  · refine h.map.same (hsafe2 r h.map.lt (fun b e => (F.blk _ _ _ e).2.2 rfl) (by have := F.rlt; omega))
  · refine h.rd.sameI fun K off e h0 h1 h2 => ?_
    exact hsafe2 K h2 (fun b e => by have := (F.blk _ _ _ e).2.1; omega) (h.kb K off e h0)
  · have hne : key' ≠ key := fun e => hnk (e ▸ hk')
    refine (h.sl key' (by rw [hd]; exact List.mem_cons_of_mem _ hk') b).same fun g e => ?_
    have := F.blk _ _ _ e
    exact hsafe2 g (by omega) (fun b' => F.dis key' b key b' (fun hc => hne hc.1) g e) (by omega)
  · have hs := h.below.size
    have b1 : Below w0.heap.size w0 w1 := h.below.trans ⟨hb.os, hb.tape, hb.output, hb.size, fun i hi => hsafe i (by omega) (fun b e => by have := (F.blk _ _ _ e).1; omega)⟩
    exact b1.grown hg (Nat.le_trans hs hb.size) (fun k e => by have := (h.own.blk k e).1; omega)
  · exact Nat.le_trans h.lo (Nat.le_trans hb.size hg.size)

/-- 'append(s, y...)', y a list of the call's own that is not empty. -/
theorem wpList_appN {α : Type} {P : Program} {w : World} {ops : Array Oper} {rest : List Oper} {o : Oper} {a : Act} {Q : Exit → Act → World → Prop} (enc : α → List Value) (sz : Nat) (e : TypeId) (z : Value) (bytes : Nat) (hinf : (P.info? e).map (fun i => (i.zero, i.size, i.bytes)) = some (some z, sz, bytes)) (hzs : z.cells.size = sz) (hsz : 0 < sz)
    (hgd : o.guard = none) (s x : Operand) (t : TypeId) (ho : o.op = .call { callee := .builtin .append, args := #[s, x], argTypes := #[t, t] }) (ht : P.underlying t = some (.slice e)) (base : Nat) (v : Value) (l : List α) (hs : a.eval s = v) (hown : Own enc sz e base w v l)
    (base2 : Nat) (vy : Value) (y : List α) (hx : a.eval x = vy) (hy : Own enc sz e base2 w vy y) (hne : y ≠ []) (h1 : ∀ q, ∀ u ∈ enc q, u.oneCell' = true)
    (hbytes : (l.length + y.length) * bytes ≤ 140737488355328) (h63 : l.length + y.length ≤ maxLen) (hbase : base ≤ w.heap.size)
    (h : ∀ v' w', Own enc sz e base w' v' (l ++ y) → w.grownBy w' v.ownBlock → (v'.ownBlock = v.ownBlock ∨ v'.ownBlock = some w.heap.size) → wpList P ops Q rest (a.put o.dst v') w') : wpList P ops Q (o :: rest) a w := by
  obtain ⟨i, hi, hz0, hz1, hz2⟩ := info_parts hinf
  have hpos : 0 < y.length := List.length_pos_iff.2 hne
  have hyy := hy
  rcases hy.2 with ⟨_, e0⟩ | ⟨g, cap, cur, rfl, hb, hblk, hrest⟩
  · omega
  · refine wpList_append_own_at w hgd s x t ho base e i z sz bytes ht hi hz0 hz1 hz2 hzs hsz v l.length (l.flatMap enc) hs hown ⟨g, 0, none⟩ y.length cap (y.flatMap enc) hx hy.1 (fun j u hu => ?_) (fun u hu => ?_) h63 hbytes hbase fun v' w' h2 h3 _ h5 => h v' w' ?_ h3 h5
    · have e1 : (⟨g, 0, none⟩ : Addr).add j = ⟨g, j, none⟩ := by unfold Addr.add; split <;> simp_all
      rw [e1, ← hu]
      exact World.ownsRow.cellAt hyy j (by have := (List.getElem?_eq_some_iff.1 hu).1; first | omega | (rw [hy.1] at this; exact this))
    · obtain ⟨q, _, hq⟩ := List.mem_flatMap.1 hu
      exact h1 q u hq
    · unfold Own
      rw [List.length_append, List.flatMap_append]
      exact h2
end Go.Proofs.Bg
