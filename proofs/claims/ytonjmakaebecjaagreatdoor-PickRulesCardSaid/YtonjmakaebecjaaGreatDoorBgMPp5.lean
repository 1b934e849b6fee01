/- Texts of our own, merged: PkDelRows PkRedP PkRedA PkRedB PkReduceF PkReduce PkReduceW PkRingP PkTrim PkRing PkLine PkSameT PkKnownV. -/
import Derived.Test.YtonjmakaebecjaaGreatDoorBgMPp1
import Derived.Test.YtonjmakaebecjaaGreatDoorBgMPp3
import Derived.Deep.RegionWith
import Derived.Deep.DeepCutAuto
import Derived.Deep.RegionHeld3
import Derived.Deep.LoopGhost
import Derived.Deep.AppendLies
import Derived.Test.YtonjmakaebecjaaGreatDoorBgMPp4
import Derived.WalkMore
import Derived.Sort.OwnSortedInts
import Derived.Test.YtonjmakaebecjaaGreatDoorPkShelf
import Derived.Laws.OwnMore
import Derived.OwnWalk
import Derived.Laws.Cover3
import Derived.Test.YtonjmakaebecjaaGreatDoorBgMPp2

section
/- Contract: slices.DeleteFunc at rows, its predicate the closure of reduce. -/
namespace Go.Proofs.Bg
open Go.RowKit

/-- What the predicate says of the rows, in whatever world but for block g. -/
def PredR (d : Sl × List Int → Bool) (zs : List (Sl × List Int)) (row : Option Nat) (w : World) (b1 b2 b3 : Value) : Prop :=
  ∀ z ∈ zs, ∀ W, w.grownBy W row → Calls Tryz.prog 136 #[.slice z.1.A z.1.n z.1.cap, b1, b2, b3] W fun e w' => e = .returned (.bool (d z)) ∧ Below W.heap.size W w'
theorem findIdx_at {α : Type} {d : α → Bool} {zs : List α} {k : Nat} {z : α} (hz : zs[k]? = some z) (hd : d z = true) (h : ∀ x ∈ zs.take k, d x = false) : zs.findIdx d = k := by
  obtain ⟨hk, e⟩ := List.getElem?_eq_some_iff.1 hz
  rw [List.findIdx_eq hk]
  refine ⟨by rw [e]; exact hd, fun j hj => ?_⟩
  exact h _ (by rw [List.mem_take_iff_getElem]; exact ⟨j, by omega, rfl⟩)
theorem findIdx_no {α : Type} {d : α → Bool} {zs : List α} (h : ∀ x ∈ zs, d x = false) : zs.findIdx d = zs.length := by
  rw [List.findIdx_eq_length]
  exact fun x hx => h x hx

def idxR (d : Sl × List Int → Bool) (zs : List (Sl × List Int)) : Int := if zs.findIdx d = zs.length then -1 else ((zs.findIdx d : Nat) : Int)
set_option maxRecDepth 100000 in
set_option maxHeartbeats 8000000 in
theorem IndexRows_any (base cap : Nat) (A : Option Addr) (row : Option Nat) (d : Sl × List Int → Bool) (zs : List (Sl × List Int)) (b1 b2 b3 : Value) (w : World) (h : Own Sl.vs 1 32 base w (.slice A zs.length cap) (zs.map Prod.fst)) (hp : PredR d zs row w b1 b2 b3) (hlen : zs.length ≤ 1000000) :
    Calls Tryz.prog 114 #[.slice A zs.length cap, .func (.func 136) #[] #[b1, b2, b3]] w fun e w' => e = .returned (.int .i64 (idxR d zs)) ∧ Below w.heap.size w w' := by
  have HO := Lib.hid h
  have HPR := Lib.hid hp
  have eg : ∀ args w, (callFunc 136 args).run Tryz.prog w = .ok (.enter 136 args) w := enters_of Tryz.func136 (by kernel_rfl) rfl
  have HZ : ∀ k, k < zs.length → ∃ z, zs[k]? = some z := fun k hk => ⟨_, List.getElem?_eq_getElem hk⟩
  clear h hp
  generalize hn : zs.length = n at *
  have HN := Lib.hid hn
  clear hn
  go_enter Tryz.func114, Tryz.ntmps114
  go_wp2_with fail
  go_loopw [8] (fun i wr => ∃ k : Nat, k ≤ n ∧ i = .int .i64 k ∧ (∀ x ∈ zs.take k, d x = false) ∧ Below w.heap.size w wr) (fun i _ => n - (intOf i).toNat)
  case atStart => exact ⟨0, by omega, rfl, fun x hx => by simp at hx, Below.refl _ _⟩
  case round =>
    obtain ⟨k, hk, rfl, hall, hD⟩ := hrel
    have HD := Lib.hid hD
    have HALL := Lib.hid hall
    have hOr := HO.out.below hD
    by_cases hlt : k < n
    · obtain ⟨z, hz⟩ := HZ k hlt
      obtain ⟨_, x1, e1, -, -, -, hx1, hc1, -⟩ := hOr.at_ Sl.vs_length (i := k) (by simp [HN.out]; omega)
      cases e1
      simp only [List.getElem?_map, hz, Option.map_some, Option.some.injEq] at hx1
      subst hx1
      have c1 := hc1 0 _ rfl
      simp only [Nat.mul_one, Nat.add_zero] at c1
      have Q := Lib.hid (HPR.out z (List.mem_of_getElem? hz) wr (below_grown hD))
      have hi1 : (k : Int) < n := by omega
      have HZZ := Lib.hid hz
      clear hc1 hz hOr hD hall
      cases hd : d z with
      | true =>
        rw [hd] at Q
        have HF : Hid (idxR d zs = (k : Int)) := by
          have h1 := findIdx_at HZZ.out hd HALL.out
          show _ = _
          unfold idxR
          rw [h1, HN.out, if_neg (by omega)]
        clear hd
        go_wp2_with fail
        (with_reducible refine Q.out.mono ?_)
        rintro e w2 ⟨rfl, hb2⟩
        have HB2 := Lib.hid (bchain HD.out hb2)
        clear hb2
        go_wp2_with fail
        go_ret
        rw [HF.out]
        exact ⟨rfl, HB2.out⟩
      | false =>
        rw [hd] at Q
        have HA2 : Hid (∀ x ∈ zs.take (k + 1), d x = false) := by
          show ∀ x ∈ zs.take (k + 1), d x = false
          intro x hx
          rw [List.take_add_one, HZZ.out] at hx
          rcases List.mem_append.1 hx with h | h
          · exact HALL.out x h
          · simp at h; subst h; exact hd
        clear hd
        go_wp2_with fail
        (with_reducible refine Q.out.mono ?_)
        rintro e w2 ⟨rfl, hb2⟩
        have HB2 := Lib.hid (bchain HD.out hb2)
        clear hb2
        go_wp2_with fail
        exact ⟨⟨k + 1, by omega, by go_num, HA2.out, HB2.out⟩, by simp [intOf]; omega⟩
    · have hk' : k = n := by omega
      have hF : idxR d zs = -1 := by
        unfold idxR
        rw [if_pos]
        refine findIdx_no fun x hx => hall x ?_
        rw [List.take_of_length_le (by rw [HN.out]; omega)]
        exact hx
      have HF := Lib.hid hF
      clear hall hOr HALL hD hF
      go_wp2_with fail
      go_ret
      rw [HF.out]
      exact ⟨rfl, HD.out⟩

/-- What the loop holds: the rows kept so far stand in front. -/
def D2 (d : Sl × List Int → Bool) (zs : List (Sl × List Int)) (T : TypeId) (base g cap : Nat) (w wr : World) (c j : Nat) : Prop :=
  ∃ cur K, Own Sl.vs 1 T base wr (.slice (some ⟨g, 0, none⟩) zs.length cap) cur ∧ cur.length = zs.length ∧ cur.take c = K.map Prod.fst ∧ K.length = c ∧ (∀ i, j ≤ i → cur[i]? = (zs.map Prod.fst)[i]?) ∧ (zs.filter fun z => !d z) = K ++ (zs.drop j).filter (fun z => !d z) ∧ c + 1 ≤ j ∧ j ≤ zs.length ∧ w.grownBy wr (some g)

set_option maxRecDepth 100000 in
set_option maxHeartbeats 8000000 in
theorem DeleteRows_any (base cap : Nat) (A : Option Addr) (d : Sl × List Int → Bool) (zs : List (Sl × List Int)) (b1 b2 b3 : Value) (w : World) (h : Own Sl.vs 1 32 base w (.slice A zs.length cap) (zs.map Prod.fst)) (hp : PredR d zs (Value.slice A zs.length cap).ownBlock w b1 b2 b3) (hlen : zs.length ≤ 1000000) :
    Calls Tryz.prog 135 #[.slice A zs.length cap, .func (.func 136) #[] #[b1, b2, b3]] w fun e w' => e = .returned (.slice A (zs.filter fun z => !d z).length cap) ∧ Own Sl.vs 1 32 base w' (.slice A (zs.filter fun z => !d z).length cap) ((zs.filter fun z => !d z).map Prod.fst) ∧ w.grownBy w' (Value.slice A zs.length cap).ownBlock := by
  have Q1 := Lib.hid (IndexRows_any base cap A _ d zs b1 b2 b3 w h hp hlen)
  have HO := Lib.hid h
  have HPR := Lib.hid hp
  have eg : ∀ args w, (callFunc 136 args).run Tryz.prog w = .ok (.enter 136 args) w := enters_of Tryz.func136 (by kernel_rfl) rfl
  have hcapn := h.capOf
  have hcapm := h.capMax
  have HZ : ∀ k, k < zs.length → ∃ z, zs[k]? = some z := fun k hk => ⟨_, List.getElem?_eq_getElem hk⟩
  have hidx : zs.findIdx d ≤ zs.length := List.findIdx_le_length
  have HFIX : Hid (∀ z, zs[zs.findIdx d]? = some z → d z = true ∧ ∀ x ∈ zs.take (zs.findIdx d), d x = false) := by
    show ∀ z, zs[zs.findIdx d]? = some z → d z = true ∧ ∀ x ∈ zs.take (zs.findIdx d), d x = false
    intro z hz
    obtain ⟨hk, e⟩ := List.getElem?_eq_some_iff.1 hz
    refine ⟨by rw [← e]; exact List.findIdx_getElem, fun x hx => ?_⟩
    obtain ⟨j, hj, e2⟩ := List.mem_take_iff_getElem.1 hx
    have := List.not_of_lt_findIdx (p := d) (xs := zs) (i := j) (by omega)
    rw [e2] at this
    simpa using this
  have HALL : Hid (zs.findIdx d = zs.length → (zs.filter fun z => !d z) = zs) := by
    show zs.findIdx d = zs.length → _
    intro h
    rw [List.findIdx_eq_length] at h
    exact List.filter_eq_self.2 fun z hz => by rw [h z hz]; rfl
  clear h hp
  generalize hn : zs.length = n at *
  have HN := Lib.hid hn
  have HIX : Hid (idxR d zs = if zs.findIdx d = n then -1 else ((zs.findIdx d : Nat) : Int)) := by show _ = _; unfold idxR; rw [HN.out]
  generalize zs.findIdx d = k at *
  clear hn
  rw [HIX.out] at Q1
  clear HIX
  by_cases hkn : k = n
  · rw [if_pos hkn] at Q1
    have HF := Lib.hid (HALL.out hkn)
    go_enter Tryz.func135, Tryz.ntmps135
    go_wp2_with fail
    (with_reducible refine Q1.out.mono ?_)
    rintro e w1 ⟨rfl, hD⟩
    have HD := Lib.hid hD
    clear hD
    go_wp2_with fail
    go_ret
    rw [HF.out, HN.out]
    exact ⟨rfl, HO.out.below HD.out, below_grown HD.out⟩
  · rw [if_neg hkn] at Q1
    have hlt : k < n := by omega
    obtain ⟨z, hz⟩ := HZ k hlt
    obtain ⟨hdz, hbef⟩ := HFIX.out z hz
    obtain ⟨g, _, rfl, -, -, -, -, -, -⟩ := HO.out.at_ Sl.vs_length (i := k) (by simp [HN.out]; omega)
    rw [show (Value.slice (some ⟨g, 0, none⟩) n cap).ownBlock = some g from rfl] at HPR ⊢
    have HF : Hid ((zs.filter fun z => !d z) = zs.take k ++ (zs.drop (k + 1)).filter (fun z => !d z)) := by
      show _ = _
      have e : zs = zs.take k ++ zs.drop k := (List.take_append_drop k zs).symm
      rw [congrArg (List.filter fun z => !d z) e, List.filter_append, drop_at hz, List.filter_cons, hdz]
      rw [List.filter_eq_self.2 (fun z hz => by rw [hbef z hz]; rfl)]
      rfl
    have e1 : ((k : Int) == -1) = false := by simp <;> omega
    clear hdz hbef hz HALL HFIX hkn hidx
    go_enter Tryz.func135, Tryz.ntmps135
    go_wp2_with fail
    (with_reducible refine Q1.out.mono ?_)
    rintro e w1 ⟨rfl, hD⟩
    have HD := Lib.hid hD
    clear hD Q1
    go_wp2_with fail
    clear e1
    go_loopw [5, 6] (fun s5 s6 wr => ∃ c q : Nat, s5 = .int .i64 c ∧ s6 = .int .i64 q ∧ D2 d zs 32 base g cap w wr c q) (fun _ s6 _ => n - (intOf s6).toNat)
    case atStart =>
      exact ⟨k, k + 1, rfl, by go_num, zs.map Prod.fst, zs.take k, by rw [HN.out]; exact HO.out.below HD.out, by simp, by rw [List.map_take], by rw [List.length_take, HN.out]; omega, fun i _ => rfl, HF.out, by omega, by rw [HN.out]; omega, below_grown HD.out⟩
    case round =>
      clear HF HD
      obtain ⟨c, q, rfl, rfl, cur, K, o1, o2, o3, o4, o5, o7, o8, o9, o10⟩ := hrel
      have HO1 := Lib.hid o1
      have HL2 := Lib.hid o2
      have HK := Lib.hid o3
      have HKL := Lib.hid o4
      have HS := Lib.hid o5
      have HDE := Lib.hid o7
      have HG := Lib.hid o10
      rw [HN.out] at o9
      have hcl : cur.length = n := by rw [HL2.out, HN.out]
      clear o2 o3 o4 o5 o7 o10
      by_cases hlt2 : q < n
      · obtain ⟨z', hz'⟩ := HZ q hlt2
        obtain ⟨_, x2, e2, -, -, -, hx2, hc2, hf⟩ := o1.at_ Sl.vs_length (i := q) (by omega)
        cases e2
        obtain ⟨_, x3, e3, -, -, -, hx3, hc3, -⟩ := o1.at_ Sl.vs_length (i := c) (by omega)
        cases e3
        rw [HS.out _ (Nat.le_refl _)] at hx2
        simp only [List.getElem?_map, hz', Option.map_some, Option.some.injEq] at hx2
        subst hx2
        have c2 := hc2 0 _ rfl
        have c3 := hc3 0 _ rfl
        simp only [Nat.mul_one, Nat.add_zero] at c2 c3
        have QQ := Lib.hid (HPR.out z' (List.mem_of_getElem? hz') wr HG.out)
        have HZ' := Lib.hid hz'
        have hf0 := hf c
        have hb2 : (q : Int) < (n : Int) := by omega
        clear hx3 hc2 hc3 hz' o1 hf
        cases hd : d z' with
        | true =>
          rw [hd] at QQ
          have HNX : Hid ((zs.filter fun z => !d z) = K ++ (zs.drop (q + 1)).filter (fun z => !d z)) := by
            show _ = _
            rw [HDE.out, drop_at HZ'.out, List.filter_cons, hd]
            rfl
          clear hd
          go_wp2_with fail
          (with_reducible refine QQ.out.mono ?_)
          rintro e w2 ⟨rfl, hb2⟩
          have HB2 := Lib.hid hb2
          clear hb2
          go_wp2_with fail
          exact ⟨⟨c, q + 1, rfl, by go_num, cur, K, HO1.out.below HB2.out, HL2.out, HK.out, HKL.out, fun i hi => HS.out i (by omega), HNX.out, by omega, by rw [HN.out]; omega, HG.out.then_ (below_grown (row := some g) HB2.out) (fun _ e => .inr e)⟩, by simp [intOf]; omega⟩
        | false =>
          rw [hd] at QQ
          have HNX : Hid ((zs.filter fun z => !d z) = (K ++ [z']) ++ (zs.drop (q + 1)).filter (fun z => !d z)) := by
            show _ = _
            rw [HDE.out, drop_at HZ'.out, List.filter_cons, hd, List.append_assoc]
            rfl
          have hcn : (c : Int) < n := by omega
          clear hd
          go_wp2_with fail
          (with_reducible refine QQ.out.mono ?_)
          rintro e w2 ⟨rfl, hb2⟩
          have HO2 := Lib.hid (HO1.out.below hb2)
          have HB2 := Lib.hid hb2
          have c3' := (hb2.cell (World.block_lt_of_cell? _ _ c3)).trans c3
          have f3' := (hb2.frozen (World.block_lt_of_cell? _ _ c3)).trans hf0
          clear hb2 c3 hf0
          go_wp2_with fail
          have hO2 := HO2.out
          have hcur : c < cur.length := by omega
          obtain ⟨q1, q2⟩ := Own.set1 Sl.vs_length hO2 hcur (y := z'.1) (u := z'.1.v) rfl
          refine ⟨⟨c + 1, q + 1, by go_num, by go_num, cur.set c z'.1, K ++ [z'], q1, by rw [List.length_set]; exact HL2.out, ?_, by simp [HKL.out], fun i hi => ?_, HNX.out, by omega, by rw [HN.out]; omega, (HG.out.then_ (below_grown (row := some g) HB2.out) (fun _ e => .inr e)).then_ q2 (fun _ e => .inr e)⟩, by simp [intOf]; omega⟩
          · rw [List.take_add_one, List.getElem?_set_self hcur, List.take_set_of_le (Nat.le_refl _), HK.out, List.map_append]
            rfl
          · rw [List.getElem?_set_ne (by omega)]
            exact HS.out i (by omega)
      · have hq : q = n := by omega
        have HF : Hid ((zs.filter fun z => !d z) = K) := by
          show _ = _
          rw [HDE.out, hq, (List.drop_eq_nil_of_le (by rw [HN.out]; exact Nat.le_refl _) : zs.drop n = []), List.filter_nil, List.append_nil]
        have v32 : ∀ w, (zeroValue 32).run Tryz.prog w = .ok (.slice none 0 0) w := fun w => by kernel_rfl
        have hcells : ∀ i, i < n - c → (wr.cell? ⟨g, c + i, none⟩).isSome = true := fun i hi => by
          obtain ⟨_, x3, e3, -, -, -, hx3, hc3, -⟩ := o1.at_ Sl.vs_length (i := c + i) (by omega)
          cases e3
          have := hc3 0 _ rfl
          simp only [Nat.mul_one, Nat.add_zero] at this
          rw [this]; rfl
        obtain ⟨_, x3, e3, -, -, -, hx3, hc3, hf3⟩ := o1.at_ Sl.vs_length (i := c) (by omega)
        cases e3
        have hcl' : ∀ ty, (Builtin.clear_ #[38] ty #[.slice (some ⟨g, c, none⟩) (n - c) (cap - c)]).run Tryz.prog wr = .ok (.tuple #[]) (wr.setCells g c (List.replicate (n - c) (.slice none 0 0))) :=
          fun ty => Lib.run_clear_slice wr _ _ ty _ Tryz.underlying38 v32 rfl rfl g c _ _ (by omega) hcells (fun i _ => hf3 _)
        obtain ⟨cc, hcc⟩ := HO1.out.heap
        obtain ⟨c', k1, k2, k3, k4⟩ := setCells_at (List.replicate (n - c) (.slice none 0 0)) c hcc
        have hfin := Own.cut (k := c) (w' := wr.setCells g c (List.replicate (n - c) (.slice none 0 0))) HO1.out (by omega) (fun c0 h0 => by rw [hcc] at h0; cases h0; exact ⟨k1, k2, k3⟩)
        rw [HK.out] at hfin
        have HFIN := Lib.hid hfin
        have HGF := Lib.hid (HG.out.then_ k4 (fun _ e => .inr e))
        have hz1 : decide ((q : Int) < (n : Int)) = false := by rw [decide_eq_false_iff_not]; omega
        have hz2 : decide (q < n) = false := by rw [decide_eq_false_iff_not]; omega
        have hcn : (c : Int) ≤ n := by omega
        have hcn2 : (n : Int) ≤ cap := by omega
        have hcn3 : (c : Int) ≤ cap := by omega
        clear hcells hx3 hc3 hf3 k1 k2 k3 k4 hcc hfin o1 hlt2 hq hcl v32
        go_wp2_with fail
        go_ret
        rw [HF.out, HKL.out]
        exact ⟨rfl, HFIN.out, HGF.out⟩
end Go.Proofs.Bg
end

section
/- Plain words: tables reduced: the greatest tables of which each row has its partners. No program in sight. -/
namespace Go.Proofs.Bg
open Go.RowKit

/-- A row of a table has a partner in another one. -/
def parB (a : PT) (r : List Int) (b : PT) : Bool := hasB b (bitsN a.cols &&& bitsN b.cols) (spreadV a.cols r)
theorem semiB_eq (a b : PT) : semiB a b = ⟨a.cols, a.rows.filter fun r => parB a r b⟩ := rfl
structure SubT (a b : PT) : Prop where
  cols : a.cols = b.cols
  rows : a.rows.Sublist b.rows
theorem SubT.refl (a : PT) : SubT a a := ⟨rfl, List.Sublist.refl _⟩
theorem SubT.trans {a b c : PT} (h : SubT a b) (k : SubT b c) : SubT a c := ⟨h.cols.trans k.cols, h.rows.trans k.rows⟩
theorem SubT.anti {a b : PT} (h : SubT a b) (k : SubT b a) : a = b := by
  obtain ⟨c, r⟩ := a
  obtain ⟨c', r'⟩ := b
  have h1 := h.cols
  have h2 := h.rows.eq_of_length_le k.rows.length_le
  dsimp only at h1 h2
  rw [h1, h2]
theorem semiB_sub (a b : PT) : SubT (semiB a b) a := ⟨rfl, List.filter_sublist⟩
theorem hasB_mono {b b' : PT} (h : SubT b b') {x : Nat} {v : V8} (hb : hasB b x v = true) : hasB b' x v = true := by
  unfold hasB at *
  rw [List.any_eq_true] at *
  obtain ⟨s, hs, hv⟩ := hb
  exact ⟨s, h.rows.subset hs, by rw [← h.cols]; exact hv⟩
theorem parB_mono {a a' b b' : PT} (ha : a.cols = a'.cols) (h : SubT b b') {r : List Int} (hb : parB a r b = true) : parB a' r b' = true := by
  unfold parB at *
  rw [← ha, ← h.cols]
  exact hasB_mono h hb
def SubL (l m : List PT) : Prop := l.length = m.length ∧ ∀ i, SubT (tabAt l i) (tabAt m i)
theorem SubL.refl (l : List PT) : SubL l l := ⟨rfl, fun _ => SubT.refl _⟩
theorem SubL.trans {a b c : List PT} (h : SubL a b) (k : SubL b c) : SubL a c := ⟨h.1.trans k.1, fun i => (h.2 i).trans (k.2 i)⟩
theorem tabAt_ext {a b : List PT} (hl : a.length = b.length) (h : ∀ i, tabAt a i = tabAt b i) : a = b := by
  refine List.ext_getElem hl fun i h1 h2 => ?_
  have := h i
  simpa [tabAt, h1, h2] using this
theorem SubL.anti {a b : List PT} (h : SubL a b) (k : SubL b a) : a = b := tabAt_ext h.1 fun i => (h.2 i).anti (k.2 i)
theorem tabAt_set (l : List PT) (i k : Nat) (T : PT) : tabAt (l.set i T) k = if i = k ∧ i < l.length then T else tabAt l k := by
  unfold tabAt
  rw [List.getD_eq_getElem?_getD, List.getElem?_set, List.getD_eq_getElem?_getD]
  by_cases h : i = k
  · subst h
    by_cases hl : i < l.length
    · simp [hl]
    · simp [hl]
  · simp [h]
/-- Each row of each table has its partners. -/
def Con (l : List PT) : Prop := ∀ i k, i < l.length → k < l.length → i ≠ k → ∀ r ∈ (tabAt l i).rows, parB (tabAt l i) r (tabAt l k) = true

theorem set_sub {l m : List PT} {i : Nat} {T : PT} (h : SubL m l) (hT : SubT (tabAt m i) T) : SubL m (l.set i T) :=
  ⟨by rw [List.length_set]; exact h.1, fun k => by
    rw [tabAt_set]
    split
    · rename_i hh; rw [← hh.1]; exact hT
    · exact h.2 k⟩
theorem set_sub' {l : List PT} {i : Nat} {T : PT} (hT : SubT T (tabAt l i)) : SubL (l.set i T) l :=
  ⟨by rw [List.length_set], fun k => by
    rw [tabAt_set]
    split
    · rename_i hh; rw [← hh.1]; exact hT
    · exact SubT.refl _⟩
theorem semi_sub {m a b c : PT} (hm : SubT m a) (hb : SubT c b) (h : ∀ r ∈ m.rows, parB m r c = true) : SubT m (semiB a b) :=
  ⟨hm.cols, by
    rw [semiB_eq]
    have h1 : m.rows.filter (fun r => parB a r b) = m.rows := List.filter_eq_self.2 fun r hr => parB_mono hm.cols hb (h r hr)
    have h2 : (m.rows.filter fun r => parB a r b).Sublist (a.rows.filter fun r => parB a r b) := hm.rows.filter _
    rw [h1] at h2
    exact h2⟩
theorem redK_len (i : Nat) : ∀ (k : Nat) (l : List PT), (redK i k l).length = l.length
  | 0, l => rfl
  | k + 1, l => by
    rw [redK]
    split
    · exact redK_len i k l
    · rw [List.length_set, redK_len i k l]
theorem redI_len : ∀ (i : Nat) (l : List PT), (redI i l).length = l.length
  | 0, l => rfl
  | i + 1, l => by rw [redI, redK_len, redI_len i l]
theorem redRound_len (l : List PT) : (redRound l).length = l.length := redI_len _ l
/-- What is reduced is less. -/
theorem redK_less (i : Nat) : ∀ (k : Nat) (l : List PT), SubL (redK i k l) l
  | 0, l => SubL.refl l
  | k + 1, l => by
    rw [redK]
    split
    · exact redK_less i k l
    · exact (set_sub' (semiB_sub _ _)).trans (redK_less i k l)
theorem redI_less : ∀ (i : Nat) (l : List PT), SubL (redI i l) l
  | 0, l => SubL.refl l
  | i + 1, l => by rw [redI]; exact (redK_less _ _ _).trans (redI_less i l)
theorem redRound_less (l : List PT) : SubL (redRound l) l := redI_less _ l
/-- What has its partners stays. -/
theorem redK_keep {m : List PT} (hc : Con m) (i : Nat) (hi : i < m.length) : ∀ (k : Nat) (l : List PT), k ≤ m.length → SubL m l → SubL m (redK i k l)
  | 0, l, _, h => h
  | k + 1, l, hk, h => by
    have ih := redK_keep hc i hi k l (by omega) h
    rw [redK]
    split
    · exact ih
    · rename_i hne
      exact set_sub ih (semi_sub (ih.2 i) (ih.2 k) (hc i k hi (by omega) hne))
theorem redI_keep {m : List PT} (hc : Con m) : ∀ (i : Nat) (l : List PT), i ≤ m.length → SubL m l → SubL m (redI i l)
  | 0, l, _, h => h
  | i + 1, l, hi, h => by
    rw [redI]
    exact redK_keep hc i (by omega) _ _ (by rw [h.1]; exact Nat.le_refl _) (redI_keep hc i l (by omega) h)
theorem redRound_keep {m l : List PT} (hc : Con m) (h : SubL m l) : SubL m (redRound l) := redI_keep hc _ l (by rw [h.1]; exact Nat.le_refl _) h
theorem redIt_keep {m : List PT} (hc : Con m) : ∀ (f : Nat) (l : List PT), SubL m l → SubL m (redIt f l)
  | 0, l, h => h
  | f + 1, l, h => by
    rw [redIt]
    split
    · exact h
    · exact redIt_keep hc f _ (redRound_keep hc h)
theorem redIt_less : ∀ (f : Nat) (l : List PT), SubL (redIt f l) l
  | 0, l => SubL.refl l
  | f + 1, l => by
    rw [redIt]
    split
    · exact SubL.refl l
    · exact (redIt_less f _).trans (redRound_less l)
/-- Fewer rows. -/
theorem rowsOf_le : ∀ {a b : List PT}, SubL a b → rowsOf a ≤ rowsOf b
  | [], [], _ => Nat.le_refl _
  | x :: a, y :: b, h => by
    have h0 := (h.2 0).rows.length_le
    have := rowsOf_le (a := a) (b := b) ⟨by have := h.1; simpa using this, fun i => by have := h.2 (i + 1); simpa [tabAt] using this⟩
    simp only [rowsOf, List.map_cons, List.sum_cons] at this ⊢
    simp only [tabAt, List.getD_cons_zero] at h0
    omega
  | [], y :: b, h => by have := h.1; simp at this
  | x :: a, [], h => by have := h.1; simp at this
theorem rowsOf_eq : ∀ {a b : List PT}, SubL a b → rowsOf a = rowsOf b → a = b
  | [], [], _, _ => rfl
  | x :: a, y :: b, h, he => by
    have h0 := h.2 0
    have ht : SubL a b := ⟨by have := h.1; simpa using this, fun i => by have := h.2 (i + 1); simpa [tabAt] using this⟩
    have h1 := rowsOf_le ht
    have h2 := h0.rows.length_le
    simp only [tabAt, List.getD_cons_zero] at h0 h2
    simp only [rowsOf, List.map_cons, List.sum_cons] at h1 he
    have e1 : a = b := rowsOf_eq ht (by simp only [rowsOf]; omega)
    have e2 : x.rows = y.rows := h0.rows.eq_of_length (by omega)
    obtain ⟨c, r⟩ := x
    obtain ⟨c', r'⟩ := y
    have e3 := h0.cols
    dsimp only at e2 e3
    rw [e1, e2, e3]
  | [], y :: b, h, _ => by have := h.1; simp at this
  | x :: a, [], h, _ => by have := h.1; simp at this
theorem redRound_lt {l : List PT} (h : redRound l ≠ l) : rowsOf (redRound l) < rowsOf l := by
  have h1 := rowsOf_le (redRound_less l)
  rcases Nat.lt_or_ge (rowsOf (redRound l)) (rowsOf l) with h2 | h2
  · exact h2
  · exact absurd (rowsOf_eq (redRound_less l) (by omega)) h
theorem redIt_enough : ∀ (f g : Nat) (l : List PT), rowsOf l ≤ f → rowsOf l ≤ g → redIt f l = redIt g l
  | 0, 0, l, _, _ => rfl
  | 0, g + 1, l, hf, hg => by
    have : redRound l = l := by
      by_cases h : redRound l = l
      · exact h
      · have := redRound_lt h; omega
    rw [redIt, redIt, if_pos this]
  | f + 1, 0, l, hf, hg => by
    have : redRound l = l := by
      by_cases h : redRound l = l
      · exact h
      · have := redRound_lt h; omega
    rw [redIt, redIt, if_pos this]
  | f + 1, g + 1, l, hf, hg => by
    rw [redIt, redIt]
    split
    · rfl
    · rename_i h
      have := redRound_lt h
      exact redIt_enough f g _ (by omega) (by omega)
theorem redN_step (l : List PT) : redN l = if redRound l = l then l else redN (redRound l) := by
  unfold redN
  by_cases h : redRound l = l
  · rw [if_pos h]
    cases hf : rowsOf l with
    | zero => rfl
    | succ f => rw [redIt, if_pos h]
  · rw [if_neg h]
    have := redRound_lt h
    obtain ⟨f, hf⟩ : ∃ f, rowsOf l = f + 1 := ⟨rowsOf l - 1, by omega⟩
    rw [hf, redIt, if_neg h]
    exact redIt_enough _ _ _ (by omega) (Nat.le_refl _)
theorem redN_fix (l : List PT) : redRound (redN l) = redN l := by
  have : ∀ n l, rowsOf l ≤ n → redRound (redN l) = redN l := by
    intro n
    induction n with
    | zero =>
      intro l hl
      rw [redN_step]
      split
      · rename_i h; exact h
      · rename_i h; have := redRound_lt h; omega
    | succ n ih =>
      intro l hl
      rw [redN_step]
      split
      · rename_i h; exact h
      · rename_i h; have := redRound_lt h; exact ih _ (by omega)
  exact this _ l (Nat.le_refl _)
/-- A round that changes nothing. -/
theorem redK_same (i : Nat) : ∀ (k : Nat) (l : List PT), i < l.length → k ≤ l.length → redK i k l = l → ∀ k', k' < k → i ≠ k' → ∀ r ∈ (tabAt l i).rows, parB (tabAt l i) r (tabAt l k') = true
  | 0, l, _, _, _, k', hk', _ => by omega
  | k + 1, l, hi, hk, he, k', hk', hne => by
    have h1 := redK_less i k l
    have h2 : redK i k l = l := by
      rw [redK] at he
      split at he
      · exact he
      · have h3 : SubL ((redK i k l).set i (semiB (tabAt (redK i k l) i) (tabAt (redK i k l) k))) (redK i k l) := set_sub' (semiB_sub _ _)
        rw [he] at h3
        exact h1.anti h3
    by_cases hkk : k' = k
    · subst hkk
      rw [redK] at he
      rw [if_neg hne, h2] at he
      have h4 := congrArg (fun l => tabAt l i) he
      simp only [tabAt_set] at h4
      rw [if_pos ⟨trivial, hi⟩, semiB_eq] at h4
      have h5 := congrArg PT.rows h4
      dsimp only at h5
      intro r hr
      rw [← h5] at hr
      exact (List.mem_filter.1 hr).2
    · exact redK_same i k l hi (by omega) h2 k' (by omega) hne
theorem redI_same : ∀ (n : Nat) (l : List PT), n ≤ l.length → redI n l = l → ∀ i, i < n → ∀ k, k < l.length → i ≠ k → ∀ r ∈ (tabAt l i).rows, parB (tabAt l i) r (tabAt l k) = true
  | 0, l, _, _, i, hi => by omega
  | n + 1, l, hn, he, i, hi => by
    rw [redI] at he
    have h1 := redI_less n l
    have h2 := redK_less n l.length (redI n l)
    rw [he] at h2
    have h3 := h1.anti h2
    rw [h3] at he
    by_cases hin : i = n
    · subst hin
      exact fun k hk hne => redK_same i l.length l (by omega) (Nat.le_refl _) he k hk hne
    · exact redI_same n l (by omega) h3 i (by omega)
theorem con_of_fix {l : List PT} (h : redRound l = l) : Con l := fun i k hi hk hne => redI_same l.length l (Nat.le_refl _) h i hi k hk hne
theorem redN_con (l : List PT) : Con (redN l) := con_of_fix (redN_fix l)
theorem redN_less (l : List PT) : SubL (redN l) l := redIt_less _ l
theorem redN_keep {m l : List PT} (hc : Con m) (h : SubL m l) : SubL m (redN l) := redIt_keep hc _ l h
/-- What has its partners and holds all that has them is what is reduced. -/
theorem redN_unique {m l : List PT} (hc : Con m) (h : SubL m l) (hk : ∀ m', Con m' → SubL m' l → SubL m' m) : m = redN l := (redN_keep hc h).anti (hk _ (redN_con l) (redN_less l))
end Go.Proofs.Bg
end

section
/- Contracts: the predicate of reduce. -/
namespace Go.Proofs.Bg
open Go.RowKit

abbrev MapB (w : World) (r : Nat) (kv : List (V8 × Bool)) : Prop := MapIs Tryz.prog 142 V8.v Value.bool w r kv
theorem zeroB (u : World) : (zeroValue 4).run Tryz.prog u = .ok (Value.bool false) u := by kernel_rfl
theorem lookB {w : World} {r : Nat} {kv : List (V8 × Bool)} {key : V8} {kl : Lit} (h : MapB w r kv) (hkey : keyOf Tryz.prog 142 key.v = some kl) :
    (Instr.lookup 167 (.map (some r)) (.agg #[.int .i64 key.a0, .int .i64 key.a1, .int .i64 key.a2, .int .i64 key.a3, .int .i64 key.a4, .int .i64 key.a5, .int .i64 key.a6, .int .i64 key.a7]) false).run Tryz.prog w = .ok (.bool ((getKV kv key).getD false)) w :=
  (h.lookup lawV8 V8.v_inj Tryz.underlying167 zeroB hkey).trans (by cases getKV kv key <;> rfl)
theorem storeB {w : World} {r : Nat} {kv : List (V8 × Bool)} {key : V8} {kl : Lit} (h : MapB w r kv) (hkey : keyOf Tryz.prog 142 key.v = some kl) :
    ∃ w', (Instr.mapUpdate 167 (.map (some r)) (.agg #[.int .i64 key.a0, .int .i64 key.a1, .int .i64 key.a2, .int .i64 key.a3, .int .i64 key.a4, .int .i64 key.a5, .int .i64 key.a6, .int .i64 key.a7]) (.bool true)).run Tryz.prog w = .ok () w' ∧ MapB w' r (putKV kv key true) ∧ w.grownBy w' (some r) :=
  h.update lawV8 V8.v_inj Tryz.underlying167 hkey true
/-- The keys of the first rows. -/
def anyTo (B : PT) (x k : Nat) (key : V8) : Bool := (B.rows.take k).any fun s => decide (onlyV (spreadV B.cols s) x = key)
theorem anyTo_succ {B : PT} {x k : Nat} {row : List Int} (h : B.rows[k]? = some row) (key : V8) : anyTo B x (k + 1) key = (anyTo B x k key || decide (onlyV (spreadV B.cols row) x = key)) := by
  unfold anyTo
  rw [List.take_add_one, h]
  simp
theorem anyTo_all {B : PT} {x : Nat} {v : V8} {k : Nat} (h : B.rows.length ≤ k) : anyTo B x k (onlyV v x) = hasB B x v := by
  unfold anyTo hasB
  rw [List.take_of_length_le h]
def KeysB (B : PT) (x k : Nat) (kv : List (V8 × Bool)) : Prop := ∀ key, (getKV kv key).getD false = anyTo B x k key
theorem KeysB.start (B : PT) (x : Nat) : KeysB B x 0 [] := fun key => by simp [getKV, anyTo]
theorem KeysB.step {B : PT} {x k : Nat} {row : List Int} {kv : List (V8 × Bool)} {key : V8} (h : KeysB B x k kv) (hr : B.rows[k]? = some row) (hk : onlyV (spreadV B.cols row) x = key) : KeysB B x (k + 1) (putKV kv key true) := fun key' => by
  rw [getKV_put, anyTo_succ hr, hk]
  by_cases e : key = key'
  · rw [if_pos e]; simp [e]
  · rw [if_neg e, h key']; simp [e]

/-- The cells that the predicate reads. -/
structure PredIs (gm gt gs tb tf r : Nat) (t : Tb) (x : Nat) (W : World) : Prop where
  fm : W.cell? ⟨gm, 0, none⟩ = some (.map (some r))
  ft : W.cell? ⟨gt, 0, none⟩ = some (.pointer (some ⟨tb, tf, none⟩))
  fc : W.cell? ⟨tb, tf, none⟩ = some (.slice t.cols.A t.cols.n t.cols.cap)
  fr : W.cell? ⟨tb, tf + 1, none⟩ = some (.slice t.rows.A t.rows.n t.rows.cap)
  fs : W.cell? ⟨gs, 0, none⟩ = some (.int .i64 (x : Nat))
theorem PredIs.below {gm gt gs tb tf r x : Nat} {t : Tb} {W W' : World} (h : PredIs gm gt gs tb tf r t x W) (hb : Below W.heap.size W W') : PredIs gm gt gs tb tf r t x W' :=
  ⟨(hb.cell (World.block_lt_of_cell? _ _ h.fm)).trans h.fm, (hb.cell (World.block_lt_of_cell? _ _ h.ft)).trans h.ft, (hb.cell (World.block_lt_of_cell? _ _ h.fc)).trans h.fc, (hb.cell (World.block_lt_of_cell? _ _ h.fr)).trans h.fr, (hb.cell (World.block_lt_of_cell? _ _ h.fs)).trans h.fs⟩
theorem PredIs.all {gm gt gs tb tf r x : Nat} {cA rA : Option Addr} {cn ck rn rk : Nat} {W : World} (h : PredIs gm gt gs tb tf r ⟨⟨cA, cn, ck⟩, ⟨rA, rn, rk⟩⟩ x W) : W.cell? ⟨gm, 0, none⟩ = some (.map (some r)) ∧ W.cell? ⟨gt, 0, none⟩ = some (.pointer (some ⟨tb, tf, none⟩)) ∧ W.cell? ⟨tb, tf, none⟩ = some (.slice cA cn ck) ∧ W.cell? ⟨tb, tf + 1, none⟩ = some (.slice rA rn rk) ∧ W.cell? ⟨gs, 0, none⟩ = some (.int .i64 (x : Nat)) := ⟨h.fm, h.ft, h.fc, h.fr, h.fs⟩

set_option maxRecDepth 100000 in
set_option maxHeartbeats 4000000 in
theorem pred_any {gm gt gs tb tf r x : Nat} {cA rA sA : Option Addr} {cn ck rn rk sn sk : Nat} {cols row : List Int} {kv : List (V8 × Bool)} (W : World) (hP : PredIs gm gt gs tb tf r ⟨⟨cA, cn, ck⟩, ⟨rA, rn, rk⟩⟩ x W) (hM : MapB W r kv)
    (hC : IntsAt W 0 ⟨cA, cn, ck⟩ cols) (hR : IntsAt W 0 ⟨sA, sn, sk⟩ row) (hcl : ∀ c ∈ cols, 0 ≤ c ∧ c < 8) (hlen : row.length = cols.length) (hx : x < 256) (hok : (onlyV (spreadV cols row) x).ok) :
    Calls Tryz.prog 136 #[.slice sA sn sk, .pointer (some ⟨gm, 0, none⟩), .pointer (some ⟨gt, 0, none⟩), .pointer (some ⟨gs, 0, none⟩)] W fun e w' => e = .returned (.bool (!((getKV kv (onlyV (spreadV cols row) x)).getD false))) ∧ Below W.heap.size W w' := by
  obtain ⟨v, hv⟩ : ∃ v, spreadV cols row = v := ⟨_, rfl⟩
  obtain ⟨key, hkey⟩ : ∃ key, onlyV v x = key := ⟨_, rfl⟩
  rw [hv, hkey] at hok ⊢
  obtain ⟨kl, hkl⟩ := keyV8 key hok
  have hcn : cols.length = cn := hC.len
  have hsn : row.length = sn := hR.len
  have hd : Below W.heap.size W W.drew := (Below.refl _ _).drew
  have Q1 := Lib.hid (spread_lit cA rA sA cn rn sn ck rk sk cols row W.drew v hv (hC.below hd) (hR.below hd) hcl (by omega))
  have Q2 := Lib.hid (fun W => only_lit v x W key hkey hx)
  have HM := Lib.hid (hM.drew)
  have HKL := Lib.hid hkl
  have K0 := Lib.hid (hP.below hd)
  have hP0 := hP.all
  obtain ⟨c1, c2, c3, c4, c5⟩ := hP0
  clear hv hkey hok hkl hC hR hM hlen hcn hsn hP hd
  go_enter Tryz.func136, Tryz.ntmps136
  go_wp2_with fail
  go_region_held3 (fun w' => w'.cell? ⟨gm, 0, none⟩ = some (.map (some r)) ∧ w'.cell? ⟨gt, 0, none⟩ = some (.pointer (some ⟨tb, tf, none⟩)) ∧ w'.cell? ⟨tb, tf, none⟩ = some (.slice cA cn ck) ∧ w'.cell? ⟨tb, tf + 1, none⟩ = some (.slice rA rn rk) ∧ w'.cell? ⟨gs, 0, none⟩ = some (.int .i64 (x : Nat)))
    (first
      | assumption
      | exact K0.out.all
      | exact K2.out.all
      | exact K3.out.all)
    (first
      | (go_at_call 108; (with_reducible refine Q1.out.mono ?_); rintro e w2 ⟨rfl, hb2⟩; have HB2 := Lib.hid hb2; have K2 := Lib.hid (K0.out.below hb2); clear hb2)
      | (go_at_call 116; (with_reducible refine (Q2.out _).mono ?_); rintro e w3 ⟨rfl, hb3⟩; have HB3 := Lib.hid (bchain HB2.out hb3); have K3 := Lib.hid (K2.out.below hb3); have HM3 := Lib.hid (HM.out.below HB3.out); have hlk := lookB HM3.out HKL.out; clear hb3))
  all_goals
    go_wp2_with fail
    go_ret
    exact ⟨rfl, bchain ((Below.refl W.heap.size W).drew) HB3.out⟩
end Go.Proofs.Bg
end

section
/- Contract: reduce. -/
namespace Go.Proofs.Bg
open Go.RowKit

/-- A table in the call's own memory, each row in a block of its own. -/
structure OwnTb (base : Nat) (w : World) (t : Tb) (T : PT) : Prop where
  cols : Own iv 1 3 base w t.cols.v T.cols
  rows : OwnRows base w t.rows.v T.rows
theorem OwnTb.tab {base : Nat} {w : World} {t : Tb} {T : PT} (h : OwnTb base w t T) : TabAt w base t T := by
  obtain ⟨⟨cA, cn, ck⟩, ⟨rA, rn, rk⟩⟩ := t
  exact ⟨h.cols.rdN iv_length, h.rows.rows⟩
theorem OwnTb.below {base : Nat} {w w' : World} {t : Tb} {T : PT} (h : OwnTb base w t T) (hb : Below w.heap.size w w') : OwnTb base w' t T := ⟨h.cols.below hb, h.rows.below hb⟩
/-- Another table's list of rows is turned. -/
theorem OwnTb.other {base g : Nat} {w w' : World} {t : Tb} {T : PT} {cs : Array Value} (h : OwnTb base w t T) (hg : w.grownBy w' (some g)) (hb : w.heap[g]? = some (.cells cs 32)) (hne : t.rows.v.ownBlock = none ∨ t.rows.v.ownBlock ≠ some g) : OwnTb base w' t T := by
  obtain ⟨ss, h1, h2⟩ := h.rows
  exact ⟨h.cols.grownT hg hb (by decide), ⟨ss, h1.grown hg hne, h2.mono fun x y hxy => hxy.grownT hg hb (by decide)⟩⟩
/-- A block of another kind is turned. -/
theorem OwnTb.kind {base g : Nat} {w w' : World} {t : Tb} {T : PT} {cs : Array Value} {ty : TypeId} (h : OwnTb base w t T) (hg : w.grownBy w' (some g)) (hb : w.heap[g]? = some (.cells cs ty)) (h1 : 32 ≠ ty) (h2 : 3 ≠ ty) : OwnTb base w' t T := by
  obtain ⟨ss, h3, h4⟩ := h.rows
  exact ⟨h.cols.grownT hg hb h2, ⟨ss, h3.grownT hg hb h1, h4.mono fun x y hxy => hxy.grownT hg hb h2⟩⟩
theorem below_none {w w' : World} (hg : w.grownBy w' none) : Below w.heap.size w w' := ⟨hg.os, hg.tape, hg.output, hg.size, fun i hi => hg.block i hi (by simp)⟩
theorem semiB_formed {a b : PT} (h : Formed a) : Formed (semiB a b) :=
  ⟨h.set, Nat.le_trans (List.length_filter_le _ _) h.most, fun r hr => h.row r (List.mem_filter.1 hr).1, List.Pairwise.filter _ h.up⟩
theorem PredIs.grown {gm gt gs tb tf r x : Nat} {t : Tb} {W W' : World} {row : Option Nat} (h : PredIs gm gt gs tb tf r t x W) (hg : W.grownBy W' row) (h1 : row ≠ some gm) (h2 : row ≠ some gt) (h3 : row ≠ some gs) (h4 : row ≠ some tb) : PredIs gm gt gs tb tf r t x W' :=
  ⟨(hg.cell_far ⟨gm, 0, none⟩ (World.block_lt_of_cell? _ _ h.fm) (fun e => h1 e.symm)).trans h.fm, (hg.cell_far ⟨gt, 0, none⟩ (World.block_lt_of_cell? _ _ h.ft) (fun e => h2 e.symm)).trans h.ft, (hg.cell_far ⟨tb, tf, none⟩ (World.block_lt_of_cell? _ _ h.fc) (fun e => h4 e.symm)).trans h.fc, (hg.cell_far ⟨tb, tf + 1, none⟩ (World.block_lt_of_cell? _ _ h.fr) (fun e => h4 e.symm)).trans h.fr, (hg.cell_far ⟨gs, 0, none⟩ (World.block_lt_of_cell? _ _ h.fs) (fun e => h3 e.symm)).trans h.fs⟩
theorem cell_no_map {W : World} {a : Addr} {v : Value} {r : Nat} {kv : List (V8 × Bool)} (hc : W.cell? a = some v) (hm : MapB W r kv) : some r ≠ some a.block := fun e => by
  obtain ⟨_, es, clock, hb, _⟩ := hm
  have : r = a.block := Option.some.inj e
  subst this
  unfold World.cell? at hc
  rw [hb] at hc
  cases hc
theorem cell_map_kept {W W' : World} {a : Addr} {v : Value} {r : Nat} {kv : List (V8 × Bool)} (hc : W.cell? a = some v) (hm : MapB W r kv) (hg : W.grownBy W' (some r)) : W'.cell? a = some v := (hg.cell_far a (World.block_lt_of_cell? _ _ hc) (fun e => cell_no_map hc hm e.symm)).trans hc
theorem PredIs.map {gm gt gs tb tf r x r' : Nat} {t : Tb} {W W' : World} {kv : List (V8 × Bool)} (h : PredIs gm gt gs tb tf r t x W) (hm : MapB W r' kv) (hg : W.grownBy W' (some r')) : PredIs gm gt gs tb tf r t x W' :=
  h.grown hg (cell_no_map h.fm hm) (cell_no_map h.ft hm) (cell_no_map h.fs hm) (cell_no_map h.fc hm)
/-- The rows with their slices. -/
theorem zip_all {α β : Type} {R : α → β → Prop} : ∀ {a : List α} {b : List β}, All2 R a b → (∀ z ∈ a.zip b, R z.1 z.2) ∧ (a.zip b).map Prod.fst = a ∧ (a.zip b).map Prod.snd = b
  | [], [], _ => ⟨fun z hz => by simp at hz, rfl, rfl⟩
  | x :: a, y :: b, h => by
    have ih := zip_all (R := R) (a := a) (b := b) ⟨by have := h.1; simpa using this, fun i u v h1 h2 => h.2 (i + 1) u v (by simpa using h1) (by simpa using h2)⟩
    refine ⟨fun z hz => ?_, by simp [ih.2.1], by simp [ih.2.2]⟩
    rw [List.zip_cons_cons] at hz
    rcases List.mem_cons.1 hz with rfl | hz
    · exact h.2 0 x y rfl rfl
    · exact ih.1 z hz
  | [], y :: b, h => by have := h.1; simp at this
  | x :: a, [], h => by have := h.1; simp at this
theorem all2_of {α β : Type} {R : α → β → Prop} : ∀ {l : List (α × β)}, (∀ z ∈ l, R z.1 z.2) → All2 R (l.map Prod.fst) (l.map Prod.snd)
  | [], _ => All2.nil _
  | z :: _, h => All2.cons (h z List.mem_cons_self) (all2_of fun y hy => h y (List.mem_cons_of_mem _ hy))
/-- Integers stay where a list of rows is turned. -/
theorem own_kept_rows {base b2 : Nat} {W W' : World} {v v2 : Value} {l : List Int} {ss : List Sl} (hO : Own Sl.vs 1 32 base W v ss) (hg : W.grownBy W' v.ownBlock) (h : Own iv 1 3 b2 W v2 l) : Own iv 1 3 b2 W' v2 l := by
  rcases hO.2 with ⟨e, _⟩ | ⟨g, cap, cur, e, hb, hh, _⟩
  · rw [e] at hg
    exact h.below (below_none hg)
  · rw [e] at hg
    exact h.grownT hg hh (by decide)
/-- The predicate at the rows. -/
theorem pred_rows {gm gt gs tb tf r x base : Nat} {t : Tb} {kv : List (V8 × Bool)} {W : World} {A B : PT} {zs : List (Sl × List Int)} (hP : PredIs gm gt gs tb tf r t x W) (hM : MapB W r kv) (hK : KeysB B x B.rows.length kv)
    (hC : Own iv 1 3 base W t.cols.v A.cols) (hZ : ∀ z ∈ zs, Own iv 1 3 base W z.1.v z.2) (hrows : zs.map Prod.snd = A.rows) (hA : Formed A) (hx : x < 256) (hxx : bitsN A.cols &&& bitsN B.cols = x)
    (hO : Own Sl.vs 1 32 base W t.rows.v (zs.map Prod.fst)) (h1 : t.rows.v.ownBlock ≠ some gm) (h2 : t.rows.v.ownBlock ≠ some gt) (h3 : t.rows.v.ownBlock ≠ some gs) (h4 : t.rows.v.ownBlock ≠ some tb) :
    PredR (fun z => !(parB A z.2 B)) zs t.rows.v.ownBlock W (.pointer (some ⟨gm, 0, none⟩)) (.pointer (some ⟨gt, 0, none⟩)) (.pointer (some ⟨gs, 0, none⟩)) := by
  intro z hz W' hg
  obtain ⟨⟨cA, cn, ck⟩, ⟨rA, rn, rk⟩⟩ := t
  obtain ⟨⟨sA, sn, sk⟩, row⟩ := z
  have hrow : row ∈ A.rows := by rw [← hrows]; exact List.mem_map.2 ⟨_, hz, rfl⟩
  have kept : ∀ {v : Value} {l : List Int}, Own iv 1 3 base W v l → Own iv 1 3 base W' v l := fun h => by
    rcases hO.2 with ⟨e, _⟩ | ⟨g, cap, cur, e, hb, hh, _⟩
    · have e' : (Sl.v ⟨rA, rn, rk⟩).ownBlock = none := by rw [show (Sl.v ⟨rA, rn, rk⟩) = Value.slice none 0 0 from e]; rfl
      rw [e'] at hg
      exact h.below (below_none hg)
    · have e' : (Sl.v ⟨rA, rn, rk⟩).ownBlock = some g := by rw [show (Sl.v ⟨rA, rn, rk⟩) = _ from e]; rfl
      rw [e'] at hg
      exact h.grownT hg hh (by decide)
  have hM' : MapB W' r kv := by
    refine hM.grown hg fun e => ?_
    rcases hO.2 with ⟨e2, _⟩ | ⟨g, cap, cur, e2, hb, hh, _⟩
    · rw [show (Sl.v ⟨rA, rn, rk⟩) = Value.slice none 0 0 from e2] at e; cases e
    · rw [show (Sl.v ⟨rA, rn, rk⟩) = _ from e2] at e
      have : r = g := Option.some.inj e
      subst this
      obtain ⟨_, es, clock, hb2, _⟩ := hM
      rw [hb2] at hh
      cases hh
  have hlen := (hA.row row hrow).1
  have hok : (onlyV (spreadV A.cols row) x).ok := only_ok (spread_ok hA hrow)
  have h := pred_any (cols := A.cols) (row := row) (sk := sk) W' (hP.grown hg h1 h2 h3 h4) hM' (((kept hC).rdN iv_length).low (Nat.zero_le _)) (((kept (hZ _ hz)).rdN iv_length).low (Nat.zero_le _)) hA.cols hlen hx hok
  have e : (getKV kv (onlyV (spreadV A.cols row) x)).getD false = parB A row B := by
    rw [hK, anyTo_all (Nat.le_refl _)]
    unfold parB
    rw [hxx]
  rw [e] at h
  exact h
end Go.Proofs.Bg
end

section
/- Contract: reduce: the walk. -/
namespace Go.Proofs.Bg
open Go.RowKit

/-- What reduce leaves: table number i has lost its rows without partners. -/
def RedOut (base gO N cap : Nat) (ts : List Tb) (i : Nat) (t : Tb) (A B : PT) (w : World) (e : Ending) (w' : World) : Prop :=
  e = .returned (.bool (decide ((semiB A B).rows.length < A.rows.length))) ∧ ∃ t', t'.cols = t.cols ∧ t'.rows.v.ownBlock = t.rows.v.ownBlock ∧ Own Tb.vs 2 40 base w' (.slice (some ⟨gO, 0, none⟩) N cap) (ts.set i t') ∧ OwnTb base w' t' (semiB A B) ∧ ∃ w1, w.grownBy w1 t.rows.v.ownBlock ∧ w1.grownBy w' (some gO)

set_option maxRecDepth 100000 in
set_option maxHeartbeats 8000000 in
theorem reduce_any (base gO N cap i : Nat) (ts : List Tb) (cA rA cB rB : Option Addr) (cn ck rn rk dn dk sn sk : Nat) (A B : PT) (w : World) (hO : Own Tb.vs 2 40 base w (.slice (some ⟨gO, 0, none⟩) N cap) ts) (ht : ts[i]? = some ⟨⟨cA, cn, ck⟩, ⟨rA, rn, rk⟩⟩)
    (hA : OwnTb base w ⟨⟨cA, cn, ck⟩, ⟨rA, rn, rk⟩⟩ A) (fA : Formed A) (hB : TabAt w 0 ⟨⟨cB, dn, dk⟩, ⟨rB, sn, sk⟩⟩ B) (fB : Formed B) :
    Calls Tryz.prog 89 #[.pointer (some ⟨gO, i * 2, none⟩), .agg #[.slice cB dn dk, .slice rB sn sk]] w (RedOut base gO N cap ts i ⟨⟨cA, cn, ck⟩, ⟨rA, rn, rk⟩⟩ A B w) := by
  have hil : i < ts.length := (List.getElem?_eq_some_iff.1 ht).1
  obtain ⟨_, x, e, hgb, hgl, hN, hx, hc, hf⟩ := hO.at_ Tb.vs_length hil
  cases e
  subst hN
  rw [ht] at hx
  cases hx
  have c0 := hc 0 _ rfl
  have c1 := hc 1 _ rfl
  have f1 := hf (i * 2 + 1)
  rw [Nat.add_zero] at c0
  have hrn : A.rows.length = rn := hA.tab.2.len
  have hcn : A.cols.length = cn := hA.cols.len.symm
  have hsn : B.rows.length = sn := hB.2.len
  have hdn : B.cols.length = dn := hB.1.len
  have hrb : ∀ g, (Sl.v ⟨rA, rn, rk⟩).ownBlock = some g → g < w.heap.size ∧ g ≠ gO := fun g e => by
    obtain ⟨ss, h1, _⟩ := hA.rows
    refine ⟨(h1.blk g e).2, fun e2 => ?_⟩
    subst e2
    rcases own_ne h1 hO (by decide) with h2 | h2
    · rw [h2] at e; cases e
    · exact h2 e
  have HRB := Lib.hid hrb
  generalize hW0 : (w.alloc (.cells #[.pointer (some ⟨gO, i * 2, none⟩)] 122)).alloc (.cells #[.slice cB dn dk, .slice rB sn sk] 40) = W0
  have HW0 := Lib.hid hW0
  have hB0 : Below w.heap.size w W0 := by
    rw [← hW0]
    exact (below_new w _).alloc (by simp) _
  have hsz0 : W0.heap.size = w.heap.size + 2 := by rw [← hW0]; simp
  have hb0 : W0.heap[w.heap.size]? = some (.cells #[.pointer (some ⟨gO, i * 2, none⟩)] 122) := by
    rw [← hW0, Below.heap_alloc _ _ _ (by simp)]
    exact new_block _ _ _
  have hb1 : W0.heap[w.heap.size + 1]? = some (.cells #[.slice cB dn dk, .slice rB sn sk] 40) := by
    rw [← hW0]
    have := new_block (w.alloc (.cells #[.pointer (some ⟨gO, i * 2, none⟩)] 122)) #[.slice cB dn dk, .slice rB sn sk] 40
    simpa using this
  have H0 := Lib.hid hb0
  have H1 := Lib.hid hb1
  have HB0 := Lib.hid hB0
  have HSZ := Lib.hid hsz0
  have d0 := (hB0.cell (World.block_lt_of_cell? _ _ c0)).trans c0
  have d1 := (hB0.cell (World.block_lt_of_cell? _ _ c1)).trans c1
  have p0 := cell_at_block (off := 0) hb0 rfl
  have q0 := cell_at_block (off := 0) hb1 rfl
  have q1 := cell_at_block (off := 1) hb1 rfl
  have hxa := fA.bits
  have hxb := fB.bits
  have QA := Lib.hid (fun W (hW : Below W0.heap.size W0 W) => bitsOf_any cA cn ck A.cols W ((((hA.cols.below hB0).rdN iv_length).low (Nat.zero_le _)).below hW) fA.cols)
  have QB := Lib.hid (fun W (hW : Below W0.heap.size W0 W) => bitsOf_any cB dn dk B.cols W ((hB.1.below hB0).below hW) fB.cols)
  obtain ⟨x, hxx⟩ : ∃ x, bitsN A.cols &&& bitsN B.cols = x := ⟨_, rfl⟩
  have hx8 : x < 256 := by rw [← hxx]; exact Nat.lt_of_le_of_lt Nat.and_le_left hxa
  have hband := band_nat (a := bitsN A.cols) (b := bitsN B.cols) (by omega) (by omega)
  rw [hxx] at hband
  have HXX := Lib.hid hxx
  have HO := Lib.hid hO
  have HT := Lib.hid ht
  have HA := Lib.hid hA
  have HB := Lib.hid hB
  have FA := Lib.hid fA
  have FB := Lib.hid fB
  have HRN := Lib.hid hrn
  have HSN := Lib.hid hsn
  have HDN := Lib.hid hdn
  have HF1 := Lib.hid f1
  have hsn5 : sn ≤ 500 := by rw [← hsn]; exact fB.most
  have hrn5 : rn ≤ 500 := by rw [← hrn]; exact fA.most
  generalize hXA : bitsN A.cols = xa at *
  generalize hXB : bitsN B.cols = xb at *
  have HXC : Hid (bitsN A.cols &&& bitsN B.cols = x) := by show _ = _; rw [hXA, hXB]; exact HXX.out
  clear hXA hXB
  clear hO ht hA hB fA fB hrn hcn hsn hdn hrb hW0 hB0 hsz0 hb0 hb1 c0 c1 hc hf f1 hxx
  go_enter Tryz.func89, Tryz.ntmps89
  go_wp2_with fail
  rw [HW0.out]
  have K0 := Lib.hid (fun W (hW : Below W0.heap.size W0 W) => (⟨(hW.cell (World.block_lt_of_cell? _ _ p0)).trans p0, (hW.cell (World.block_lt_of_cell? _ _ d0)).trans d0, (hW.cell (World.block_lt_of_cell? _ _ q0)).trans q0⟩ : W.cell? ⟨w.heap.size, 0, none⟩ = some (.pointer (some ⟨gO, i * 2, none⟩)) ∧ W.cell? ⟨gO, i * 2, none⟩ = some (.slice cA cn ck) ∧ W.cell? ⟨w.heap.size + 1, 0, none⟩ = some (.slice cB dn dk)))
  go_cut [5] from 10 to 18 (fun s5 wz => s5 = .pointer (some ⟨W0.heap.size, 0, none⟩) ∧ wz = (W0.alloc (.cells #[.int .i64 (x : Nat)] 3)).drew)
  case first =>
    go_region_held3 (fun w' => w'.cell? ⟨w.heap.size, 0, none⟩ = some (.pointer (some ⟨gO, i * 2, none⟩)) ∧ w'.cell? ⟨gO, i * 2, none⟩ = some (.slice cA cn ck) ∧ w'.cell? ⟨w.heap.size + 1, 0, none⟩ = some (.slice cB dn dk))
      (first
        | assumption
        | exact K0.out _ (by repeat' first | exact Below.refl _ _ | refine Below.drew ?_ | refine Below.alloc ?_ (Nat.le_refl _) _))
      (first
        | (go_at_call 92; (with_reducible refine (QA.out _ (by repeat' first | exact Below.refl _ _ | refine Below.drew ?_ | refine Below.alloc ?_ (Nat.le_refl _) _)).mono ?_); rintro e w2 ⟨rfl, rfl⟩)
        | (go_at_call 92; (with_reducible refine (QB.out _ (by repeat' first | exact Below.refl _ _ | refine Below.drew ?_ | refine Below.alloc ?_ (Nat.le_refl _) _)).mono ?_); rintro e w3 ⟨rfl, rfl⟩))
    all_goals
      go_wp2_with fail
      go_meet
      exact ⟨rfl, rfl⟩
  case rest =>
    obtain ⟨rfl, rfl⟩ := hcut
    have hb3 : Below W0.heap.size W0 (((W0.alloc (.cells #[.int .i64 (x : Nat)] 3)).alloc (.map #[] 0)).alloc (.cells #[.map (some (W0.heap.size + 1))] 167)) := ((below_new W0 _).alloc (by simp) _).alloc (by simp; omega) _
    have q1' := (hb3.cell (World.block_lt_of_cell? _ _ q1)).trans q1
    obtain ⟨W1, hW1⟩ : ∃ W1, (((W0.alloc (.cells #[.int .i64 (x : Nat)] 3)).alloc (.map #[] 0)).alloc (.cells #[.map (some (W0.heap.size + 1))] 167)).drew = W1 := ⟨_, rfl⟩
    have hb1 : Below W0.heap.size W0 W1 := by
      rw [← hW1]
      exact hb3.drew
    have hsz1 : W1.heap.size = W0.heap.size + 3 := by rw [← hW1]; simp
    have hgs : W1.heap[W0.heap.size]? = some (.cells #[.int .i64 (x : Nat)] 3) := by
      rw [← hW1]
      show (((W0.alloc (.cells #[.int .i64 (x : Nat)] 3)).alloc (.map #[] 0)).alloc (.cells #[.map (some (W0.heap.size + 1))] 167)).heap[W0.heap.size]? = _
      rw [Below.heap_alloc _ _ _ (by simp; omega), Below.heap_alloc _ _ _ (by simp)]
      exact new_block _ _ _
    have hgr : MapB W1 (W0.heap.size + 1) [] := by
      rw [← hW1]
      have := ((MapIs.made (W0.alloc (.cells #[.int .i64 (x : Nat)] 3)) Tryz.prog 142 V8.v Value.bool).alloc (.cells #[.map (some (W0.heap.size + 1))] 167)).drew
      rw [World.size_alloc] at this
      exact this
    have hgm : W1.heap[W0.heap.size + 1 + 1]? = some (.cells #[.map (some (W0.heap.size + 1))] 167) := by
      rw [← hW1]
      have := new_block ((W0.alloc (.cells #[.int .i64 (x : Nat)] 3)).alloc (.map #[] 0)) #[.map (some (W0.heap.size + 1))] 167
      rw [World.size_alloc, World.size_alloc] at this
      exact this
    have hP1 : PredIs (W0.heap.size + 1 + 1) w.heap.size W0.heap.size gO (i * 2) (W0.heap.size + 1) ⟨⟨cA, cn, ck⟩, ⟨rA, rn, rk⟩⟩ x W1 :=
      ⟨cell_at_block (off := 0) hgm rfl, (hb1.cell (World.block_lt_of_cell? _ _ p0)).trans p0, (hb1.cell (World.block_lt_of_cell? _ _ d0)).trans d0, (hb1.cell (World.block_lt_of_cell? _ _ d1)).trans d1, cell_at_block (off := 0) hgs rfl⟩
    have HW1 := Lib.hid hW1
    have HP1 := Lib.hid hP1
    have HM1 := Lib.hid hgr
    have HB1 := Lib.hid (bchain HB0.out hb1)
    have H11 := Lib.hid ((hb1.block _ (Array.getElem?_eq_some_iff.1 H1.out).1).trans H1.out)
    have hmm := @run_makeMap Tryz.prog
    clear hW1 hb1 hb3 hgs hgr hgm hP1 p0 d0 d1 q0 q1 K0 QA QB hband
    go_wp2_with fail
    rw [HW1.out]
    clear hmm q1'
    obtain ⟨s0, hs0⟩ : ∃ s0, W0.heap.size = s0 := ⟨_, rfl⟩
    rw [hs0] at HP1 HM1 HSZ hsz1 ⊢
    go_loopw [23] (fun i5 wr => ∃ (k : Nat) (kv : List (V8 × Bool)), k ≤ sn ∧ i5 = .int .i64 k ∧ MapB wr (s0 + 1) kv ∧ KeysB B x k kv ∧ PredIs (s0 + 1 + 1) w.heap.size s0 gO (i * 2) (s0 + 1) ⟨⟨cA, cn, ck⟩, ⟨rA, rn, rk⟩⟩ x wr ∧ wr.heap[w.heap.size + 1]? = some (.cells #[.slice cB dn dk, .slice rB sn sk] 40) ∧ Below w.heap.size w wr) (fun i5 _ => sn - (intOf i5).toNat)
    case atStart => exact ⟨0, [], by omega, rfl, HM1.out, KeysB.start _ _, HP1.out, H11.out, HB1.out⟩
    case round =>
      clear HP1 HM1 H11 HB1
      obtain ⟨k, kv, hk, rfl, hM, hK, hP, hT, hB⟩ := hrel
      have HM := Lib.hid hM
      have HK := Lib.hid hK
      have HP := Lib.hid hP
      have HTB := Lib.hid hT
      have HBW := Lib.hid hB
      by_cases hlt : k < sn
      · obtain ⟨b1, o1, s, row, hbb, -, hr, e0, hR⟩ := ((HB.out.below hB).2).at_ hlt
        simp only [] at hbb
        subst hbb
        obtain ⟨sA, sn2, sk2⟩ := s
        have hmem := List.mem_of_getElem? hr
        have hrl : row.length = sn2 := hR.len
        have hrow := FB.out.row row hmem
        obtain ⟨v, hv⟩ : ∃ v, spreadV B.cols row = v := ⟨_, rfl⟩
        obtain ⟨key, hkey⟩ : ∃ key, onlyV v x = key := ⟨_, rfl⟩
        have hd : Below wr.heap.size wr wr.drew := (Below.refl _ _).drew
        have Q1 := Lib.hid (spread_lit cB (some ⟨b1, o1, none⟩) sA dn sn sn2 dk sk sk2 B.cols row wr.drew v hv (((HB.out.below hB).1).below hd) (hR.below hd) FB.out.cols (by rw [← hrl, hrow.1, HDN.out]))
        have Q2 := Lib.hid (fun W => only_lit v x W key hkey hx8)
        obtain ⟨kl, hkl⟩ := keyV8 key (by rw [← hkey]; exact only_ok (by rw [← hv]; exact spread_ok FB.out hmem))
        have HKS := Lib.hid (hK.step hr (by rw [hv, hkey]))
        have HKL := Lib.hid hkl
        have hi1 : (k : Int) < sn := by omega
        have n1 := cell_at_block (off := 1) hT rfl
        have n0 := cell_at_block (off := 0) hT rfl
        have K5 := Lib.hid (fun W (hW : Below wr.heap.size wr W) => (⟨(hW.cell (World.block_lt_of_cell? _ _ hP.fm)).trans hP.fm, (hW.cell (World.block_lt_of_cell? _ _ n0)).trans n0, (hW.cell (World.block_lt_of_cell? _ _ n1)).trans n1, (hW.cell (World.block_lt_of_cell? _ _ hP.fs)).trans hP.fs⟩ : W.cell? ⟨s0 + 1 + 1, 0, none⟩ = some (.map (some (s0 + 1))) ∧ W.cell? ⟨w.heap.size + 1, 0, none⟩ = some (.slice cB dn dk) ∧ W.cell? ⟨w.heap.size + 1, 1, none⟩ = some (.slice (some ⟨b1, o1, none⟩) sn sk) ∧ W.cell? ⟨s0, 0, none⟩ = some (.int .i64 (x : Nat))))
        have m0 := hP.fm
        have m1 := hP.fs
        clear hM hK hP hT hB hr hmem hrl hrow hv hkey hkl hd hR
        go_wp2_with fail
        go_region_held3 (fun W => W.cell? ⟨s0 + 1 + 1, 0, none⟩ = some (.map (some (s0 + 1))) ∧ W.cell? ⟨w.heap.size + 1, 0, none⟩ = some (.slice cB dn dk) ∧ W.cell? ⟨w.heap.size + 1, 1, none⟩ = some (.slice (some ⟨b1, o1, none⟩) sn sk) ∧ W.cell? ⟨s0, 0, none⟩ = some (.int .i64 (x : Nat)))
          (first
            | assumption
            | exact K8.out
            | exact K5.out _ HB2.out
            | exact K5.out _ HB3.out
            | exact K5.out _ (by repeat' first | exact Below.refl _ _ | refine Below.drew ?_))
          (first
            | (go_at_call 108; (with_reducible refine Q1.out.mono ?_); rintro e w2 ⟨rfl, hb2⟩; have HB2 := Lib.hid (bchain ((Below.refl wr.heap.size wr).drew) hb2); clear hb2)
            | (go_at_call 116; (with_reducible refine (Q2.out _).mono ?_); rintro e w3 ⟨rfl, hb3⟩; have HB3 := Lib.hid (bchain HB2.out hb3); obtain ⟨w4, hst, hM4, hg4⟩ := storeB (HM.out.below HB3.out) HKL.out; have HM4 := Lib.hid hM4; have HG4 := Lib.hid hg4; have K3 := K5.out _ HB3.out; have K8 := Lib.hid (And.intro (cell_map_kept K3.1 (HM.out.below HB3.out) hg4) (And.intro (cell_map_kept K3.2.1 (HM.out.below HB3.out) hg4) (And.intro (cell_map_kept K3.2.2.1 (HM.out.below HB3.out) hg4) (cell_map_kept K3.2.2.2 (HM.out.below HB3.out) hg4)))); clear hb3 hM4 hg4 K3))
        all_goals
          go_wp2_with fail
          have hs4 := HSZ.out
          have hn4 := (HB3.out.block _ (Array.getElem?_eq_some_iff.1 HTB.out).1).trans HTB.out
          exact ⟨⟨k + 1, _, by omega, by go_num, HM4.out, HKS.out, (HP.out.below HB3.out).map (HM.out.below HB3.out) HG4.out, (HG4.out.block _ (Array.getElem?_eq_some_iff.1 hn4).1 (fun e => by have := Option.some.inj e; omega)).trans hn4, (bchain HBW.out HB3.out).grown HG4.out (bchain HBW.out HB3.out).size (fun j e => by cases e; omega)⟩, by simp [intOf]; omega⟩
      · have hk' : k = sn := by omega
        have hK2 : KeysB B x B.rows.length kv := by rw [HSN.out, ← hk']; exact hK
        obtain ⟨ss, hs1, hs2⟩ := (HA.out.below hB).rows
        obtain ⟨z1, z2, z3⟩ := zip_all hs2
        generalize hzs : ss.zip A.rows = zs at *
        rw [← z2] at hs1
        have hzl : zs.length = rn := by rw [← HRN.out, ← z3, List.length_map]
        have hszB := hB.size
        have hd : Below wr.heap.size wr wr.drew := (Below.refl _ _).drew
        have hpr := pred_rows (t := ⟨⟨cA, cn, ck⟩, ⟨rA, rn, rk⟩⟩) (hP.below hd) (hM.drew) hK2 (((HA.out.below hB).cols).below hd) (fun z hz => (z1 z hz).below hd) z3 FA.out hx8 HXC.out (hs1.below hd) (fun e => by have := (HRB.out _ e).1; have := HSZ.out; omega) (fun e => by have := (HRB.out _ e).1; omega) (fun e => by have := (HRB.out _ e).1; have := HSZ.out; omega) (fun e => (HRB.out _ e).2 rfl)
        have Q3 := Lib.hid (DeleteRows_any base rk rA (fun z => !(parB A z.2 B)) zs _ _ _ wr.drew (by rw [hzl]; exact hs1.below hd) (by rw [hzl]; exact hpr) (by rw [hzl]; omega))
        rw [hzl] at Q3
        obtain ⟨Z, hZ⟩ : ∃ Z, zs.filter (fun z => !(!(parB A z.2 B))) = Z := ⟨_, rfl⟩
        have hZr : Z.map Prod.snd = (semiB A B).rows := by
          rw [semiB_eq, ← z3, List.filter_map, ← hZ]
          congr 1
          refine List.filter_congr fun z _ => ?_
          simp
        have hZo : ∀ z ∈ Z, Own iv 1 3 base wr z.1.v z.2 := fun z hz => z1 z (by rw [← hZ] at hz; exact (List.mem_filter.1 hz).1)
        rw [hZ] at Q3
        have HZR := Lib.hid hZr
        have HZO := Lib.hid hZo
        have hZl : Z.length = (semiB A B).rows.length := by rw [← hZr, List.length_map]
        have HZL := Lib.hid hZl
        have d1 : decide ((k : Int) < (sn : Int)) = false := by rw [decide_eq_false_iff_not]; omega
        have d2 : decide (k < sn) = false := by rw [decide_eq_false_iff_not]; omega
        have m0 := hP.ft
        have m1 := hP.fr
        have f0 : wr.frozen? ⟨gO, i * 2 + 1, none⟩ = false := (hB.frozen (p := ⟨gO, i * 2 + 1, none⟩) hgl).trans HF1.out
        have K6 := Lib.hid (fun W (hW : Below wr.heap.size wr W) => (⟨(hW.cell (World.block_lt_of_cell? _ _ m0)).trans m0, (hW.cell (World.block_lt_of_cell? _ _ m1)).trans m1⟩ : W.cell? ⟨w.heap.size, 0, none⟩ = some (.pointer (some ⟨gO, i * 2, none⟩)) ∧ W.cell? ⟨gO, i * 2 + 1, none⟩ = some (.slice rA rn rk)))
        have K7 := Lib.hid (fun W (hW : wr.drew.grownBy W (Value.slice rA rn rk).ownBlock) => (⟨(hW.cell_far ⟨w.heap.size, 0, none⟩ (World.block_lt_of_cell? _ _ m0) (fun e => by have := (HRB.out _ e.symm).1; simp at this)).trans m0, (hW.cell_far ⟨gO, i * 2 + 1, none⟩ (World.block_lt_of_cell? _ _ m1) (fun e => (HRB.out _ e.symm).2 rfl)).trans m1⟩ : W.cell? ⟨w.heap.size, 0, none⟩ = some (.pointer (some ⟨gO, i * 2, none⟩)) ∧ W.cell? ⟨gO, i * 2 + 1, none⟩ = some (.slice rA rn rk)))
        have hOW := (HO.out.below hB).below hd
        have HOW := Lib.hid hOW
        have K9 := Lib.hid (fun W (hW : wr.drew.grownBy W (Value.slice rA rn rk).ownBlock) => hOW.grown hW (.inr fun e => (HRB.out _ e.symm).2 rfl))
        have HCW := Lib.hid ((HA.out.below hB).cols)
        have HS1 := Lib.hid (hs1.below hd)
        have HWR := Lib.hid (below_grown (row := (Value.slice rA rn rk).ownBlock) (hB.trans (hd.mono hszB)))
        clear hM hK hK2 hP hT hB hs1 hs2 hpr z1 z2 z3 hzs hlt hZ hZr hZo hOW hZl
        have HD := Lib.hid hd
        clear hd
        go_wp2_with fail
        go_cut [] from 39 to 47 (fun wz => ∃ w2, wr.drew.grownBy w2 (Value.slice rA rn rk).ownBlock ∧ Own Sl.vs 1 32 base w2 (.slice rA Z.length rk) (Z.map Prod.fst) ∧ wz = w2.setCell ⟨gO, i * 2 + 1, none⟩ (.slice rA Z.length rk))
        case first =>
          go_region_with (go_at_call 135; (with_reducible refine Q3.out.mono ?_); rintro e w2 ⟨rfl, ho2, hg2⟩; have HO2 := Lib.hid ho2; have HG2 := Lib.hid hg2; obtain ⟨y0, y1⟩ := K7.out _ hg2; have y2 := (hg2.frozen_far ⟨gO, i * 2 + 1, none⟩ (World.block_lt_of_cell? _ _ m1) (fun e => (HRB.out _ e.symm).2 rfl)).trans f0; clear ho2 hg2)
          all_goals
            go_wp2_with fail
            go_meet
            exact ⟨_, HG2.out, HO2.out, rfl⟩
        case rest =>
          obtain ⟨w2, hg2, ho2, rfl⟩ := hcut
          have hoW := K9.out _ hg2
          have hil2 : ts[i]? = some ⟨⟨cA, cn, ck⟩, ⟨rA, rn, rk⟩⟩ := HT.out
          obtain ⟨q1, q2⟩ := Own.setAt Tb.vs_length hoW (i := i) (j := 1) (x := ⟨⟨cA, cn, ck⟩, ⟨rA, rn, rk⟩⟩) (y := ⟨⟨cA, cn, ck⟩, ⟨rA, Z.length, rk⟩⟩) hil2 rfl (by decide)
          obtain ⟨y0, y1⟩ := K7.out _ hg2
          have z0 := (q2.cell_far ⟨w.heap.size, 0, none⟩ (World.block_lt_of_cell? _ _ y0) (fun e => by have := Option.some.inj e; simp at this; omega)).trans y0
          have z1 : (w2.setCell ⟨gO, i * 2 + 1, none⟩ (.slice rA Z.length rk)).cell? ⟨gO, i * 2 + 1, none⟩ = some (.slice rA Z.length rk) := by
            obtain ⟨cc, hcc⟩ := hoW.heap
            obtain ⟨_, x9, e9, -, -, -, hx9, hc9, -⟩ := q1.at_ Tb.vs_length (i := i) (by simp; exact hil)
            cases e9
            rw [List.getElem?_set_self hil] at hx9
            cases hx9
            exact hc9 1 _ rfl
          obtain ⟨cc, hcc⟩ := hoW.heap
          have hkept := fun {v : Value} {l : List Int} (h : Own iv 1 3 base wr v l) => ((own_kept_rows HS1.out hg2 (h.below HD.out)).grownT q2 hcc (by decide))
          have HTN : Hid (OwnTb base (w2.setCell ⟨gO, i * 2 + 1, none⟩ (.slice rA Z.length rk)) ⟨⟨cA, cn, ck⟩, ⟨rA, Z.length, rk⟩⟩ (semiB A B)) := by
            refine ⟨hkept HCW.out, ⟨Z.map Prod.fst, ho2.grownT q2 hcc (by decide), ?_⟩⟩
            rw [← HZR.out]
            exact all2_of fun z hz => hkept (HZO.out z hz)
          have HQ1 := Lib.hid q1
          have HW3 := Lib.hid (HWR.out.then_ hg2 (fun _ e => .inr e))
          have HQ2 := Lib.hid q2
          obtain ⟨W9, hW9⟩ : ∃ W9, w2.setCell ⟨gO, i * 2 + 1, none⟩ (.slice rA Z.length rk) = W9 := ⟨_, rfl⟩
          rw [hW9] at z0 z1 HTN HQ1 HQ2 ⊢
          obtain ⟨bb, hbb⟩ : ∃ bb, decide ((semiB A B).rows.length < A.rows.length) = bb := ⟨_, rfl⟩
          have hres : decide (Z.length < rn) = bb := by rw [← hbb, HRN.out, HZL.out]
          have HBB := Lib.hid hbb
          clear hW9 hg2 ho2 hoW hil2 q1 q2 y0 y1 hcc hkept hbb m0 m1 f0
          go_wp2_with fail
          go_ret
          unfold RedOut
          rw [HBB.out]
          refine ⟨?_, ⟨⟨cA, cn, ck⟩, ⟨rA, Z.length, rk⟩⟩, rfl, by show Value.ownBlock (.slice rA Z.length rk) = Value.ownBlock (.slice rA rn rk); cases rA <;> rfl, HQ1.out, HTN.out, _, HW3.out, HQ2.out⟩
          first | rfl | exact congrArg (fun b => Ending.returned (Value.bool b)) hres
end Go.Proofs.Bg
end

section
/- Contract: Reduce. -/
namespace Go.Proofs.Bg
open Go.RowKit

theorem OwnRows.lowB {base base' : Nat} {w : World} {v : Value} {l : List (List Int)} (h : OwnRows base w v l) (hb : base' ≤ base) : OwnRows base' w v l := by
  obtain ⟨ss, h1, h2⟩ := h
  exact ⟨ss, h1.low hb, h2.mono fun x y hh => hh.low hb⟩
theorem OwnTb.past {base b2 : Nat} {W W' : World} {v : Value} {ts : List Tb} {t : Tb} {T : PT} (h : OwnTb base W t T) (hO : Own Tb.vs 2 40 b2 W v ts) (hg : W.grownBy W' v.ownBlock) : OwnTb base W' t T := by
  obtain ⟨ss, h3, h4⟩ := h.rows
  exact ⟨h.cols.grown hg (own_ne h.cols hO (by decide)), ⟨ss, h3.grown hg (own_ne h3 hO (by decide)), h4.mono fun x y hxy => hxy.grown hg (own_ne hxy hO (by decide))⟩⟩
theorem OwnTb.lt {base : Nat} {W : World} {t : Tb} {T : PT} (h : OwnTb base W t T) : ∀ g, t.rows.v.ownBlock = some g → base ≤ g ∧ g < W.heap.size := by
  obtain ⟨ss, h1, _⟩ := h.rows
  exact h1.blk
def Apart (ts : List Tb) : Prop := ∀ (i k : Nat) (t u : Tb), i ≠ k → ts[i]? = some t → ts[k]? = some u → t.rows.v.ownBlock = none ∨ t.rows.v.ownBlock ≠ u.rows.v.ownBlock
/-- The tables while they are reduced. -/
structure RSt (base : Nat) (W : World) (v : Value) (ts : List Tb) (Ts : List PT) : Prop where
  own : Own Tb.vs 2 40 base W v ts
  tabs : All2 (OwnTb base W) ts Ts
  apart : Apart ts
  formed : ∀ T ∈ Ts, Formed T
theorem RSt.below {base : Nat} {W W' : World} {v : Value} {ts : List Tb} {Ts : List PT} (h : RSt base W v ts Ts) (hb : Below W.heap.size W W') : RSt base W' v ts Ts := ⟨h.own.below hb, h.tabs.mono fun _ _ hh => hh.below hb, h.apart, h.formed⟩
theorem Apart.snoc {ts : List Tb} {t : Tb} (h : Apart ts) (hn : ∀ (i : Nat) (u : Tb), ts[i]? = some u → (u.rows.v.ownBlock = none ∨ u.rows.v.ownBlock ≠ t.rows.v.ownBlock)) : Apart (ts ++ [t]) := by
  intro i k x y hik hx hy
  have hlt : ∀ (j : Nat) (z : Tb), (ts ++ [t])[j]? = some z → j < ts.length ∧ ts[j]? = some z ∨ j = ts.length ∧ z = t := fun j z hz => by
    by_cases hj : j < ts.length
    · rw [List.getElem?_append_left hj] at hz
      exact .inl ⟨hj, hz⟩
    · rw [List.getElem?_append_right (by omega)] at hz
      have : j - ts.length = 0 := by
        have := (List.getElem?_eq_some_iff.1 hz).1
        simp at this
        omega
      rw [this] at hz
      simp at hz
      exact .inr ⟨by omega, hz.symm⟩
  rcases hlt i x hx with ⟨h1, h2⟩ | ⟨h1, rfl⟩ <;> rcases hlt k y hy with ⟨h3, h4⟩ | ⟨h3, rfl⟩
  · exact h i k x y hik h2 h4
  · exact hn i x h2
  · rcases hn k y h4 with h5 | h5
    · cases hb : x.rows.v.ownBlock with
      | none => exact .inl rfl
      | some b => exact .inr (fun e => by rw [h5] at e; cases e)
    · exact .inr (fun e => h5 e.symm)
  · omega
theorem RSt.push {base : Nat} {wr w2 w3 w1 : World} {v v1 : Value} {ts : List Tb} {Ts : List PT} {t : Tb} {T : PT} {o : Obj} (h : RSt base wr v ts Ts) (hb2 : Below wr.heap.size wr w2) (hb3 : Below w2.heap.size w2 w3) (hc : Own iv 1 3 base w2 t.cols.v T.cols) (hr : OwnRows w2.heap.size w3 t.rows.v T.rows) (hbase : base ≤ w2.heap.size) (hf : Formed T)
    (hO : Own Tb.vs 2 40 base w1 v1 (ts ++ [t])) (hg : (w3.alloc o).grownBy w1 v.ownBlock) : RSt base w1 v1 (ts ++ [t]) (Ts ++ [T]) := by
  have hb := bchain hb2 hb3
  have ho3 := (h.own.below hb).alloc o
  have hba := (Below.refl w3.heap.size w3).alloc (Nat.le_refl _) o
  refine ⟨hO, All2.snoc (h.tabs.mono fun x y hh => ((hh.below hb).below hba).past ho3 hg) ((OwnTb.below ⟨hc.below hb3, hr.lowB hbase⟩ hba).past ho3 hg), h.apart.snoc fun i u hu => ?_, fun T' hT' => ?_⟩
  · obtain ⟨U, hU, hUU⟩ := h.tabs.at_ hu
    cases hq : u.rows.v.ownBlock with
    | none => exact .inl rfl
    | some g =>
      refine .inr fun e => ?_
      have h1 := (hUU.lt g hq).2
      obtain ⟨ss, h2, _⟩ := hr
      have h3 := (h2.blk g e.symm).1
      have := hb2.size
      omega
  · rcases List.mem_append.1 hT' with h1 | h1
    · exact h.formed _ h1
    · simp at h1; subst h1; exact hf
theorem RSt.step {base gO cap i k N : Nat} {W W' : World} {ts : List Tb} {Ts : List PT} {t : Tb} {e : Ending} (hN : ts.length = N) (h : RSt base W (.slice (some ⟨gO, 0, none⟩) N cap) ts Ts) (ht : ts[i]? = some t) (hi : i < Ts.length)
    (hr : RedOut base gO N cap ts i t (tabAt Ts i) (tabAt Ts k) W e W') :
    ∃ ts', ts'.length = N ∧ RSt base W' (.slice (some ⟨gO, 0, none⟩) N cap) ts' (Ts.set i (semiB (tabAt Ts i) (tabAt Ts k))) ∧ (∀ b : Nat, b ≤ base → b ≤ W.heap.size → ∀ w, Below b w W → Below b w W') := by
  subst hN
  obtain ⟨he, t', hc, hrb, hO, hT, w1, hg1, hg2⟩ := hr
  have htO := h.tabs.2 i t (tabAt Ts i) ht (by simp [tabAt, hi])
  have hown1 : Own Tb.vs 2 40 base w1 (.slice (some ⟨gO, 0, none⟩) ts.length cap) ts := by
    obtain ⟨ss, h3, _⟩ := htO.rows
    exact h.own.grown hg1 (own_ne h.own h3 (by decide))
  refine ⟨ts.set i t', by simp, ⟨hO, ⟨by rw [List.length_set, List.length_set, h.tabs.1], fun j x y hx hy => ?_⟩, fun a b x y hab hx hy => ?_, fun T hT' => ?_⟩, fun b hb hbs w hB => ?_⟩
  · rw [List.getElem?_set] at hx hy
    by_cases hij : i = j
    · subst hij
      have hit : i < ts.length := (List.getElem?_eq_some_iff.1 ht).1
      rw [if_pos rfl, if_pos hit] at hx
      rw [if_pos rfl, if_pos hi] at hy
      cases hx; cases hy
      exact hT
    · rw [if_neg hij] at hx hy
      have hxy := h.tabs.2 j x y hx hy
      have hne := h.apart j i x t (fun e => hij e.symm) hx ht
      have hx1 : OwnTb base w1 x y := by
        obtain ⟨ss, h3, _⟩ := htO.rows
        rcases h3.2 with ⟨e3, _⟩ | ⟨g, cap', cur, e3, hb, hh, _⟩
        · rw [e3] at hg1
          exact hxy.below (below_none hg1)
        · rw [e3] at hg1 hne
          exact hxy.other hg1 hh hne
      exact hx1.past hown1 hg2
  · rw [List.getElem?_set] at hx hy
    have fin : ∀ (j : Nat) (z : Tb), (if i = j then (if i < ts.length then some t' else none) else ts[j]?) = some z → ∃ z', ts[j]? = some z' ∧ z'.rows.v.ownBlock = z.rows.v.ownBlock := fun j z hz => by
      by_cases hij : i = j
      · subst hij
        rw [if_pos rfl] at hz
        split at hz
        · cases hz; exact ⟨t, ht, hrb.symm⟩
        · cases hz
      · rw [if_neg hij] at hz
        exact ⟨z, hz, rfl⟩
    obtain ⟨x', hx1, hx2⟩ := fin a x hx
    obtain ⟨y', hy1, hy2⟩ := fin b y hy
    rw [← hx2, ← hy2]
    exact h.apart a b x' y' hab hx1 hy1
  · rcases List.mem_or_eq_of_mem_set hT' with h1 | h1
    · exact h.formed _ h1
    · subst h1
      have : tabAt Ts i ∈ Ts := by simp [tabAt, hi]
      exact semiB_formed (h.formed _ this)
  · have h1 : Below b w w1 := hB.grown hg1 hbs (fun g e => Nat.le_trans hb (htO.lt g e).1)
    exact h1.grown hg2 (Nat.le_trans hbs hg1.size) (fun g e => by cases e; exact Nat.le_trans hb (h.own.blk gO rfl).1)
theorem red_cells {base gO cap i j N : Nat} {W W' : World} {ts : List Tb} {t u : Tb} {A B : PT} {e : Ending} (hr : RedOut base gO N cap ts i t A B W e W') (hne : i ≠ j) (hu : ts[j]? = some u) : W'.cell? ⟨gO, j * 2, none⟩ = some (.slice u.cols.A u.cols.n u.cols.cap) ∧ W'.cell? ⟨gO, j * 2 + 1, none⟩ = some (.slice u.rows.A u.rows.n u.rows.cap) := by
  obtain ⟨he, t', hc, hrb, hO, hT, w1, hg1, hg2⟩ := hr
  have hj : j < ts.length := (List.getElem?_eq_some_iff.1 hu).1
  obtain ⟨_, x2, e2, -, -, -, hx2, hc2, -⟩ := hO.at_ Tb.vs_length (i := j) (by rw [List.length_set]; exact hj)
  cases e2
  rw [List.getElem?_set_ne hne, hu] at hx2
  cases hx2
  exact ⟨hc2 0 _ rfl, hc2 1 _ rfl⟩
/-- Has anything turned? -/
theorem changed_step {l cur : List PT} (hs : SubL cur l) {i k : Nat} (hi : i < cur.length) : (decide (cur.set i (semiB (tabAt cur i) (tabAt cur k)) ≠ l)) = (decide (cur ≠ l) || decide ((semiB (tabAt cur i) (tabAt cur k)).rows.length < (tabAt cur i).rows.length)) := by
  by_cases hr : (semiB (tabAt cur i) (tabAt cur k)).rows.length < (tabAt cur i).rows.length
  · rw [decide_eq_true hr, Bool.or_true, decide_eq_true_eq]
    intro e
    have h1 : SubL (cur.set i (semiB (tabAt cur i) (tabAt cur k))) cur := set_sub' (semiB_sub _ _)
    rw [e] at h1
    have h2 := hs.anti h1
    subst h2
    have h3 := congrArg (fun l => (tabAt l i).rows.length) e
    simp only [tabAt_set] at h3
    rw [if_pos ⟨trivial, hi⟩] at h3
    omega
  · rw [decide_eq_false hr, Bool.or_false]
    have h4 : semiB (tabAt cur i) (tabAt cur k) = tabAt cur i := by
      have h5 := semiB_sub (tabAt cur i) (tabAt cur k)
      have h6 := h5.rows.eq_of_length_le (by omega)
      exact h5.anti ⟨rfl, by rw [h6]; exact List.Sublist.refl _⟩
    rw [h4]
    have h7 : cur.set i (tabAt cur i) = cur := by
      apply tabAt_ext (by simp)
      intro j
      rw [tabAt_set]
      split
      · rename_i hh; rw [hh.1]
      · rfl
    rw [h7]
def reduceR (l : List PT) : List PT × Int := if givenB l then (redN l, 0) else ([], 2)
/-- What Reduce leaves. -/
def RetTabs (w : World) (p : List PT × Int) (e : Ending) (w' : World) : Prop := ∃ A n cap, e = .returned (.tuple #[.slice A n cap, .int .i64 p.2]) ∧ TabsAt w' 0 A n p.1 ∧ Below w.heap.size w w'
theorem TabsAt.nil (w : World) : TabsAt w 0 none 0 [] := ⟨[], Rd.nil _ _ _, All2.nil _⟩
theorem RSt.tabsAt {base n cap : Nat} {W : World} {A : Option Addr} {ts : List Tb} {Ts : List PT} (h : RSt base W (.slice A n cap) ts Ts) : TabsAt W 0 A n Ts := ⟨ts, (h.own.rdN Tb.vs_length).low (Nat.zero_le _), h.tabs.mono fun _ _ hh => hh.tab.low (Nat.zero_le _)⟩
end Go.Proofs.Bg
end

section
/- Contract: Reduce: the walk. -/
namespace Go.Proofs.Bg
open Go.RowKit

theorem infoTb : (Tryz.prog.info? 40).map (fun i => (i.zero, i.size, i.bytes)) = some (some (.agg #[.slice none 0 0, .slice none 0 0]), 2, 48) := by kernel_rfl
set_option maxRecDepth 100000 in
set_option maxHeartbeats 8000000 in
theorem Reduce_any (A : Option Addr) (n cap : Nat) (l : List PT) (w : World) (h : TabsAt w 0 A n l) :
    Calls Tryz.prog 25 #[.slice A n cap] w (RetTabs w (reduceR l)) := by
  have HL : Hid (l.length = n) := h.len
  have Q1 := Lib.hid (Check_any A n cap l w h)
  have HA := Lib.hid h
  have hle := h.le
  clear h
  cases hgv : givenB l with
  | false =>
    have HR : Hid (reduceR l = ([], 2)) := by show _ = _; simp [reduceR, hgv]
    rw [hgv] at Q1
    clear hgv
    go_enter Tryz.func25, Tryz.ntmps25
    go_wp2_with fail
    (with_reducible refine Q1.out.mono ?_)
    rintro e w1 ⟨rfl, hb1⟩
    have HB1 := Lib.hid hb1
    clear hb1 Q1
    go_wp2_with fail
    go_ret2
    rw [HR.out]
    exact ⟨_, _, _, rfl, TabsAt.nil _, HB1.out⟩
  | true =>
    have HR : Hid (reduceR l = (redN l, 0)) := by show _ = _; simp [reduceR, hgv]
    have hlen := given_len hgv
    rw [HL.out] at hlen
    have HGF := Lib.hid (given_formed hgv)
    obtain ⟨hlen1, hlen5⟩ := hlen
    obtain ⟨i0, hi0, hz0, hz1, hz2⟩ := info_parts infoTb
    rw [hgv] at Q1
    clear hgv
    go_enter Tryz.func25, Tryz.ntmps25
    go_wp2_with fail
    (with_reducible refine Q1.out.mono ?_)
    rintro e w1 ⟨rfl, hb1⟩
    have HB1 := Lib.hid hb1
    clear hb1 Q1
    go_wp2_with fail
    go_loopw [5, 18] (fun v i wr => ∃ (k : Nat) (ts : List Tb), k ≤ n ∧ i = .int .i64 k ∧ ts.length = k ∧ RSt w.heap.size wr v ts (l.take k) ∧ Below w.heap.size w wr) (fun _ i _ => n - (intOf i).toNat)
    case atStart => exact ⟨0, [], by omega, rfl, rfl, ⟨Own.nil _ _ _ _ _, by simpa using All2.nil _, fun i k t u _ h => by simp at h, fun T hT => by simp at hT⟩, HB1.out⟩
    case round =>
      clear HB1
      obtain ⟨k, ts, hk, rfl, htl, hS, hB⟩ := hrel
      obtain ⟨A5, c5, rfl⟩ := hS.own.shape
      rw [htl] at hS ⊢
      have HS := Lib.hid hS
      have HB := Lib.hid hB
      have HTL := Lib.hid htl
      by_cases hlt : k < n
      · obtain ⟨b1, o1, t, T, hbb, -, hT, d0, d1, hTT⟩ := (HA.out.below hB).at_ hlt
        subst hbb
        obtain ⟨⟨cA, cn, ck⟩, ⟨rA, rn, rk⟩⟩ := t
        have hmem := List.mem_of_getElem? hT
        have fT := HGF.out T hmem
        have hcn : T.cols.length = cn := hTT.1.len
        have hrn : T.rows.length = rn := hTT.2.len
        have hcn8 : cn ≤ 8 := by rw [← hcn]; exact fT.ncols
        have hrn5 : rn ≤ 500 := by rw [← hrn]; exact fT.most
        have hi1 : (k : Int) < n := by omega
        have hbn := below_new wr (.cells #[.slice cA cn ck, .slice rA rn rk] 40)
        have hnb := new_block wr #[.slice cA cn ck, .slice rA rn rk] 40
        obtain ⟨W1, hW1⟩ : ∃ W1, wr.alloc (.cells #[.slice cA cn ck, .slice rA rn rk] 40) = W1 := ⟨_, rfl⟩
        rw [hW1] at hbn hnb
        obtain ⟨g7, hg7⟩ : ∃ g7, wr.heap.size = g7 := ⟨_, rfl⟩
        rw [hg7] at hnb
        have n0 := cell_at_block (off := 0) hnb rfl
        have n1 := cell_at_block (off := 1) hnb rfl
        have Q2 := Lib.hid (fun W (hW : Below W1.heap.size W1 W) => CloneI_any cA cn ck T.cols W ((hTT.1.below hbn).below hW) (by omega))
        have Q3 := Lib.hid (fun W (hW : Below W1.heap.size W1 W) => copied_any ⟨rA, rn, rk⟩ T.rows W ((hTT.2.below hbn).below hW) (by show rn ≤ 1000000; omega) (fun r hr => by rw [(fT.row r hr).1]; omega))
        have K0 := Lib.hid (fun W (hW : Below W1.heap.size W1 W) => (⟨(hW.cell (World.block_lt_of_cell? _ _ n0)).trans n0, (hW.cell (World.block_lt_of_cell? _ _ n1)).trans n1⟩ : W.cell? ⟨g7, 0, none⟩ = some (.slice cA cn ck) ∧ W.cell? ⟨g7, 1, none⟩ = some (.slice rA rn rk)))
        have HW1 := Lib.hid hW1
        have HBN := Lib.hid hbn
        have HFT := Lib.hid fT
        have HTK : Hid (l.take (k + 1) = l.take k ++ [T]) := by show _ = _; rw [List.take_add_one, hT]; rfl
        have HSZ := Lib.hid (Nat.le_trans hB.size hbn.size)
        have HSZ1 := Lib.hid (Nat.lt_of_lt_of_le (Array.getElem?_eq_some_iff.1 hnb).1 (Nat.le_refl _))
        have HG7E := Lib.hid hg7
        have HOWN : Hid (∀ W, Below wr.heap.size wr W → W.ownsRow w.heap.size 40 2 (.slice A5 k c5) k (ts.flatMap Tb.vs)) := by
          show ∀ W, Below wr.heap.size wr W → W.ownsRow w.heap.size 40 2 (.slice A5 k c5) k (ts.flatMap Tb.vs)
          intro W hW
          have := hS.own.below hW
          unfold Own at this
          rw [htl] at this
          exact this
        clear hS hB htl hT hmem fT hcn hrn hTT hbn hnb hW1
        go_wp2_with fail
        rw [HW1.out]
        go_region_held3 (fun W => W.cell? ⟨g7, 0, none⟩ = some (.slice cA cn ck) ∧ W.cell? ⟨g7, 1, none⟩ = some (.slice rA rn rk))
          (first
            | assumption
            | exact K0.out _ HB2.out
            | exact K0.out _ HB3.out
            | exact K9.out
            | exact K0.out _ (HB3.out.alloc HB3.out.size _)
            | exact K0.out _ (by repeat' first | exact Below.refl _ _ | refine Below.drew ?_))
          (first
            | (go_at_call 80; (with_reducible refine (Q2.out _ (by repeat' first | exact Below.refl _ _ | refine Below.drew ?_)).mono ?_); rintro e w2 ⟨v2, rfl, hown2, hb2⟩; obtain ⟨A2, n2, c2, rfl⟩ := hown2.shapeN; have HO2 := Lib.hid hown2; have HB2 := Lib.hid (bchain ((Below.refl W1.heap.size W1).drew) hb2); clear hown2 hb2)
            | (go_at_call 88; (with_reducible refine (Q3.out _ HB2.out).mono ?_); rintro e w3 ⟨v3, rfl, hown3, hb3⟩; obtain ⟨A3, c3, rfl⟩ := hown3.shape; have HO3 := Lib.hid hown3; have HBQ := Lib.hid hb3; have HB3 := Lib.hid (bchain HB2.out hb3); have hownR := HOWN.out w3 (bchain HBN.out HB3.out); clear hown3 hb3)
            | (refine step_append_lies _ (by rfl) _ _ _ (by rfl) w.heap.size 40 i0 _ 2 48 Tryz.underlying22 hi0 hz0 hz1 hz2 rfl (by omega) (.slice A5 k c5) k (ts.flatMap Tb.vs) (by rfl) (World.ownsRow.alloc hownR _)
                        ⟨w3.heap.size, 0, none⟩ 1 1 [.slice A2 n2 c2, .slice A3 T.rows.length c3] (by rfl) (by rfl) (World.news_of_block (cs := #[.slice A2 n2 c2, .slice A3 T.rows.length c3]) (t := 40) (fr := (0, 0)) (heap_alloc_new w3 _)) (by simp [Value.oneCell'])
                        (by omega) (by unfold maxLen; omega) (by omega) (by have := HB3.out.size; have := HSZ.out; simp; omega) (w3.heap.size + 1) (by simp) ?_; intro gg cap9 w9 hown9 hgrow hat hltg; have hg71 : g7 < (w3.alloc (.cells #[.slice A2 n2 c2, .slice A3 T.rows.length c3] 40)).heap.size := (by have h1 := HB3.out.size; have h2 := HSZ1.out; simp; omega); have hg72 : some g7 ≠ (Value.slice A5 k c5).ownBlock := (fun e => by have h1 := (HS.out.own.blk g7 e.symm).2; have h2 := HG7E.out; omega); have K9 := Lib.hid (And.intro ((hgrow.cell_far ⟨g7, 0, none⟩ hg71 hg72).trans (K0.out _ (HB3.out.alloc HB3.out.size _)).1) ((hgrow.cell_far ⟨g7, 1, none⟩ hg71 hg72).trans (K0.out _ (HB3.out.alloc HB3.out.size _)).2))))
        all_goals
          go_wp2_with fail
          have hown : Own Tb.vs 2 40 w.heap.size w9 (.slice (some ⟨gg, 0, none⟩) (k + 1) cap9) (ts ++ [⟨⟨A2, n2, c2⟩, ⟨A3, T.rows.length, c3⟩⟩]) := by
            unfold Own
            rw [List.length_append, HTL.out, List.flatMap_append]
            exact hown9
          have hp := HS.out.push (t := ⟨⟨A2, n2, c2⟩, ⟨A3, T.rows.length, c3⟩⟩) (T := T) (bchain HBN.out HB2.out) HBQ.out (HO2.out.low (by have := HSZ.out; exact this)) HO3.out (by have := HB2.out.size; have := HSZ.out; omega) HFT.out hown hgrow
          have hbf := below_row ((bchain HB.out (bchain HBN.out HB3.out)).alloc (bchain HB.out (bchain HBN.out HB3.out)).size _) hgrow (fun j e => (HS.out.own.blk j e).1)
          go_roundw
          case rel =>
            refine ⟨_, _, _, _, _, _, _, _, _, _, _, _, _, _, _, _, _, ⟨k + 1, ts ++ [⟨⟨A2, n2, c2⟩, ⟨A3, T.rows.length, c3⟩⟩], by omega, ?_, ?_, ?_, hbf⟩, rfl⟩
            · go_num
            · simp [HTL.out]
            · rw [HTK.out]; exact hp
          case measure => simp [intOf]; omega
      · have hk' : k = n := by omega
        subst hk'
        have htk : l.take k = l := List.take_of_length_le (by rw [HL.out]; exact Nat.le_refl _)
        rw [htk] at hS
        obtain ⟨g, e, hgb⟩ : ∃ g, A5 = some ⟨g, 0, none⟩ ∧ w.heap.size ≤ g := by
          rcases hS.own.2 with ⟨e, e0⟩ | ⟨g, cap', cur, e, hb, _⟩
          · omega
          · cases e; exact ⟨g, rfl, hb⟩
        subst e
        have d1 : decide ((k : Int) < (k : Int)) = false := by simp
        have HS2 := Lib.hid hS
        clear hS htk hlt HS
        go_wp2_with fail
        clear d1
        go_loopg [8] (2 * rowsOf l + 1) (fun gg b wr => ∃ (ts : List Tb) (m : List PT) (t : Bool), b = .bool t ∧ ts.length = k ∧ RSt w.heap.size wr (.slice (some ⟨g, 0, none⟩) k c5) ts m ∧ (t = true → redN l = redN m) ∧ (t = false → redN l = m) ∧ Below w.heap.size w wr ∧ 2 * rowsOf m + t.toNat ≤ gg)
        case atStart => exact ⟨ts, l, true, rfl, HTL.out, HS2.out, (fun _ => rfl), (fun h => by cases h), HB.out, by simp⟩
        case round =>
          clear HS2 HB HTL htl hB
          obtain ⟨ts1, m, t, rfl, htl, hS, ht, hf, hB, hgg⟩ := hrel
          cases t with
          | false =>
            have HF := Lib.hid (hf rfl)
            have HB := Lib.hid hB
            have HT := Lib.hid hS.tabsAt
            clear ht hf hS hB
            go_wp2_with fail
            go_ret2
            rw [HR.out, HF.out]
            exact ⟨_, _, _, rfl, HT.out, HB.out⟩
          | true =>
            have HT := Lib.hid (ht rfl)
            have HGG := Lib.hid hgg
            have HST := Lib.hid (redN_step m)
            have HRL := Lib.hid (redRound_lt (l := m))
            have hml : m.length = k := by rw [← hS.tabs.1, htl]
            have HML := Lib.hid hml
            have HB := Lib.hid hB
            have HS := Lib.hid hS
            have HTL := Lib.hid htl
            clear ht hf hS hB hgg hml htl
            go_wp2_with fail
            go_loopw [8, 36] (fun b i wr => ∃ (i' : Nat) (ts : List Tb), i' ≤ k ∧ i = .int .i64 i' ∧ ts.length = k ∧ RSt w.heap.size wr (.slice (some ⟨g, 0, none⟩) k c5) ts (redI i' m) ∧ b = .bool (decide (redI i' m ≠ m)) ∧ Below w.heap.size w wr) (fun _ i _ => k - (intOf i).toNat)
            case atStart => exact ⟨0, ts1, by omega, rfl, HTL.out, HS.out, by simp [redI], HB.out⟩
            case round =>
              clear HS HB HTL
              obtain ⟨i', ts2, hi', rfl, htl, hS, rfl, hB⟩ := hrel
              have HS := Lib.hid hS
              have HB := Lib.hid hB
              have HTL := Lib.hid htl
              by_cases hlt : i' < k
              · have hi1 : (i' : Int) < (k : Int) := by omega
                have HRS : Hid (redI (i' + 1) m = redK i' k (redI i' m)) := by show _ = _; rw [redI, HML.out]
                have HLE := Lib.hid (redI_less i' m)
                have HLN : Hid ((redI i' m).length = k) := by show _ = _; rw [redI_len, HML.out]
                clear hS hB htl
                go_wp2_with fail
                go_loopw [8, 41] (fun b j wr => ∃ (j' : Nat) (ts : List Tb), j' ≤ k ∧ j = .int .i64 j' ∧ ts.length = k ∧ RSt w.heap.size wr (.slice (some ⟨g, 0, none⟩) k c5) ts (redK i' j' (redI i' m)) ∧ b = .bool (decide (redK i' j' (redI i' m) ≠ m)) ∧ Below w.heap.size w wr) (fun _ j _ => k - (intOf j).toNat)
                case atStart => exact ⟨0, ts2, by omega, rfl, HTL.out, HS.out, rfl, HB.out⟩
                case round =>
                  clear HS HB HTL
                  obtain ⟨j', ts3, hj', rfl, htl, hS, rfl, hB⟩ := hrel
                  have HS := Lib.hid hS
                  have HB := Lib.hid hB
                  have HTL := Lib.hid htl
                  by_cases hlt2 : j' < k
                  · have hj1 : (j' : Int) < (k : Int) := by omega
                    have HKS : Hid (redK i' (j' + 1) (redI i' m) = if i' = j' then redK i' j' (redI i' m) else (redK i' j' (redI i' m)).set i' (semiB (tabAt (redK i' j' (redI i' m)) i') (tabAt (redK i' j' (redI i' m)) j'))) := rfl
                    have HKL : Hid (SubL (redK i' j' (redI i' m)) m) := (redK_less i' j' _).trans HLE.out
                    have HKN : Hid ((redK i' j' (redI i' m)).length = k) := by show _ = _; rw [redK_len, HLN.out]
                    generalize redK i' j' (redI i' m) = cur at *
                    by_cases hij : i' = j'
                    · have e1 : ((i' : Int) != (j' : Int)) = false := by simp [hij]
                      have e1' : (i' != j') = false := by simp [hij]
                      rw [if_pos hij] at HKS
                      have HBB : Hid (decide (redK i' (j' + 1) (redI i' m) ≠ m) = decide (cur ≠ m)) := by show _ = _; rw [HKS.out]
                      generalize decide (cur ≠ m) = bb at *
                      clear hij hS hB htl
                      go_wp2_with fail
                      go_quiet (fail)
                      go_wp2_with fail
                      exact ⟨⟨j' + 1, ts3, by omega, by go_num, HTL.out, by rw [HKS.out]; exact HS.out.below (below_drewN (Below.refl _ _) _), by rw [HBB.out], bchain HB.out (below_drewN (Below.refl _ _) _)⟩, by simp [intOf]; omega⟩
                    · have e1 : ((i' : Int) != (j' : Int)) = true := by simp; omega
                      have e1' : (i' != j') = true := by simpa using hij
                      rw [if_neg hij] at HKS
                      have hil : i' < cur.length := by rw [HKN.out]; exact hlt
                      have hjl : j' < cur.length := by rw [HKN.out]; exact hlt2
                      have HBB : Hid (decide (redK i' (j' + 1) (redI i' m) ≠ m) = (decide (cur ≠ m) || decide ((semiB (tabAt cur i') (tabAt cur j')).rows.length < (tabAt cur i').rows.length))) := by
                        show _ = _
                        rw [HKS.out]
                        exact changed_step HKL.out hil
                      obtain ⟨ti, hti⟩ : ∃ ti, ts3[i']? = some ti := ⟨_, List.getElem?_eq_getElem (by rw [htl]; exact hlt)⟩
                      obtain ⟨tj, htj⟩ : ∃ tj, ts3[j']? = some tj := ⟨_, List.getElem?_eq_getElem (by rw [htl]; exact hlt2)⟩
                      have hTi := hS.tabs.2 i' ti (tabAt cur i') hti (by simp [tabAt, hil])
                      have hTj := hS.tabs.2 j' tj (tabAt cur j') htj (by simp [tabAt, hjl])
                      have hFi : Formed (tabAt cur i') := hS.formed _ (by simp [tabAt, hil])
                      have hFj : Formed (tabAt cur j') := hS.formed _ (by simp [tabAt, hjl])
                      obtain ⟨⟨cA, cn, ck⟩, ⟨rA, rn, rk⟩⟩ := ti
                      obtain ⟨⟨cB, dn, dk⟩, ⟨rB, sn, sk⟩⟩ := tj
                      obtain ⟨_, x2, e2, -, -, -, hx2, hc2, -⟩ := hS.own.at_ Tb.vs_length (i := j') (by rw [htl]; exact hlt2)
                      cases e2
                      rw [htj] at hx2
                      cases hx2
                      have c0 := hc2 0 _ rfl
                      have c1 := hc2 1 _ rfl
                      rw [Nat.add_zero] at c0
                      obtain ⟨rb, hrb⟩ : ∃ rb, decide ((semiB (tabAt cur i') (tabAt cur j')).rows.length < (tabAt cur i').rows.length) = rb := ⟨_, rfl⟩
                      have Q := Lib.hid (fun W (hW : Below wr.heap.size wr W) => (reduce_any w.heap.size g k c5 i' ts3 cA rA cB rB cn ck rn rk dn dk sn sk _ _ W (hS.own.below hW) hti (hTi.below hW) hFi ((hTj.tab.below hW).low (Nat.zero_le _)) hFj).mono (R' := fun e w' => e = .returned (.bool rb) ∧ RedOut w.heap.size g k c5 ts3 i' ⟨⟨cA, cn, ck⟩, ⟨rA, rn, rk⟩⟩ (tabAt cur i') (tabAt cur j') W e w' ∧ (w'.cell? ⟨g, j' * 2, none⟩ = some (.slice cB dn dk) ∧ w'.cell? ⟨g, j' * 2 + 1, none⟩ = some (.slice rB sn sk))) (fun e w' hh => ⟨by rw [hh.1, hrb], hh, red_cells hh hij htj⟩))
                      rw [hrb] at HBB
                      have HTI := Lib.hid hti
                      have HIL := Lib.hid hil
                      generalize decide (cur ≠ m) = bb at *
                      clear hij hS hB htl hTi hTj hFi hFj hti htj hc2 hjl hrb
                      go_wp2_with fail
                      go_region_held3 (fun W => W.cell? ⟨g, j' * 2, none⟩ = some (.slice cB dn dk) ∧ W.cell? ⟨g, j' * 2 + 1, none⟩ = some (.slice rB sn sk))
                        (first
                          | assumption
                          | exact ⟨c0, c1⟩
                          | exact K9.out)
                        (first
                          | (go_at_call 89; (with_reducible refine (Q.out _ (by repeat' first | exact Below.refl _ _ | refine Below.drew ?_)).mono ?_); rintro e w2 ⟨rfl, hrest, k9⟩; have HOUT := Lib.hid hrest; have K9 := Lib.hid k9; clear hrest k9))
                      all_goals
                        obtain ⟨ts4, h41, h42, h43⟩ := (HS.out.below ((Below.refl wr.heap.size wr).drew)).step HTL.out HTI.out HIL.out HOUT.out
                        have h44 := h43 w.heap.size (Nat.le_refl _) (HB.out.size) w (HB.out.drew)
                        have H41 := Lib.hid h41
                        have H42 := Lib.hid h42
                        have H44 := Lib.hid h44
                        clear h41 h42 h43 h44 c0 c1
                        cases rb with
                        | true =>
                          go_wp2_with fail
                          go_roundw
                          case rel =>
                            refine ⟨_, _, _, _, _, _, _, _, _, _, _, _, _, _, _, _, _, _, _, ⟨j' + 1, ts4, by omega, ?_, H41.out, ?_, ?_, H44.out⟩, rfl⟩
                            · go_num
                            · rw [HKS.out]; exact H42.out
                            · rw [HBB.out, Bool.or_true]
                          case measure => simp [intOf]; omega
                        | false =>
                          go_wp2_with fail
                          go_roundw
                          case rel =>
                            refine ⟨_, _, _, _, _, _, _, _, _, _, _, _, _, _, _, _, _, _, _, ⟨j' + 1, ts4, by omega, ?_, H41.out, ?_, ?_, H44.out⟩, rfl⟩
                            · go_num
                            · rw [HKS.out]; exact H42.out
                            · rw [HBB.out, Bool.or_false]
                          case measure => simp [intOf]; omega
                  · have hjk : j' = k := by omega
                    subst hjk
                    have d1 : decide ((j' : Int) < (j' : Int)) = false := by simp
                    rw [← HRS.out] at HS ⊢
                    obtain ⟨bb, hbb⟩ : ∃ bb, decide (redI (i' + 1) m ≠ m) = bb := ⟨_, rfl⟩
                    rw [hbb]
                    have HBE := Lib.hid hbb
                    clear hbb
                    clear hS hB htl hlt2
                    go_wp2_with fail
                    exact ⟨⟨i' + 1, ts3, by omega, by go_num, HTL.out, HS.out, by rw [HBE.out], HB.out⟩, by simp [intOf]; omega⟩
              · have hik : i' = k := by omega
                subst hik
                have hrr : redI i' m = redRound m := by unfold redRound; rw [HML.out]
                rw [hrr] at HS ⊢
                have d1 : decide ((i' : Int) < (i' : Int)) = false := by simp
                cases hd : decide (redRound m ≠ m) with
                | false =>
                  have he : redRound m = m := by simpa using hd
                  have HE2 : Hid (redN l = redRound m) := by show _ = _; rw [HT.out, HST.out, if_pos he, he]
                  have HM : Hid (rowsOf (redRound m) = rowsOf m) := by show _ = _; rw [he]
                  clear hS hB htl hlt hd he
                  go_wp2_with fail
                  go_roundg (2 * rowsOf m)
                  case measure => have := HGG.out; simp at this; omega
                  case rel => exact ⟨ts2, redRound m, false, rfl, HTL.out, HS.out, (fun h => by cases h), (fun _ => HE2.out), HB.out, by rw [HM.out]; simp⟩
                | true =>
                  have hne : redRound m ≠ m := by simpa using hd
                  have HE2 : Hid (redN l = redN (redRound m)) := by show _ = _; rw [HT.out, HST.out, if_neg hne]
                  have HM := Lib.hid (HRL.out hne)
                  clear hS hB htl hlt hd hne
                  go_wp2_with fail
                  go_roundg (2 * rowsOf (redRound m) + 1)
                  case measure => have h1 := HGG.out; have h2 := HM.out; simp at h1; omega
                  case rel => exact ⟨ts2, redRound m, true, rfl, HTL.out, HS.out, (fun _ => HE2.out), (fun h => by cases h), HB.out, by simp⟩
end Go.Proofs.Bg
end

section
/- Plain words: rings of sets. No program in sight. -/
namespace Go.Proofs.Bg
open Go.RowKit

/-- The columns that are in two of some sets. -/
def twiceF : Nat → Nat → List Nat → Nat × Nat
  | o, t, [] => (o, t)
  | o, t, s :: r => twiceF (o ||| s) (t ||| (o &&& s)) r
def twiceN (l : List Nat) : Nat := (twiceF 0 0 l).2
def trimmed (l : List Nat) : List Nat := l.map fun s => s &&& twiceN l
def at0 (l : List Nat) (i : Nat) : Nat := l.getD i 0
/-- Set i is within another one (k). -/
def underB (l : List Nat) (i k : Nat) : Bool := decide (k ≠ i) && decide (bdiff (at0 l i) (at0 l k) = 0) && (decide (at0 l i ≠ at0 l k) || decide (k < i))
def withinTo (l : List Nat) (i k : Nat) : Bool := decide (at0 l i = 0) || (List.range k).any (underB l i)
def insideB (l : List Nat) (i : Nat) : Bool := withinTo l i l.length
/-- What is left of sets, from set i on. -/
def scanR : Nat → List Nat → Nat → List Nat
  | 0, l, _ => l
  | f + 1, l, i => if i < l.length then if insideB l i then scanR f (l.eraseIdx i) i else scanR f l (i + 1) else l
def ringRound (l : List Nat) : List Nat := scanR (trimmed l).length (trimmed l) 0
def muR (l : List Nat) : Nat := l.sum + l.length
def ringIt : Nat → List Nat → List Nat
  | 0, l => l
  | f + 1, l => if ringRound l = l then l else ringIt f (ringRound l)
def ringN (l : List Nat) : List Nat := ringIt (muR l) l
def ringB (l : List (List Int)) : Bool := decide (0 < (ringN (l.map bitsN)).length)

theorem twiceF_lt {n : Nat} : ∀ {l : List Nat} {o t : Nat}, o < 2 ^ n → t < 2 ^ n → (∀ s ∈ l, s < 2 ^ n) → (twiceF o t l).1 < 2 ^ n ∧ (twiceF o t l).2 < 2 ^ n
  | [], o, t, h1, h2, _ => ⟨h1, h2⟩
  | s :: r, o, t, h1, h2, h => by
    rw [twiceF]
    have hs := h s (by simp)
    exact twiceF_lt (Nat.or_lt_two_pow h1 hs) (Nat.or_lt_two_pow h2 (Nat.and_lt_two_pow _ hs)) (fun x hx => h x (by simp [hx]))
theorem withinTo_succ (l : List Nat) (i k : Nat) : withinTo l i (k + 1) = (withinTo l i k || underB l i k) := by
  unfold withinTo
  rw [List.range_succ, List.any_append]
  simp [Bool.or_assoc]
theorem scanR_stop {f : Nat} {l : List Nat} {i : Nat} (h : ¬ i < l.length) : scanR f l i = l := by
  cases f with
  | zero => rfl
  | succ f => rw [scanR, if_neg h]
theorem scanR_step {f : Nat} {l : List Nat} {i : Nat} (h : i < l.length) (hf : l.length - i ≤ f) : scanR f l i = if insideB l i then scanR (f - 1) (l.eraseIdx i) i else scanR (f - 1) l (i + 1) := by
  cases f with
  | zero => omega
  | succ f => rw [scanR, if_pos h]; rfl
theorem erase_length {l : List Nat} {i : Nat} (h : i < l.length) : (l.eraseIdx i).length = l.length - 1 := by
  rw [List.length_eraseIdx, if_pos h]
theorem scanR_enough : ∀ (f g : Nat) (l : List Nat) (i : Nat), l.length - i ≤ f → l.length - i ≤ g → scanR f l i = scanR g l i
  | 0, g, l, i, h, _ => by rw [scanR_stop (by omega), scanR_stop (by omega)]
  | f + 1, 0, l, i, _, h => by rw [scanR_stop (by omega), scanR_stop (by omega)]
  | f + 1, g + 1, l, i, h1, h2 => by
    by_cases hi : i < l.length
    · rw [scanR, scanR, if_pos hi, if_pos hi]
      split
      · have := erase_length hi
        exact scanR_enough f g _ _ (by omega) (by omega)
      · exact scanR_enough f g _ _ (by omega) (by omega)
    · rw [scanR_stop hi, scanR_stop hi]
theorem erase_sum : ∀ (l : List Nat) (i : Nat), (l.eraseIdx i).sum ≤ l.sum
  | [], _ => by simp
  | a :: r, 0 => by simp
  | a :: r, i + 1 => by
    have := erase_sum r i
    simp
    omega
theorem scanR_le : ∀ (f : Nat) (l : List Nat) (i : Nat), (scanR f l i).length ≤ l.length ∧ (scanR f l i).sum ≤ l.sum ∧ ((scanR f l i).length = l.length → scanR f l i = l) ∧ (∀ x ∈ scanR f l i, x ∈ l)
  | 0, l, i => ⟨Nat.le_refl _, Nat.le_refl _, fun _ => rfl, fun x h => h⟩
  | f + 1, l, i => by
    rw [scanR]
    split
    · rename_i hi
      split
      · obtain ⟨h1, h2, h3, h4⟩ := scanR_le f (l.eraseIdx i) i
        have h5 := erase_length hi
        have h6 := erase_sum l i
        exact ⟨by omega, by omega, fun h => by omega, fun x hx => List.mem_of_mem_eraseIdx (h4 x hx)⟩
      · exact scanR_le f l (i + 1)
    · exact ⟨Nat.le_refl _, Nat.le_refl _, fun _ => rfl, fun x h => h⟩
theorem trim_sum (t : Nat) : ∀ l : List Nat, (l.map fun s => s &&& t).sum ≤ l.sum ∧ ((l.map fun s => s &&& t).sum = l.sum → (l.map fun s => s &&& t) = l)
  | [] => ⟨Nat.le_refl _, fun _ => rfl⟩
  | a :: r => by
    obtain ⟨h1, h2⟩ := trim_sum t r
    have h3 : a &&& t ≤ a := Nat.and_le_left
    refine ⟨by simp; omega, fun h => ?_⟩
    simp at h
    have e1 : a &&& t = a := by omega
    rw [List.map_cons, h2 (by omega), e1]
theorem ringRound_mu {l : List Nat} (h : ringRound l ≠ l) : muR (ringRound l) < muR l := by
  obtain ⟨h1, h2, h3, _⟩ := scanR_le (trimmed l).length (trimmed l) 0
  obtain ⟨h5, h6⟩ := trim_sum (twiceN l) l
  have h7 : (trimmed l).length = l.length := by simp [trimmed]
  unfold muR
  change (ringRound l).length ≤ _ at h1
  change (ringRound l).sum ≤ _ at h2
  change (trimmed l).sum ≤ _ at h5
  by_cases hl : (ringRound l).length = (trimmed l).length
  · have e := h3 hl
    change ringRound l = trimmed l at e
    have : ¬ (trimmed l).sum = l.sum := fun hs => h (e.trans (h6 hs))
    rw [e]
    omega
  · omega
theorem ringIt_enough : ∀ (f g : Nat) (l : List Nat), muR l ≤ f → muR l ≤ g → ringIt f l = ringIt g l
  | 0, 0, _, _, _ => rfl
  | 0, g + 1, l, h, _ => by
    have : l = [] := by
      cases l with
      | nil => rfl
      | cons a r => simp [muR] at h
    subst this
    rfl
  | f + 1, 0, l, _, h => by
    have : l = [] := by
      cases l with
      | nil => rfl
      | cons a r => simp [muR] at h
    subst this
    rfl
  | f + 1, g + 1, l, h1, h2 => by
    rw [ringIt, ringIt]
    split
    · rfl
    · rename_i hne
      have := ringRound_mu hne
      exact ringIt_enough f g _ (by omega) (by omega)
theorem ringN_step (l : List Nat) : ringN l = if ringRound l = l then l else ringN (ringRound l) := by
  unfold ringN
  cases hm : muR l with
  | zero =>
    have : l = [] := by
      cases l with
      | nil => rfl
      | cons a r => simp [muR] at hm
    subst this
    rfl
  | succ m =>
    rw [ringIt]
    split
    · rfl
    · rename_i hne
      have := ringRound_mu hne
      exact ringIt_enough _ _ _ (by omega) (by omega)
example : ringB [[0, 1], [1, 2], [2, 3]] = false ∧ ringB [[0, 1], [1, 2], [0, 2]] = true := by decide +kernel
end Go.Proofs.Bg
end

section
/- Contract: trim. -/
namespace Go.Proofs.Bg
open Go.RowKit

def castL (l : List Nat) : List Int := l.map fun (x : Nat) => (x : Int)
theorem castL_at {l : List Nat} {k : Nat} {x : Nat} (h : l[k]? = some x) : (castL l)[k]? = some (x : Int) := by simp [castL, h]
theorem castL_len (l : List Nat) : (castL l).length = l.length := by simp [castL]
theorem castL_set (l : List Nat) (k x : Nat) : (castL l).set k (x : Int) = castL (l.set k x) := by simp [castL, List.map_set]
/-- Sets, the first k of them trimmed. -/
def trimTo (l : List Nat) (k : Nat) : List Nat := (trimmed l).take k ++ l.drop k
theorem trimTo_len (l : List Nat) (k : Nat) (h : k ≤ l.length) : (trimTo l k).length = l.length := by
  simp [trimTo, trimmed]
  omega
theorem trimTo_at {l : List Nat} {k x : Nat} (h : l[k]? = some x) : (trimTo l k)[k]? = some x := by
  have hk := (List.getElem?_eq_some_iff.1 h).1
  have hl : ((trimmed l).take k).length = k := by simp [trimmed]; omega
  unfold trimTo
  rw [List.getElem?_append_right (by omega), hl, Nat.sub_self, List.getElem?_drop, Nat.add_zero]
  exact h
theorem trimTo_succ {l : List Nat} {k x : Nat} (h : l[k]? = some x) : (trimTo l k).set k (x &&& twiceN l) = trimTo l (k + 1) := by
  have hk := (List.getElem?_eq_some_iff.1 h).1
  have hl : ((trimmed l).take k).length = k := by simp [trimmed]; omega
  unfold trimTo
  rw [List.set_append_right _ _ (by omega), hl, Nat.sub_self, drop_at h, List.set_cons_zero, List.take_add_one]
  have : (trimmed l)[k]? = some (x &&& twiceN l) := by simp [trimmed, h]
  rw [this, List.append_assoc]
  rfl
theorem trim_take {l : List Nat} {k x : Nat} (h : l[k]? = some x) : ((trimmed l).take (k + 1) = l.take (k + 1)) ↔ ((trimmed l).take k = l.take k ∧ x &&& twiceN l = x) := by
  have hk := (List.getElem?_eq_some_iff.1 h).1
  have h2 : (trimmed l)[k]? = some (x &&& twiceN l) := by simp [trimmed, h]
  rw [List.take_add_one, List.take_add_one, h, h2]
  simp only [Option.toList_some]
  constructor
  · intro e
    have := List.append_inj' e rfl
    exact ⟨this.1, by simpa using this.2⟩
  · rintro ⟨e1, e2⟩
    rw [e1, e2]

set_option maxRecDepth 100000 in
set_option maxHeartbeats 4000000 in
theorem trim_any (base : Nat) (A : Option Addr) (n cap : Nat) (l : List Nat) (w : World) (h : Own iv 1 3 base w (.slice A n cap) (castL l)) (hl : ∀ s ∈ l, s < 256) (hn : n ≤ 1000) :
    Calls Tryz.prog 93 #[.slice A n cap] w fun e w' => e = .returned (.bool (decide (trimmed l ≠ l))) ∧ Own iv 1 3 base w' (.slice A n cap) (castL (trimmed l)) ∧ w.grownBy w' (Value.slice A n cap).ownBlock := by
  have hln : n = l.length := by have := h.len; rw [castL_len] at this; exact this
  subst hln
  have HO := Lib.hid h
  have HL := Lib.hid hl
  have HRD := Lib.hid (h.rdN iv_length)
  clear h hl
  go_enter Tryz.func93, Tryz.ntmps93
  go_wp2_with fail
  go_loopw [3, 4, 12] (fun o t i wr => ∃ k x y : Nat, k ≤ l.length ∧ i = .int .i64 k ∧ o = .int .i64 x ∧ t = .int .i64 y ∧ x < 256 ∧ y < 256 ∧ twiceF 0 0 l = twiceF x y (l.drop k) ∧ wr = w) (fun _ _ i _ => l.length - (intOf i).toNat)
  case atStart => exact ⟨0, 0, 0, by omega, rfl, rfl, rfl, by omega, by omega, rfl, rfl⟩
  case round =>
    obtain ⟨k, x, y, hk, rfl, rfl, rfl, hx, hy, he, hww⟩ := hrel
    obtain rfl := hww.symm
    have HE := Lib.hid he
    clear he hww
    by_cases hlt : k < l.length
    · obtain ⟨b1, o1, z, rfl, -, hz, c0⟩ := HRD.out.int_at hlt
      obtain ⟨s, hs⟩ : ∃ s, l[k]? = some s := ⟨_, List.getElem?_eq_getElem hlt⟩
      rw [castL_at hs] at hz
      cases hz
      have hs8 := HL.out s (List.mem_of_getElem? hs)
      have HX := Lib.hid (drop_at hs)
      have h1 := band_nat (a := x) (b := s) (by omega) (by omega)
      have hxs : x &&& s < 256 := Nat.and_lt_two_pow (n := 8) _ hs8
      have h2 := bor_nat (a := y) (b := x &&& s) (by omega) (by omega)
      have h3 := bor_nat (a := x) (b := s) (by omega) (by omega)
      have hy2 : y ||| (x &&& s) < 256 := Nat.or_lt_two_pow (n := 8) hy hxs
      have hx2 : x ||| s < 256 := Nat.or_lt_two_pow (n := 8) hx hs8
      rw [HX.out, twiceF] at HE
      have hi1 : (k : Int) < l.length := by omega
      generalize hP : y ||| (x &&& s) = P at *
      generalize hQ : x &&& s = Q at *
      generalize hR : x ||| s = R at *
      clear hs hP hQ hR
      go_wp2_with fail
      refine ⟨⟨k + 1, R, P, by omega, by go_num, rfl, rfl, hx2, hy2, HE.out, ?_⟩, by simp [intOf]; omega⟩
      first | rfl | trivial
    · have hk' : k = l.length := by omega
      have HT : Hid (twiceN l = y) := by
        show _ = _
        rw [twiceN, HE.out, (List.drop_eq_nil_of_le (by omega) : l.drop k = []), twiceF]
      have d1 : decide ((k : Int) < (l.length : Int)) = false := by rw [decide_eq_false_iff_not]; omega
      have d2 : decide (k < l.length) = false := by rw [decide_eq_false_iff_not]; omega
      clear hlt hk'
      go_wp2_with fail
      clear d1 d2
      go_loopw [7, 27] (fun b i wr => ∃ k2 : Nat, k2 ≤ l.length ∧ i = .int .i64 k2 ∧ b = .bool (decide (¬ (trimmed l).take k2 = l.take k2)) ∧ Own iv 1 3 base wr (.slice A l.length cap) (castL (trimTo l k2)) ∧ w.grownBy wr (Value.slice A l.length cap).ownBlock) (fun _ i _ => l.length - (intOf i).toNat)
      case atStart => exact ⟨0, by omega, rfl, by simp, HO.out, World.grownBy.refl _ _⟩
      case round =>
        obtain ⟨k2, hk2, rfl, rfl, ho, hg⟩ := hrel
        have HO2 := Lib.hid ho
        have HG2 := Lib.hid hg
        by_cases hlt2 : k2 < l.length
        · obtain ⟨s, hs⟩ : ∃ s, l[k2]? = some s := ⟨_, List.getElem?_eq_getElem hlt2⟩
          obtain ⟨g, z, rfl, hgb, hgl, -, hz, hc, hf⟩ := ho.at_ iv_length (i := k2) (by rw [castL_len, trimTo_len _ _ (by omega)]; omega)
          rw [castL_at (trimTo_at hs)] at hz
          cases hz
          have c0 := hc 0 _ rfl
          simp only [Nat.mul_one, Nat.add_zero] at c0
          have f0 := hf k2
          have hs8 := HL.out s (List.mem_of_getElem? hs)
          have h1 := band_nat (a := s) (b := y) (by omega) (by omega)
          have HTK := Lib.hid (trim_take hs)
          have HTS := Lib.hid (trimTo_succ hs)
          rw [HT.out] at HTK HTS
          have hi1 : (k2 : Int) < l.length := by omega
          obtain ⟨q1, q2⟩ := Own.set1 iv_length HO2.out (i := k2) (by rw [castL_len, trimTo_len _ _ (by omega)]; omega) (y := ((s &&& y : Nat) : Int)) (u := .int .i64 ((s &&& y : Nat) : Int)) rfl
          rw [castL_set, HTS.out] at q1
          have hgg : w.grownBy _ (Value.slice (some ⟨g, 0, none⟩) l.length cap).ownBlock := HG2.out.then_ q2 (fun _ e => .inr e)
          have Q1 := Lib.hid q1
          have Q2 := Lib.hid hgg
          obtain ⟨cc, hcc⟩ := HO2.out.heap
          have hsz : k2 < cc.size := by
            simp only [World.cell?, hcc] at c0
            exact (Array.getElem?_eq_some_iff.1 (by simpa using c0)).1
          have c1 : (wr.setCell ⟨g, k2, none⟩ (.int .i64 ((s &&& y : Nat) : Int))).cell? ⟨g, k2, none⟩ = some (.int .i64 ((s &&& y : Nat) : Int)) := cell_at_block (setCell_at (off := k2) hcc _).1 (by simp [hsz])
          generalize hE : s &&& y = E at *
          clear q1 q2 hgg ho hg hs hc hf hgb hgl hcc hsz
          cases hb : decide (¬ (trimmed l).take k2 = l.take k2) with
          | true =>
            have HD : Hid (decide (¬ (trimmed l).take (k2 + 1) = l.take (k2 + 1)) = true) := by
              show _ = _
              rw [decide_eq_true_eq] at hb ⊢
              rw [HTK.out]
              exact fun h => hb h.1
            clear hb hE
            go_wp2_with fail
            exact ⟨⟨k2 + 1, by omega, by go_num, by rw [HD.out], Q1.out, Q2.out⟩, by simp [intOf]; omega⟩
          | false =>
            have HD : Hid (decide (¬ (trimmed l).take (k2 + 1) = l.take (k2 + 1)) = ((E : Int) != (s : Int))) := by
              show _ = _
              rw [decide_eq_false_iff_not, Classical.not_not] at hb
              have : ((trimmed l).take (k2 + 1) = l.take (k2 + 1)) ↔ E = s := by rw [HTK.out]; exact ⟨fun h => h.2, fun h => ⟨hb, h⟩⟩
              by_cases hes : E = s
              · simp [this, hes]
              · have h2 : ((E : Int) != (s : Int)) = true := by simp; omega
                rw [h2, decide_eq_true_eq, this]
                exact hes
            clear hb hE
            go_wp2_with fail
            exact ⟨⟨k2 + 1, by omega, by go_num, by rw [HD.out], Q1.out, Q2.out⟩, by simp [intOf]; omega⟩
        · have hk3 : k2 = l.length := by omega
          have e1 : (trimmed l).take k2 = trimmed l := List.take_of_length_le (by simp [trimmed]; omega)
          have e2 : l.take k2 = l := List.take_of_length_le (by omega)
          have e3 : trimTo l k2 = trimmed l := by rw [trimTo, e1, (List.drop_eq_nil_of_le (by omega) : l.drop k2 = []), List.append_nil]
          have HD : Hid (decide (¬ (trimmed l).take k2 = l.take k2) = decide (trimmed l ≠ l)) := by show _ = _; rw [e1, e2]
          rw [e3] at HO2
          have d1 : decide ((k2 : Int) < (l.length : Int)) = false := by rw [decide_eq_false_iff_not]; omega
          have d2 : decide (k2 < l.length) = false := by rw [decide_eq_false_iff_not]; omega
          clear ho hg hlt2 hk3 e1 e2 e3
          go_wp2_with fail
          go_ret
          exact ⟨ret_bool HD.out, HO2.out, HG2.out⟩
end Go.Proofs.Bg
end

section
/- Contracts: slices.Delete at integers; Ring. -/
namespace Go.Proofs.Bg
open Go.RowKit
open Go.Sort (grow Holds putRow)

theorem flatMap_take {α : Type} {enc : α → List Value} {sz : Nat} (hs : ∀ x, (enc x).length = sz) : ∀ (l : List α) (k : Nat), (l.take k).flatMap enc = (l.flatMap enc).take (k * sz)
  | [], k => by simp
  | a :: r, 0 => by simp
  | a :: r, k + 1 => by
    rw [List.take_succ_cons, List.flatMap_cons, List.flatMap_cons, flatMap_take hs r k, List.take_append, hs a]
    have e1 : (k + 1) * sz - sz = k * sz := by rw [Nat.succ_mul]; omega
    have e2 : (enc a).take ((k + 1) * sz) = enc a := List.take_of_length_le (by rw [hs, Nat.succ_mul]; omega)
    rw [e1, e2]
theorem Own.head {α : Type} {enc : α → List Value} {sz : Nat} {T : TypeId} {base n cap k : Nat} {A : Option Addr} {w : World} {l : List α} (hs : ∀ x, (enc x).length = sz) (h : Own enc sz T base w (.slice A n cap) l) (hk : k ≤ l.length) (h0 : A ≠ none ∨ 0 < l.length) : Own enc sz T base w (.slice A k cap) (l.take k) := by
  have hn := h.len
  subst hn
  have hl : (l.take k).length = k := by rw [List.length_take]; omega
  rcases h.2 with ⟨e, e0⟩ | ⟨g', cap', cur, e, hb, hh, h1, h2, h3, h4⟩
  · simp only [Value.slice.injEq] at e
    obtain ⟨e1, e2, _⟩ := e
    rcases h0 with h0 | h0
    · exact absurd e1 h0
    · omega
  · cases e
    refine ⟨by rw [flat_length hs], .inr ⟨g', cap, cur, by rw [hl], hb, hh, by rw [hl]; omega, h2, h3, ?_⟩⟩
    rw [hl, flatMap_take hs, ← h4, List.take_take, Nat.min_eq_left (Nat.mul_le_mul_right _ hk)]
theorem holdsI_of_own {w : World} {base g n cap : Nat} {l : List Int} (h : Own iv 1 3 base w (.slice (some ⟨g, 0, none⟩) n cap) l) : Holds (Value.int .i64) w g 0 l.toArray := by
  intro j hj
  have hj' : j < l.length := by simpa using hj
  obtain ⟨g', x, e, -, -, -, hx, hc, hf⟩ := h.at_ iv_length hj'
  cases e
  have := hc 0 _ rfl
  simp only [Nat.mul_one, Nat.add_zero] at this
  refine ⟨?_, hf _⟩
  rw [Nat.zero_add, this]
  have hx' := (List.getElem?_eq_some_iff.1 hx).2
  simp [hj', hx']
theorem flat_ivI (l : List Int) : l.flatMap iv = l.map (Value.int .i64) := by
  induction l with
  | nil => rfl
  | cons a r ih => simp [iv] at ih ⊢; exact ih
theorem ownI_put {w : World} {base g cap : Nat} {q : Nat} {ss ts : List Int} (hl : ts.length = ss.length) (h : Own iv 1 3 base w (.slice (some ⟨g, 0, none⟩) ss.length cap) ss) :
    Own iv 1 3 base (putRow (Value.int .i64) (Sort.ahead w q) g 0 ts.toArray) (.slice (some ⟨g, 0, none⟩) ts.length cap) ts ∧ w.grownBy (putRow (Value.int .i64) (Sort.ahead w q) g 0 ts.toArray) (some g) := by
  rcases h.2 with ⟨e, _⟩ | ⟨g', cap', cur, e, hb, hh, h1, h2, h3, h4⟩
  · cases e
  · cases e
    have hr := ownsRow_sortedI (n := q) (os := #[]) hl hb hh h1 h2 h3
    have hg := grownBy_sortedI (w := w) (g := g) (n := q) (os := #[]) ts.toArray
    rw [Go.Sort.grow_empty] at hr hg
    refine ⟨?_, hg⟩
    unfold Own
    rw [flat_ivI, hl]
    exact hr

theorem DeleteI_any (base g n cap i : Nat) (zs : List Int) (w : World) (h : Own iv 1 3 base w (.slice (some ⟨g, 0, none⟩) n cap) zs) (hi : i < zs.length) :
    Calls Tryz.prog 94 #[.slice (some ⟨g, 0, none⟩) n cap, .int .i64 i, .int .i64 ((i : Int) + 1)] w fun e w' => e = .returned (.slice (some ⟨g, 0, none⟩) (n - 1) cap) ∧ Own iv 1 3 base w' (.slice (some ⟨g, 0, none⟩) (n - 1) cap) (zs.eraseIdx i) ∧ w.grownBy w' (some g) := by
  have hn := h.len
  subst hn
  refine (Tryz.slices_Delete_int g 0 cap i (i + 1) zs w (holdsI_of_own h) h.capOf h.capMax (by omega) (by omega)).mono fun e w' ⟨he, q, hw⟩ => ?_
  have hlen : (zs.take i ++ zs.drop (i + 1) ++ List.replicate (i + 1 - i) (0 : Int)).length = zs.length := by simp; omega
  obtain ⟨h1, h2⟩ := ownI_put (q := q) hlen h
  rw [← hw] at h1 h2
  have e1 : zs.length - (i + 1 - i) = zs.length - 1 := by omega
  rw [e1] at he
  refine ⟨he, ?_, h2⟩
  have h3 := h1.head iv_length (k := zs.length - 1) (by rw [hlen]; omega) (.inl (by simp))
  have e2 : (zs.take i ++ zs.drop (i + 1) ++ List.replicate (i + 1 - i) (0 : Int)).take (zs.length - 1) = zs.eraseIdx i := by
    rw [List.take_append_of_le_length (by simp; omega), List.take_of_length_le (by simp; omega), List.eraseIdx_eq_take_drop_succ]
  rw [e2] at h3
  exact h3
theorem Own.shapeN2 {α : Type} {enc : α → List Value} {sz : Nat} {e : TypeId} {base : Nat} {w : World} {v : Value} {l : List α} (h : Own enc sz e base w v l) : ∃ A n cap, v = .slice A n cap := by
  obtain ⟨A, cap, rfl⟩ := h.shape
  exact ⟨A, _, cap, rfl⟩
theorem castL_erase (l : List Nat) (i : Nat) : (castL l).eraseIdx i = castL (l.eraseIdx i) := by simp [castL, List.eraseIdx_eq_take_drop_succ, List.map_take, List.map_drop]

def setsB (L : List (List Int)) : Bool := decide (0 < L.length) && decide (L.length ≤ 5) && L.all fun s => setB s 8
def ringR (L : List (List Int)) : Bool × Int := if setsB L then (ringB L, 0) else (false, 2)
/-- The sets that are left, while one is looked at. -/
theorem round_end {l0 l : List Nat} {i : Nat} (h : ringRound l0 = scanR (l.length - i) l i) (hi : ¬ i < l.length) : ringRound l0 = l := by
  rw [h, scanR_stop hi]
theorem changed_iff {l0 l : List Nat} (h : ringRound l0 = l) : (decide (trimmed l0 ≠ l0) || decide (l.length < (trimmed l0).length)) = decide (ringRound l0 ≠ l0) := by
  obtain ⟨h1, _, h3, _⟩ := scanR_le (trimmed l0).length (trimmed l0) 0
  change (ringRound l0).length ≤ _ at h1
  have h7 : (trimmed l0).length = l0.length := by simp [trimmed]
  rw [h] at h1
  by_cases hl : l.length < (trimmed l0).length
  · have : ringRound l0 ≠ l0 := fun e => by rw [h] at e; rw [e] at hl; omega
    simp [hl, this]
  · have e := h3 (by change (ringRound l0).length = _; rw [h]; omega)
    change ringRound l0 = trimmed l0 at e
    rw [e]
    simp [hl]

set_option maxRecDepth 100000 in
set_option maxHeartbeats 8000000 in
theorem Ring_any (s : Sl) (L : List (List Int)) (w : World) (h : RowsAt w 0 s L) :
    Calls Tryz.prog 28 #[.slice s.A s.n s.cap] w fun e w' => e = .returned (.tuple #[.bool (ringR L).1, .int .i64 (ringR L).2]) ∧ Below w.heap.size w w' := by
  obtain ⟨A, n, cap⟩ := s
  have HA := Lib.hid h
  have HL : Hid (L.length = n) := h.len
  have hle : n ≤ 9223372036854775807 := h.le
  clear h
  by_cases h0 : n = 0
  · subst h0
    have HR : Hid (ringR L = (false, 2)) := by show _ = _; simp [ringR, setsB, HL.out]
    go_enter Tryz.func28, Tryz.ntmps28
    go_wp2_with fail
    go_ret2
    rw [HR.out]
    exact ⟨rfl, Below.refl _ _⟩
  · have d0 : ((n : Int) == 0) = false := by simpa using h0
    have d0' : (n == 0) = false := by simpa using h0
    by_cases h5 : n ≤ 5
    · have d5 : decide ((5 : Int) < (n : Int)) = false := by rw [decide_eq_false_iff_not]; omega
      have d5' : decide (5 < n) = false := by rw [decide_eq_false_iff_not]; omega
      have HG : Hid (setsB L = (L.drop 0).all fun s => setB s 8) := by
        show _ = _
        have e1 : decide (0 < L.length) = true := by rw [decide_eq_true_eq, HL.out]; omega
        have e2 : decide (L.length ≤ 5) = true := by rw [decide_eq_true_eq, HL.out]; omega
        rw [setsB, e1, e2]
        rfl
      clear h0
      go_enter Tryz.func28, Tryz.ntmps28
      go_wp2_with fail
      clear d0 d0' d5 d5'
      go_loopw [4, 22] (fun v i wr => ∃ k : Nat, k ≤ n ∧ i = .int .i64 k ∧ setsB L = (L.drop k).all (fun s => setB s 8) ∧ (∀ s ∈ L.take k, setB s 8 = true) ∧ Own iv 1 3 w.heap.size wr v (castL ((L.take k).map bitsN)) ∧ Below w.heap.size w wr) (fun _ i _ => n - (intOf i).toNat)
      case atStart => exact ⟨0, by omega, rfl, HG.out, fun s hs => by simp at hs, Own.nil _ _ _ _ _, Below.refl _ _⟩
      case round =>
        clear HG
        obtain ⟨k, hk, rfl, he, hall, ho, hB⟩ := hrel
        obtain ⟨A1, n1, c1, rfl⟩ := ho.shapeN2
        have hn1 := ho.len
        rw [castL_len, List.length_map, List.length_take] at hn1
        have HO := Lib.hid ho
        have HE := Lib.hid he
        have HALL := Lib.hid hall
        have HB := Lib.hid hB
        clear he hall ho hB
        by_cases hlt : k < n
        · obtain ⟨b1, o1, t, r, hbb, -, hr, e0, hR⟩ := (HA.out.below HB.out).at_ hlt
          simp only [] at hbb
          subst hbb
          have HX := Lib.hid (drop_at hr)
          rw [HX.out, List.all_cons] at HE
          have Q1 := Lib.hid (setIn_any t.A t.n t.cap 8 r wr hR)
          have hi1 : (k : Int) < n := by omega
          have hn5 : n1 ≤ 5 := by omega
          have HTK : Hid (L.take (k + 1) = L.take k ++ [r]) := by show _ = _; rw [List.take_add_one, hr]; rfl
          clear hr hn1
          cases hs : setB r 8 with
          | false =>
            have HR : Hid (ringR L = (false, 2)) := by
              show _ = _
              rw [ringR, HE.out, hs, Bool.false_and]
              rfl
            rw [hs] at Q1
            clear hs
            go_wp2_with (go_at_call 91; (with_reducible refine Q1.out.mono ?_); rintro e w' ⟨rfl, hw'⟩; obtain rfl := hw'.symm)
            go_ret2
            rw [HR.out]
            exact ⟨rfl, HB.out⟩
          | true =>
            have Q2 := Lib.hid (bitsOf_any t.A t.n t.cap r wr hR (setB_mem hs))
            rw [hs, Bool.true_and] at HE
            rw [hs] at Q1
            have HN : Hid (castL ((L.take (k + 1)).map bitsN) = castL ((L.take k).map bitsN) ++ [((bitsN r : Nat) : Int)]) := by
              show _ = _
              rw [HTK.out]
              simp [castL]
            have HAL : Hid (∀ s ∈ L.take (k + 1), setB s 8 = true) := by
              show ∀ s ∈ L.take (k + 1), setB s 8 = true
              rw [HTK.out]
              intro s hsm
              rcases List.mem_append.1 hsm with h | h
              · exact HALL.out s h
              · simp at h; subst h; exact hs
            have hll := castL_len ((L.take k).map bitsN)
            rw [List.length_map, List.length_take] at hll
            generalize castL ((L.take k).map bitsN) = cl at *
            generalize bitsN r = br at *
            have hcl5 : cl.length ≤ 5 := by omega
            clear hs hll
            go_wp2_with (first
              | (go_at_call 91; (with_reducible refine Q1.out.mono ?_); rintro e w' ⟨rfl, hw'⟩; obtain rfl := hw'.symm)
              | (go_at_call 92; (with_reducible refine Q2.out.mono ?_); rintro e w' ⟨rfl, hw'⟩; obtain rfl := hw'.symm)
              | (at_builtin; go_loud (refine wpList_app1 iv 1 3 _ 8 infoInt rfl (by decide) rfl _ _ _ rfl Tryz.underlying32 w.heap.size _ cl rfl (HO.out.alloc _) (br : Int) _ _ rfl rfl (newAt _ _ _ _ (by simp)) (by simp [iv, Value.oneCell']) (by omega) (by unfold maxLen; omega) (by have := HB.out.size; simp; omega) (fun v4 w4 hown4 hg4 _ => ?_))))
            exact ⟨⟨k + 1, by omega, by go_num, HE.out, HAL.out, by rw [HN.out]; exact hown4, below_row (HB.out.alloc HB.out.size _) hg4 (fun g e => (HO.out.blk g e).1)⟩, by simp [intOf]; omega⟩
        · have hk' : k = n := by omega
          have htk : L.take k = L := List.take_of_length_le (by rw [HL.out]; omega)
          rw [htk] at HO HALL
          have hset : setsB L = true := by
            rw [HE.out, (List.drop_eq_nil_of_le (by rw [HL.out]; omega) : L.drop k = [])]
            rfl
          obtain ⟨l0, hl0⟩ : ∃ l0, L.map bitsN = l0 := ⟨_, rfl⟩
          have HR : Hid (ringR L = (decide (0 < (ringN l0).length), 0)) := by
            show _ = _
            rw [ringR, hset, ← hl0]
            rfl
          have hall0 : ∀ s ∈ l0, s < 256 := by
            rw [← hl0]
            intro s hs
            obtain ⟨r, hr, rfl⟩ := List.mem_map.1 hs
            exact bitsN_lt (n := 8) (setB_mem (HALL.out r hr))
          have hlen0 : l0.length ≤ 5 := by rw [← hl0, List.length_map, HL.out]; exact h5
          rw [hl0] at HO
          have HALL0 := Lib.hid hall0
          have d1 : decide ((k : Int) < (n : Int)) = false := by rw [decide_eq_false_iff_not]; omega
          have d2 : decide (k < n) = false := by rw [decide_eq_false_iff_not]; omega
          clear htk hset hl0 hall0 hlt hk' HALL hn1
          go_wp2_with fail
          clear d1 d2
          go_loopg [4, 7] (2 * muR l0 + 1) (fun gg v b wr => ∃ l : List Nat, ∃ t : Bool, b = .bool t ∧ Own iv 1 3 w.heap.size wr v (castL l) ∧ (∀ s ∈ l, s < 256) ∧ l.length ≤ 5 ∧ (t = true → ringN l0 = ringN l) ∧ (t = false → ringN l0 = l) ∧ Below w.heap.size w wr ∧ 2 * muR l + t.toNat ≤ gg)
          case atStart => exact ⟨l0, true, rfl, HO.out, HALL0.out, hlen0, (fun _ => rfl), (fun h => by cases h), HB.out, by simp⟩
          case round =>
            clear HO HALL0 HB hlen0
            obtain ⟨l, t, rfl, ho, hall, hl5, ht, hf, hB, hgg⟩ := hrel
            obtain ⟨A2, n2, c2, rfl⟩ := ho.shapeN2
            have hn2 := ho.len
            rw [castL_len] at hn2
            subst hn2
            cases t with
            | false =>
              have HF := Lib.hid (hf rfl)
              have HB := Lib.hid hB
              clear ht hf ho hB
              go_wp2_with fail
              go_ret2
              rw [HR.out, HF.out]
              refine ⟨?_, HB.out⟩
              simp
            | true =>
              have HT := Lib.hid (ht rfl)
              have HST := Lib.hid (ringN_step l)
              have HMU := Lib.hid (fun hh => ringRound_mu (l := l) hh)
              have Q1 := Lib.hid (trim_any w.heap.size A2 l.length c2 l wr ho hall (by omega))
              have HOB := Lib.hid ho
              have HB := Lib.hid hB
              have htl : (trimmed l).length = l.length := by simp [trimmed]
              have hta : ∀ s ∈ trimmed l, s < 256 := by
                intro s hs
                obtain ⟨r, hr, rfl⟩ := List.mem_map.1 hs
                exact Nat.lt_of_le_of_lt Nat.and_le_left (hall r hr)
              have HTA := Lib.hid hta
              have HGG := Lib.hid hgg
              have HTL := Lib.hid htl
              clear ht hf ho hB hall hta htl hgg
              go_wp2_with (go_at_call 93; (with_reducible refine Q1.out.mono ?_); rintro e w2 ⟨rfl, ho2, hg2⟩; have HO2 := Lib.hid ho2; have HB2 := Lib.hid (below_row HB.out hg2 (fun g e => (HOB.out.blk g e).1)); clear ho2 hg2)
              clear Q1 HOB HB
              go_loopw [4, 7, 8] (fun v b i wr => ∃ l' : List Nat, ∃ i' : Nat, i = .int .i64 i' ∧ i' ≤ l'.length ∧ Own iv 1 3 w.heap.size wr v (castL l') ∧ (∀ s ∈ l', s < 256) ∧ l'.length ≤ 5 ∧ ringRound l = scanR (l'.length - i') l' i' ∧ l'.length ≤ (trimmed l).length ∧ b = .bool (decide (trimmed l ≠ l) || decide (l'.length < (trimmed l).length)) ∧ Below w.heap.size w wr) (fun v _ i _ => lenOf v - (intOf i).toNat)
              case atStart => exact ⟨trimmed l, 0, rfl, Nat.zero_le _, HO2.out, HTA.out, by rw [HTL.out]; exact hl5, by rw [Nat.sub_zero]; rfl, Nat.le_refl _, by simp, HB2.out⟩
              case round =>
                clear HO2 HTA HB2
                obtain ⟨l', i', rfl, hi', ho, hall, hl5', hscan, hlt', rfl, hB⟩ := hrel
                obtain ⟨A3, n3, c3, rfl⟩ := ho.shapeN2
                have hn3 := ho.len
                rw [castL_len] at hn3
                subst hn3
                have HO := Lib.hid ho
                have HALL := Lib.hid hall
                have HB := Lib.hid hB
                have HSC := Lib.hid hscan
                obtain ⟨wo, rfl⟩ : ∃ x, x = wr := ⟨_, rfl⟩
                by_cases hlt : i' < l'.length
                · obtain ⟨x, hx⟩ : ∃ x, l'[i']? = some x := ⟨_, List.getElem?_eq_getElem hlt⟩
                  obtain ⟨g, z, rfl, hgb, hgl, -, hz, hc, -⟩ := ho.at_ iv_length (i := i') (by rw [castL_len]; exact hlt)
                  rw [castL_at hx] at hz
                  cases hz
                  have c0 := hc 0 _ rfl
                  simp only [Nat.mul_one, Nat.add_zero] at c0
                  have hx8 := hall x (List.mem_of_getElem? hx)
                  have hat : at0 l' i' = x := by simp [at0, hx]
                  have HW0 : Hid (withinTo l' i' 0 = decide (x = 0)) := by show _ = _; simp [withinTo, hat]
                  have HWS := Lib.hid (withinTo_succ l' i')
                  have HAT := Lib.hid hat
                  have HSS := Lib.hid (scanR_step (l := l') (i := i') hlt (Nat.le_refl _))
                  have hi1 : (i' : Int) < l'.length := by omega
                  have hx0 : ((x : Int) == 0) = decide (x = 0) := by
                    by_cases h : x = 0 <;> simp [h]
                  have hx0' : (x == 0) = decide (x = 0) := by
                    by_cases h : x = 0 <;> simp [h]
                  generalize hb : (decide (trimmed l ≠ l) || decide (l'.length < (trimmed l).length)) = bb at *
                  have HBB := Lib.hid hb
                  clear hb hx hgb hc hat ho hall hB hscan
                  go_wp2_with fail
                  go_loopw [9, 51] (fun b k wr => ∃ k' : Nat, k' ≤ l'.length ∧ k = .int .i64 k' ∧ b = .bool (withinTo l' i' k') ∧ wr = wo) (fun _ k _ => l'.length - (intOf k).toNat)
                  case atStart => exact ⟨0, Nat.zero_le _, rfl, by rw [HW0.out], rfl⟩
                  case round =>
                    obtain ⟨k', hk', rfl, rfl, hww⟩ := hrel
                    obtain rfl := hww.symm
                    clear hww
                    by_cases hlt2 : k' < l'.length
                    · obtain ⟨y, hy⟩ : ∃ y, l'[k']? = some y := ⟨_, List.getElem?_eq_getElem hlt2⟩
                      obtain ⟨g', z, e, -, -, -, hz, hc, -⟩ := HO.out.at_ iv_length (i := k') (by rw [castL_len]; exact hlt2)
                      cases e
                      rw [castL_at hy] at hz
                      cases hz
                      have d0 := hc 0 _ rfl
                      simp only [Nat.mul_one, Nat.add_zero] at d0
                      have hy8 := HALL.out y (List.mem_of_getElem? hy)
                      have hu : underB l' i' k' = (decide (k' ≠ i') && decide (bdiff x y = 0) && (decide (x ≠ y) || decide (k' < i'))) := by
                        have : at0 l' k' = y := by simp [at0, hy]
                        rw [underB, HAT.out, this]
                      have hws := HWS.out k'
                      rw [hu] at hws
                      have hbd := bandnot_nat (a := x) (b := y) (by omega) (by omega)
                      have hj1 : (k' : Int) < l'.length := by omega
                      generalize bdiff x y = D at *
                      clear hy hc hu
                      by_cases h1 : k' = i'
                      · have e1 : ((k' : Int) != (i' : Int)) = false := by simp [h1]
                        have e1' : (k' != i') = false := by simp [h1]
                        have HWN : Hid (withinTo l' i' (k' + 1) = withinTo l' i' k') := by show _ = _; rw [hws]; simp [h1]
                        clear h1 hws
                        go_wp2_with fail
                        exact ⟨⟨k' + 1, by omega, by go_num, by rw [HWN.out], by first | rfl | trivial⟩, by simp [intOf]; omega⟩
                      · have e1 : ((k' : Int) != (i' : Int)) = true := by simp; omega
                        have e1' : (k' != i') = true := by simpa using h1
                        by_cases h2 : D = 0
                        · have e2 : ((D : Int) == 0) = true := by simp [h2]
                          have e2' : (D == 0) = true := by simp [h2]
                          by_cases h3 : x = y
                          · have e3 : ((x : Int) != (y : Int)) = false := by simp [h3]
                            have e3' : (x != y) = false := by simp [h3]
                            by_cases h4 : k' < i'
                            · have e4 : decide ((k' : Int) < (i' : Int)) = true := by rw [decide_eq_true_eq]; omega
                              have e4' : decide (k' < i') = true := by rw [decide_eq_true_eq]; exact h4
                              have HWN : Hid (withinTo l' i' (k' + 1) = true) := by show _ = _; rw [hws]; simp [h1, h2, h4]
                              clear h1 h2 h3 h4 hws
                              go_wp2_with fail
                              exact ⟨⟨k' + 1, by omega, by go_num, by rw [HWN.out], by first | rfl | trivial⟩, by simp [intOf]; omega⟩
                            · have e4 : decide ((k' : Int) < (i' : Int)) = false := by rw [decide_eq_false_iff_not]; omega
                              have e4' : decide (k' < i') = false := by rw [decide_eq_false_iff_not]; exact h4
                              have HWN : Hid (withinTo l' i' (k' + 1) = withinTo l' i' k') := by show _ = _; rw [hws]; simp [h3, h4]
                              clear h1 h2 h3 h4 hws
                              go_wp2_with fail
                              exact ⟨⟨k' + 1, by omega, by go_num, by rw [HWN.out], by first | rfl | trivial⟩, by simp [intOf]; omega⟩
                          · have e3 : ((x : Int) != (y : Int)) = true := by simp; omega
                            have e3' : (x != y) = true := by simpa using h3
                            have HWN : Hid (withinTo l' i' (k' + 1) = true) := by show _ = _; rw [hws]; simp [h1, h2, h3]
                            clear h1 h2 h3 hws
                            go_wp2_with fail
                            exact ⟨⟨k' + 1, by omega, by go_num, by rw [HWN.out], by first | rfl | trivial⟩, by simp [intOf]; omega⟩
                        · have e2 : ((D : Int) == 0) = false := by simp; omega
                          have e2' : (D == 0) = false := by simpa using h2
                          have HWN : Hid (withinTo l' i' (k' + 1) = withinTo l' i' k') := by show _ = _; rw [hws]; simp [h2]
                          clear h1 h2 hws
                          go_wp2_with fail
                          exact ⟨⟨k' + 1, by omega, by go_num, by rw [HWN.out], by first | rfl | trivial⟩, by simp [intOf]; omega⟩
                    · have hk2 : k' = l'.length := by omega
                      have d1 : decide ((k' : Int) < ((l'.length : Nat) : Int)) = false := by rw [decide_eq_false_iff_not]; omega
                      have d2 : decide (k' < l'.length) = false := by rw [decide_eq_false_iff_not]; omega
                      have hin : withinTo l' i' k' = insideB l' i' := by rw [hk2]; rfl
                      rw [hin]
                      clear hlt2 hk2
                      have HCL := Lib.hid (castL_len l')
                      have Q2 := Lib.hid (DeleteI_any w.heap.size g l'.length c3 i' (castL l') wo HO.out (by rw [castL_len]; exact hlt))
                      cases hi : insideB l' i' with
                      | true =>
                        rw [hi] at HSS
                        simp only [if_true] at HSS
                        have hle' := erase_length hlt
                        have HERA := Lib.hid (castL_erase l' i')
                        have hwi : IntKind.i64.wrap ((i' : Int) - 1) = (i' : Int) - 1 := IntWalk.i64_in _ (by omega)
                        have hwj : IntKind.i64.wrap ((i' : Int) - 1 + 1) = (i' : Int) := by rw [Int.sub_add_cancel]; exact IntWalk.i64_in _ (by omega)
                        have hal : ∀ s ∈ l'.eraseIdx i', s < 256 := fun s hs => HALL.out s (List.mem_of_mem_eraseIdx hs)
                        have HAE := Lib.hid hal
                        have HLE := Lib.hid hle'
                        have HOO := HO.out.blk
                        have HBK : Hid (∀ q, (some g : Option Nat) = some q → w.heap.size ≤ q) := fun q e => by cases e; exact (HO.out.blk g rfl).1
                        clear hi hin hal HOO hle'
                        go_wp2_with fail
                        (with_reducible refine Q2.out.mono ?_)
                        rintro e w3 ⟨rfl, ho3, hg3⟩
                        rw [HERA.out] at ho3
                        have HO3 := Lib.hid ho3
                        have HB3 := Lib.hid (below_row HB.out hg3 HBK.out)
                        clear ho3 hg3
                        go_wp2_with fail
                        refine ⟨⟨l'.eraseIdx i', i', by first | rfl | go_num, by rw [HLE.out]; omega, HO3.out, HAE.out, by rw [HLE.out]; omega, by rw [HSC.out, HSS.out, HLE.out]; congr 1; omega, by rw [HLE.out]; omega, ?_, HB3.out⟩, ?_⟩
                        · have : (decide (trimmed l ≠ l) || decide ((l'.eraseIdx i').length < (trimmed l).length)) = true := by
                            rw [HLE.out, Bool.or_eq_true, decide_eq_true_eq, decide_eq_true_eq]
                            right
                            omega
                          rw [this]
                        · simp [intOf, lenOf]; omega
                      | false =>
                        rw [hi] at HSS
                        simp only [Bool.false_eq_true, if_false] at HSS
                        clear hi hin
                        go_wp2_with fail
                        exact ⟨⟨l', i' + 1, by go_num, by omega, HO.out, HALL.out, hl5', by rw [HSC.out, HSS.out]; congr 1, hlt', by rw [HBB.out], HB.out⟩, by simp [intOf, lenOf]; omega⟩
                · have hend := round_end hscan hlt
                  have hch := changed_iff hend
                  rw [hch]
                  have hl' : ringRound l = l' := hend
                  have HT2 : Hid (ringN l0 = if ringRound l = l then l else ringN l') := by show _ = _; rw [HT.out, HST.out, hl']
                  have hil : i' = l'.length := by omega
                  have d1 : decide ((i' : Int) < ((l'.length : Nat) : Int)) = false := by rw [decide_eq_false_iff_not]; omega
                  have d2 : decide (i' < l'.length) = false := by rw [decide_eq_false_iff_not]; omega
                  have HEND := Lib.hid hend
                  cases hd : decide (ringRound l ≠ l) with
                  | false =>
                    have he : ringRound l = l := by simpa using hd
                    have HE2 : Hid (ringN l0 = l') := by show _ = _; rw [HT2.out, if_pos he, ← HEND.out, he]
                    have HM : Hid (muR l' = muR l) := by show _ = _; rw [← HEND.out, he]
                    clear hlt hscan hend hch hl' hil hd he ho hall hB
                    go_wp2_with fail
                    go_roundg (2 * muR l)
                    case measure => have := HGG.out; simp at this; omega
                    case rel => exact ⟨l', false, rfl, HO.out, HALL.out, hl5', (fun h => by cases h), (fun _ => HE2.out), HB.out, by rw [HM.out]; simp⟩
                  | true =>
                    have hne : ringRound l ≠ l := by simpa using hd
                    have HE2 : Hid (ringN l0 = ringN l') := by show _ = _; rw [HT2.out, if_neg hne]
                    have HM : Hid (muR l' < muR l) := by show _ < _; have := HMU.out hne; rw [HEND.out] at this; exact this
                    clear hlt hscan hend hch hl' hil hd hne ho hall hB
                    go_wp2_with fail
                    go_roundg (2 * muR l' + 1)
                    case measure => have h1 := HGG.out; have h2 := HM.out; simp at h1; omega
                    case rel => exact ⟨l', true, rfl, HO.out, HALL.out, hl5', (fun _ => HE2.out), (fun h => by cases h), HB.out, by simp⟩
    · have HR : Hid (ringR L = (false, 2)) := by
        show _ = _
        have : decide (L.length ≤ 5) = false := by rw [decide_eq_false_iff_not, HL.out]; exact h5
        simp [ringR, setsB, this]
      have d5 : decide ((5 : Int) < (n : Int)) = true := by rw [decide_eq_true_eq]; omega
      have d5' : decide (5 < n) = true := by rw [decide_eq_true_eq]; omega
      clear h0 h5
      go_enter Tryz.func28, Tryz.ntmps28
      go_wp2_with fail
      go_ret2
      rw [HR.out]
      exact ⟨rfl, Below.refl _ _⟩
end Go.Proofs.Bg
end

section
/- Contract: Line. -/
namespace Go.Proofs.Bg
open Go.RowKit

/-- The best line so far, in memory. -/
def BestAt (base gl n : Nat) (wr : World) (b c : Value) : Option (List Int × Nat) → Prop
  | none => b = .slice none 0 0 ∧ c = .int .i64 0
  | some (m, x) => ∃ gb cb, b = .slice (some ⟨gb, 0, none⟩) n cb ∧ c = .int .i64 x ∧ Own iv 1 3 base wr b m ∧ gb ≠ gl ∧ x ≤ 2500
theorem BestAt.grown {base gl n : Nat} {wr W : World} {b c : Value} {o : Option (List Int × Nat)} (h : BestAt base gl n wr b c o) (hg : wr.grownBy W (some gl)) : BestAt base gl n W b c o := by
  cases o with
  | none => exact h
  | some p =>
    obtain ⟨gb, cb, e1, e2, ho, hne, hx⟩ := h
    subst e1 e2
    exact ⟨gb, cb, rfl, rfl, ho.grown hg (.inr fun e => hne (Option.some.inj e)), hne, hx⟩
theorem BestAt.mk {base gl n gb cb x : Nat} {wr : World} {m : List Int} (ho : Own iv 1 3 base wr (.slice (some ⟨gb, 0, none⟩) n cb) m) (hne : gb ≠ gl) (hx : x ≤ 2500) : BestAt base gl n wr (.slice (some ⟨gb, 0, none⟩) n cb) (.int .i64 x) (some (m, x)) := ⟨gb, cb, rfl, rfl, ho, hne, hx⟩
theorem next_is {P : List (List Int)} {L : List Int} {j N : Nat} (h : nextL L = P[j + 1]?) (hN : P.length = N) : (nextL L).isSome = decide (j + 1 < N) := by
  rw [h]
  by_cases hl : j + 1 < N
  · rw [List.getElem?_eq_getElem (by omega)]
    simp [hl]
  · rw [List.getElem?_eq_none (by omega)]
    simp [hl]
theorem next_line {P : List (List Int)} {L : List Int} {j N : Nat} (h : nextL L = P[j + 1]?) (hN : P.length = N) {Q : List Int → Prop} (hq : Q ((nextL L).getD L)) (hj : j + 1 < N) : ∃ L', P[j + 1]? = some L' ∧ Q L' := by
  have h2 : P[j + 1]? = some (P[j + 1]'(by omega)) := List.getElem?_eq_getElem _
  refine ⟨_, h2, ?_⟩
  rw [h, h2] at hq
  exact hq
theorem own_form {base : Nat} {w : World} {v : Value} {l : List Int} (h : Own iv 1 3 base w v l) (hl : 0 < l.length) : ∃ g cap, v = .slice (some ⟨g, 0, none⟩) l.length cap ∧ base ≤ g := by
  rcases h.2 with ⟨e, e0⟩ | ⟨g, cap, cur, e, hb, _⟩
  · omega
  · exact ⟨g, cap, e, hb⟩
theorem better_keep {s : Nat → Nat} {m : List Int} {y q : Nat} {L : List Int} (hq : q ≤ L.length) (h : y ≤ (lineAt s L q).1) : better s (some (m, y)) L = some (m, y) := by
  have := lineAt_mono2 s L hq
  unfold better
  simp only []
  rw [if_neg (by show ¬ costL s L < y; unfold costL; omega)]
/-- What Line leaves. -/
def RetLine (w : World) (p : List Int × Int × Int) (e : Ending) (w' : World) : Prop := ∃ A n cap, e = .returned (.tuple #[.slice A n cap, .int .i64 p.2.1, .int .i64 p.2.2]) ∧ IntsAt w' 0 ⟨A, n, cap⟩ p.1 ∧ Below w.heap.size w w'

set_option maxRecDepth 100000 in
set_option maxHeartbeats 1000000 in
theorem Line_any (A : Option Addr) (n cap : Nat) (l : List PT) (w : World) (h : TabsAt w 0 A n l) :
    Calls Tryz.prog 18 #[.slice A n cap] w (RetLine w (lineT l)) := by
  have HL : Hid (l.length = n) := h.len
  have Q1 := Lib.hid (sizesOf_any2 A n cap l w h)
  have hle := h.le
  clear h
  by_cases hE : joinsE l = 0
  · have HE := Lib.hid hE
    obtain ⟨hg, -⟩ := joinsE_ok hE
    have hlen := given_len hg
    rw [HL.out] at hlen
    have hP := perms_all hlen.1 hlen.2
    have HR : Hid (lineT l = ((lineB (sizeFn l) n).1, (((lineB (sizeFn l) n).2 : Nat) : Int), 0)) := by show _ = _; unfold lineT; rw [if_pos hE, HL.out]
    have hpn := pw5 hlen.2
    obtain ⟨hlen1, hlen5⟩ := hlen
    have HP := Lib.hid hP
    clear hg hP
    go_enter Tryz.func18, Tryz.ntmps18
    go_wp2_with fail
    go_step3
    go_wp2_with fail
    (with_reducible refine Q1.out.mono ?_)
    rintro e w1 ⟨S, rfl, hSl, hSok, hb1⟩
    obtain ⟨hs5, hsS⟩ := hSok hE
    obtain ⟨q1, q2⟩ := setRow_at (new_block w1 (intsV (List.replicate 32 0)) 95) (intsV S)
    have hb2 : Below w1.heap.size w1 ((w1.alloc (.cells (intsV (List.replicate 32 0)) 95)).setRow w1.heap.size (intsV S)) := below_row (below_new w1 _) q2 (fun j e => by cases e; exact Nat.le_refl _)
    obtain ⟨W2, hW2⟩ : ∃ W2, (w1.alloc (.cells (intsV (List.replicate 32 0)) 95)).setRow w1.heap.size (intsV S) = W2 := ⟨_, rfl⟩
    rw [hW2] at q1 hb2
    have HB2 := Lib.hid (bchain hb1 hb2)
    have HQ1 := Lib.hid q1
    have HW2 := Lib.hid hW2
    have HS5 := Lib.hid hs5
    have HSS := Lib.hid hsS
    have hwsz := HB2.out.size
    rw [hE]
    obtain ⟨i0, hi, hzz0, hzz1, hzz2⟩ := info_parts infoInt
    clear hb1 hSok hs5 hsS q1 q2 hb2 hW2 Q1 hE
    go_wp2_with (first
      | (refine wpList_store_row rfl 95 _ _ rfl w1.heap.size (intsV S) rfl rfl 95 (intsV (List.replicate 32 0)) (new_block w1 (intsV (List.replicate 32 0)) 95) (by rw [intsV_size, hSl]; kernel_rfl) (by rw [intsV_size, intsV_size, hSl, List.length_replicate]) (intsV_one _) ?_; change wpList _ _ _ _ _ ((w1.alloc (.cells (intsV (List.replicate 32 0)) 95)).setRow w1.heap.size (intsV S)); rw [HW2.out])
      | (at_make; refine wpList_make_full _ rfl _ _ _ rfl w.heap.size 3 i0 _ 1 Tryz.underlying32 hi hzz0 hzz1 .i64 .i64 _ _ n rfl rfl rfl rfl (by rw [hzz2]; omega) (by unfold maxLen; omega) hwsz ?_; intro w3 hown3 hg3))
    obtain ⟨gl, hgl⟩ : ∃ gl, W2.heap.size = gl := ⟨_, rfl⟩
    have ho3 : Own iv 1 3 w.heap.size w3 (.slice (some ⟨W2.heap.size, 0, none⟩) n n) (iotaTo n 0) := by
      rw [iotaTo_zero]
      unfold Own
      rw [List.length_replicate]
      have e : (List.replicate n (0 : Int)).flatMap iv = (madeCells (Value.int .i64 0).cells (n * 1)).toList := by
        have h1 : (Value.int .i64 0).cells = #[.int .i64 0] := rfl
        rw [h1, Nat.mul_one, toList_madeCells_one]
        exact zeros_flat n
      rw [e]
      exact hown3
    have hb3 : Below W2.heap.size W2 w3 := ⟨hg3.os, hg3.tape, hg3.output, hg3.size, fun i hi => hg3.block i hi (by simp)⟩
    have HQ3 := Lib.hid ((hb3.block _ (Array.getElem?_eq_some_iff.1 HQ1.out).1).trans HQ1.out)
    have HB3 := Lib.hid (bchain HB2.out hb3)
    have hg5l : w1.heap.size < W2.heap.size := (Array.getElem?_eq_some_iff.1 HQ1.out).1
    rw [hgl] at ho3 hg5l hwsz ⊢
    have HO3 := Lib.hid ho3
    clear hown3 hg3 hgl ho3 hb3
    go_loopw [29] (fun i wr => ∃ k : Nat, k ≤ n ∧ i = .int .i64 k ∧ Own iv 1 3 w.heap.size wr (.slice (some ⟨gl, 0, none⟩) n n) (iotaTo n k) ∧ Below w.heap.size w wr ∧ wr.heap[w1.heap.size]? = some (.cells (intsV S) 95)) (fun i _ => n - (intOf i).toNat)
    case atStart => exact ⟨0, by omega, rfl, HO3.out, HB3.out, HQ3.out⟩
    case round =>
      obtain ⟨k, hk, rfl, ho, hB, hS⟩ := hrel
      have HO := Lib.hid ho
      have HB := Lib.hid hB
      have HSB := Lib.hid hS
      obtain ⟨wo, rfl⟩ : ∃ x, x = wr := ⟨_, rfl⟩
      clear HO3 HB3 HQ3
      by_cases hlt : k < n
      · obtain ⟨g', x, e, -, -, -, hx, hc, hf⟩ := Own.at_ iv_length ho (i := k) (by rw [iotaTo_length]; exact hlt)
        cases e
        have c0 := hc 0 _ rfl
        simp only [Nat.mul_one, Nat.add_zero] at c0
        have f0 := hf k
        obtain ⟨q1, q2⟩ := Own.set1 iv_length ho (i := k) (by rw [iotaTo_length]; exact hlt) (y := (k : Int)) (u := .int .i64 (k : Int)) rfl
        rw [← iotaTo_succ n k hlt] at q1
        have HQ1 := Lib.hid q1
        have HQ2 := Lib.hid (hB.grown q2 hB.size (fun j e => by cases e; omega))
        have HQ4 := Lib.hid ((q2.block _ (Array.getElem?_eq_some_iff.1 hS).1 (fun e => by have := Option.some.inj e; omega)).trans hS)
        have hi1 : (k : Int) < n := by omega
        clear ho hB hS hx hc hf q1 q2
        go_wp2_with fail
        exact ⟨⟨k + 1, by omega, by go_num, HQ1.out, HQ2.out, HQ4.out⟩, by simp [intOf]; omega⟩
      · have hk' : k = n := by omega
        rw [hk'] at ho ⊢
        rw [iotaTo_all] at ho
        have HO := Lib.hid ho
        have hN := HP.out.pos
        obtain ⟨N, hNe⟩ : ∃ N, (permsN n).length = N := ⟨_, rfl⟩
        have HNE := Lib.hid hNe
        rw [hNe] at hN
        have d1 : decide ((n : Int) < (n : Int)) = false := by rw [decide_eq_false_iff_not]; omega
        clear ho hB hS hlt hNe hk'
        go_wp2_with fail
        go_step3
        go_wp2_with fail
        clear d1
        go_loopg [9, 10, 11] N (fun gg b c d wr => ∃ j : Nat, j ≤ N ∧ gg = N - j ∧ d = .bool (decide (j < N)) ∧ BestAt w.heap.size gl n wr b c (bestL (sizeFn l) ((permsN n).take j)) ∧ (j < N → ∃ L, (permsN n)[j]? = some L ∧ Own iv 1 3 w.heap.size wr (.slice (some ⟨gl, 0, none⟩) n n) L) ∧ Below w.heap.size w wr ∧ wr.heap[w1.heap.size]? = some (.cells (intsV S) 95))
        case atStart => exact ⟨0, by omega, rfl, by rw [decide_eq_true hN], ⟨rfl, rfl⟩, fun _ => ⟨_, HP.out.first, HO.out⟩, HB.out, HSB.out⟩
        case round =>
          clear HO HB HSB
          obtain ⟨j, hj, hgg, rfl, hbest, hline, hB, hS⟩ := hrel
          by_cases hjN : j < N
          · obtain ⟨L, hL, ho⟩ := hline hjN
            have hLlen := HP.out.len L (List.mem_of_getElem? hL)
            have hLmem := HP.out.mem L (List.mem_of_getElem? hL)
            have HBS := Lib.hid (bestL_succ (sizeFn l) hL)
            have HNX := Lib.hid (HP.out.next j L hL)
            have dj : decide (j < N) = true := decide_eq_true hjN
            rw [dj]
            have HB := Lib.hid hB
            have HSB := Lib.hid hS
            have HO := Lib.hid ho
            have HBE := Lib.hid hbest
            have HGG := Lib.hid hgg
            have HLM := Lib.hid hLmem
            have HLL := Lib.hid hLlen
            obtain ⟨wo, rfl⟩ : ∃ x, x = wr := ⟨_, rfl⟩
            clear hline hB hS ho hL hgg hbest dj hLmem hLlen
            go_wp2_with fail
            obtain ⟨bst, hbst⟩ : ∃ b, bestL (sizeFn l) ((permsN n).take j) = b := ⟨_, rfl⟩
            rw [hbst] at HBS HBE
            clear hbst
            have hneq := fun a l c w => run_neq_slice_nil (P := Tryz.prog) w 32 3 a l c Tryz.underlying32
            cases bst with
            | none =>
              obtain ⟨rfl, rfl⟩ := HBE.out
              clear HBE
              go_loopw [12, 13, 42] (fun c x i wr => ∃ q : Nat, q ≤ n ∧ i = .int .i64 q ∧ c = .int .i64 ((lineAt (sizeFn l) L q).1 : Nat) ∧ x = .int .i64 ((lineAt (sizeFn l) L q).2 : Nat) ∧ wr = wo) (fun _ _ i _ => n - (intOf i).toNat)
              case atStart => exact ⟨0, by omega, rfl, rfl, rfl, rfl⟩
              case round =>
                obtain ⟨q, hq, rfl, rfl, rfl, rfl⟩ := hrel
                have hc500 := lineAt_le HS5.out L q
                have hx := lineAt_lt (s := sizeFn l) HLM.out q (by rw [HLL.out]; omega)
                by_cases hlt2 : q < n
                · have ho2 := HO.out
                  rw [← HLL.out] at ho2
                  have ho3 : Own iv 1 3 w.heap.size wr (.slice (some ⟨gl, 0, none⟩) L.length n) L := by rw [HLL.out]; exact HO.out
                  obtain ⟨c0, f0⟩ := own_item ho3 (i := q) (by rw [HLL.out]; exact hlt2)
                  obtain ⟨tn, htn⟩ : ∃ tn : Nat, itemI L q = (tn : Int) := ⟨(itemI L q).toNat, by have := HLM.out _ (itemI_mem (l := L) (j := q) (by rw [HLL.out]; exact hlt2)); omega⟩
                  have htn5 : tn < n := by have := HLM.out _ (itemI_mem (l := L) (j := q) (by rw [HLL.out]; exact hlt2)); omega
                  have hx2 := lineAt_lt (s := sizeFn l) HLM.out (q + 1) (by rw [HLL.out]; omega)
                  have hsl : IntKind.i64.wrap (2 ^ tn) = ((pw tn : Nat) : Int) := shl_nat (by omega)
                  have ht0 : (0 : Int) ≤ tn := by omega
                  have ht64 : (tn : Int) ≤ 64 := by omega
                  have hpt : pw tn ≤ 32 := pw5 (by omega)
                  have hq1 : (q : Int) < n := by omega
                  have hla : lineAt (sizeFn l) L (q + 1) = (if q = 0 then (lineAt (sizeFn l) L q).1 else (lineAt (sizeFn l) L q).1 + sizeFn l ((lineAt (sizeFn l) L q).2 ||| pw tn), (lineAt (sizeFn l) L q).2 ||| pw tn) := by rw [lineAt, htn]; rfl
                  rw [htn] at c0
                  rw [hla] at hx2
                  have HLA := Lib.hid hla
                  have hbor := bor_nat (a := (lineAt (sizeFn l) L q).2) (b := pw tn) (by omega) (by omega)
                  generalize (lineAt (sizeFn l) L q).1 = cq at *
                  generalize (lineAt (sizeFn l) L q).2 = xq at *
                  generalize hxx : xq ||| pw tn = x2 at *
                  simp only [] at hx2
                  have cs := cell_at_block (off := x2) HSB.out (sizes_cell HSS.out (x := x2) (by omega))
                  have hs5 := HS5.out x2
                  have hx32 : (x2 : Int) < 32 := by omega
                  have hx0 : (0 : Int) ≤ x2 := by omega
                  clear ho2 ho3 htn hla f0 hxx
                  by_cases hq0 : q = 0
                  · subst hq0
                    have HC : Hid (lineAt (sizeFn l) L (0 + 1) = (cq, x2)) := by show _ = _; rw [HLA.out, if_pos rfl]
                    clear HLA
                    go_wp2_with fail
                    exact ⟨⟨0 + 1, by omega, by go_num, by rw [HC.out] <;> simp, by rw [HC.out], by first | rfl | trivial⟩, by simp [intOf]; omega⟩
                  · have HC : Hid (lineAt (sizeFn l) L (q + 1) = (cq + sizeFn l x2, x2)) := by show _ = _; rw [HLA.out, if_neg hq0]
                    have dq : decide ((0 : Int) < (q : Int)) = true := by rw [decide_eq_true_eq]; omega
                    have dq' : decide (0 < q) = true := by rw [decide_eq_true_eq]; omega
                    have hq5 : q ≤ 4 := by omega
                    have hw : IntKind.i64.wrap ((cq : Int) + (sizeFn l x2 : Nat)) = ((cq + sizeFn l x2 : Nat) : Int) := by rw [IntWalk.i64_in _ (by omega)]; omega
                    clear HLA
                    go_wp2_with fail
                    exact ⟨⟨q + 1, by omega, by go_num, by rw [HC.out] <;> simp, by rw [HC.out], by first | rfl | trivial⟩, by simp [intOf]; omega⟩
                · have hqn : q = n := by omega
                  have HCO : Hid ((lineAt (sizeFn l) L q).1 = costL (sizeFn l) L) := by show _ = _; unfold costL; rw [HLL.out, hqn]
                  have HBT : Hid (better (sizeFn l) none L = some (L, costL (sizeFn l) L)) := rfl
                  rw [HCO.out] at hc500 ⊢
                  generalize (lineAt (sizeFn l) L q).2 = xq at *
                  generalize costL (sizeFn l) L = cq at *
                  have hcl : cq ≤ 2500 := by omega
                  have QC := Lib.hid (CloneI_any (some ⟨gl, 0, none⟩) n n L wr ((HO.out.rdN iv_length).low (Nat.zero_le _)) (by omega))
                  have d1 : decide ((q : Int) < (n : Int)) = false := by rw [decide_eq_false_iff_not]; omega
                  have d2 : decide (q < n) = false := by rw [decide_eq_false_iff_not]; omega
                  clear hlt2 HCO
                  go_wp2_with fail
                  (with_reducible refine QC.out.mono ?_)
                  rintro e w7 ⟨v7, rfl, ho7, hb7⟩
                  obtain ⟨gb7, cb7, rfl, hgb7⟩ := own_form ho7 (by rw [HLL.out]; omega)
                  rw [HLL.out] at ho7 ⊢
                  have HO7 := Lib.hid ho7
                  have HB7 := Lib.hid (bchain HB.out hb7)
                  have HS7 := Lib.hid ((hb7.block _ (Array.getElem?_eq_some_iff.1 HSB.out).1).trans HSB.out)
                  have HL7 := Lib.hid (HO.out.below hb7)
                  have hgl7 : gb7 ≠ gl := by have h9 : gl < wr.heap.size := (HO.out.blk gl rfl).2; omega
                  have hbz := HB.out.size
                  have hgb7' : w.heap.size ≤ gb7 := by omega
                  clear ho7 hb7 QC d1 d2
                  have QN := Lib.hid (next_any w.heap.size gl n L w7 (by rw [HLL.out]; exact HL7.out) (by rw [HLL.out]; exact hlen1) (by rw [HLL.out]; omega))
                  rw [HLL.out] at QN
                  go_wp2_with fail
                  (with_reducible refine QN.out.mono ?_)
                  rintro e w8 ⟨rfl, ho8, hg8⟩
                  have HO8 := Lib.hid ho8
                  have HG8 := Lib.hid hg8
                  have hnx := next_is HNX.out HNE.out
                  rw [hnx]
                  clear ho8 hg8 hnx QN
                  go_wp2_with fail
                  go_roundg (N - (j + 1))
                  case measure => have := HGG.out; omega
                  case rel =>
                    refine ⟨j + 1, by omega, rfl, rfl, ?_, fun hj2 => next_line HNX.out HNE.out HO8.out hj2, HB7.out.grown HG8.out HB7.out.size (fun j e => by cases e; omega), ?_⟩
                    · rw [HBS.out]
                      exact (by rw [HBT.out]; exact BestAt.grown (BestAt.mk (HO7.out.low (by omega)) hgl7 hcl) HG8.out)
                    · exact (HG8.out.block _ (Array.getElem?_eq_some_iff.1 HS7.out).1 (fun e => by have := Option.some.inj e; omega)).trans HS7.out
            | some p =>
              obtain ⟨m, y⟩ := p
              obtain ⟨gb, cb, rfl, rfl, hbo, hbne, hy25⟩ := HBE.out
              have HBO := Lib.hid hbo
              clear hbo HBE
              go_loopw [12, 13, 42] (fun c x i wr => ∃ q : Nat, q ≤ n ∧ i = .int .i64 q ∧ c = .int .i64 ((lineAt (sizeFn l) L q).1 : Nat) ∧ x = .int .i64 ((lineAt (sizeFn l) L q).2 : Nat) ∧ wr = wo ∧ (0 < q → (lineAt (sizeFn l) L q).1 < y)) (fun _ _ i _ => n - (intOf i).toNat)
              case atStart => exact ⟨0, by omega, rfl, rfl, rfl, rfl, fun h => absurd h (by omega)⟩
              case round =>
                obtain ⟨q, hq, rfl, rfl, rfl, rfl, hcy⟩ := hrel
                have hc500 := lineAt_le HS5.out L q
                have hx := lineAt_lt (s := sizeFn l) HLM.out q (by rw [HLL.out]; omega)
                by_cases hlt2 : q < n
                · have ho2 := HO.out
                  rw [← HLL.out] at ho2
                  have ho3 : Own iv 1 3 w.heap.size wr (.slice (some ⟨gl, 0, none⟩) L.length n) L := by rw [HLL.out]; exact HO.out
                  obtain ⟨c0, f0⟩ := own_item ho3 (i := q) (by rw [HLL.out]; exact hlt2)
                  obtain ⟨tn, htn⟩ : ∃ tn : Nat, itemI L q = (tn : Int) := ⟨(itemI L q).toNat, by have := HLM.out _ (itemI_mem (l := L) (j := q) (by rw [HLL.out]; exact hlt2)); omega⟩
                  have htn5 : tn < n := by have := HLM.out _ (itemI_mem (l := L) (j := q) (by rw [HLL.out]; exact hlt2)); omega
                  have hx2 := lineAt_lt (s := sizeFn l) HLM.out (q + 1) (by rw [HLL.out]; omega)
                  have hsl : IntKind.i64.wrap (2 ^ tn) = ((pw tn : Nat) : Int) := shl_nat (by omega)
                  have ht0 : (0 : Int) ≤ tn := by omega
                  have ht64 : (tn : Int) ≤ 64 := by omega
                  have hpt : pw tn ≤ 32 := pw5 (by omega)
                  have hq1 : (q : Int) < n := by omega
                  have hla : lineAt (sizeFn l) L (q + 1) = (if q = 0 then (lineAt (sizeFn l) L q).1 else (lineAt (sizeFn l) L q).1 + sizeFn l ((lineAt (sizeFn l) L q).2 ||| pw tn), (lineAt (sizeFn l) L q).2 ||| pw tn) := by rw [lineAt, htn]; rfl
                  have hkeep := fun hh => better_keep (s := sizeFn l) (m := m) (y := y) (L := L) (q := q + 1) (by rw [HLL.out]; omega) hh
                  rw [htn] at c0
                  rw [hla] at hx2 hkeep
                  have HLA := Lib.hid hla
                  have hbor := bor_nat (a := (lineAt (sizeFn l) L q).2) (b := pw tn) (by omega) (by omega)
                  generalize (lineAt (sizeFn l) L q).1 = cq at *
                  generalize (lineAt (sizeFn l) L q).2 = xq at *
                  generalize hxx : xq ||| pw tn = x2 at *
                  simp only [] at hx2
                  have cs := cell_at_block (off := x2) HSB.out (sizes_cell HSS.out (x := x2) (by omega))
                  have hs5 := HS5.out x2
                  have hx32 : (x2 : Int) < 32 := by omega
                  have hx0 : (0 : Int) ≤ x2 := by omega
                  clear ho2 ho3 htn hla f0 hxx
                  by_cases hq0 : q = 0
                  · subst hq0
                    have HC : Hid (lineAt (sizeFn l) L (0 + 1) = (cq, x2)) := by show _ = _; rw [HLA.out, if_pos rfl]
                    rw [if_pos rfl] at hkeep
                    simp only [] at hkeep
                    clear HLA
                    by_cases hcy2 : y ≤ cq
                    · have HK := Lib.hid (hkeep hcy2)
                      have dy : decide ((y : Int) ≤ (cq : Int)) = true := by rw [decide_eq_true_eq]; omega
                      have dy' : decide (y ≤ cq) = true := by rw [decide_eq_true_eq]; omega
                      clear hkeep hcy hcy2
                      have QN := Lib.hid (next_any w.heap.size gl n L wr (by rw [HLL.out]; exact HO.out) (by rw [HLL.out]; exact hlen1) (by rw [HLL.out]; omega))
                      rw [HLL.out] at QN
                      go_wp2_with fail
                      (with_reducible refine QN.out.mono ?_)
                      rintro e w8 ⟨rfl, ho8, hg8⟩
                      have HO8 := Lib.hid ho8
                      have HG8 := Lib.hid hg8
                      have hnx := next_is HNX.out HNE.out
                      rw [hnx]
                      clear ho8 hg8 hnx QN
                      go_wp2_with fail
                      go_roundg (N - (j + 1))
                      case measure => have := HGG.out; omega
                      case rel =>
                        refine ⟨j + 1, by omega, rfl, rfl, ?_, fun hj2 => next_line HNX.out HNE.out HO8.out hj2, HB.out.grown HG8.out HB.out.size (fun j e => by cases e; omega), ?_⟩
                        · rw [HBS.out]
                          exact (by rw [HK.out]; exact BestAt.grown (BestAt.mk HBO.out hbne hy25) HG8.out)
                        · exact (HG8.out.block _ (Array.getElem?_eq_some_iff.1 HSB.out).1 (fun e => by have := Option.some.inj e; omega)).trans HSB.out
                    · have dy : decide ((y : Int) ≤ (cq : Int)) = false := by rw [decide_eq_false_iff_not]; omega
                      have dy' : decide (y ≤ cq) = false := by rw [decide_eq_false_iff_not]; omega
                      have hlt3 : cq < y := by omega
                      clear hkeep hcy hcy2
                      go_wp2_with fail
                      exact ⟨⟨0 + 1, by omega, by go_num, by rw [HC.out] <;> simp, by rw [HC.out], by first | rfl | trivial, fun _ => by rw [HC.out]; exact hlt3⟩, by simp [intOf]; omega⟩
                  · have HC : Hid (lineAt (sizeFn l) L (q + 1) = (cq + sizeFn l x2, x2)) := by show _ = _; rw [HLA.out, if_neg hq0]
                    have dq : decide ((0 : Int) < (q : Int)) = true := by rw [decide_eq_true_eq]; omega
                    have dq' : decide (0 < q) = true := by rw [decide_eq_true_eq]; omega
                    have hq5 : q ≤ 4 := by omega
                    have hw : IntKind.i64.wrap ((cq : Int) + (sizeFn l x2 : Nat)) = ((cq + sizeFn l x2 : Nat) : Int) := by rw [IntWalk.i64_in _ (by omega)]; omega
                    rw [if_neg hq0] at hkeep
                    simp only [] at hkeep
                    clear HLA
                    by_cases hcy2 : y ≤ cq + sizeFn l x2
                    · have HK := Lib.hid (hkeep hcy2)
                      have dy : decide ((y : Int) ≤ (cq : Int) + ((sizeFn l x2 : Nat) : Int)) = true := by rw [decide_eq_true_eq]; omega
                      have dy' : decide (y ≤ cq + sizeFn l x2) = true := by rw [decide_eq_true_eq]; omega
                      clear hkeep hcy hcy2
                      have QN := Lib.hid (next_any w.heap.size gl n L wr (by rw [HLL.out]; exact HO.out) (by rw [HLL.out]; exact hlen1) (by rw [HLL.out]; omega))
                      rw [HLL.out] at QN
                      go_wp2_with fail
                      (with_reducible refine QN.out.mono ?_)
                      rintro e w8 ⟨rfl, ho8, hg8⟩
                      have HO8 := Lib.hid ho8
                      have HG8 := Lib.hid hg8
                      have hnx := next_is HNX.out HNE.out
                      rw [hnx]
                      clear ho8 hg8 hnx QN
                      go_wp2_with fail
                      go_roundg (N - (j + 1))
                      case measure => have := HGG.out; omega
                      case rel =>
                        refine ⟨j + 1, by omega, rfl, rfl, ?_, fun hj2 => next_line HNX.out HNE.out HO8.out hj2, HB.out.grown HG8.out HB.out.size (fun j e => by cases e; omega), ?_⟩
                        · rw [HBS.out]
                          exact (by rw [HK.out]; exact BestAt.grown (BestAt.mk HBO.out hbne hy25) HG8.out)
                        · exact (HG8.out.block _ (Array.getElem?_eq_some_iff.1 HSB.out).1 (fun e => by have := Option.some.inj e; omega)).trans HSB.out
                    · have dy : decide ((y : Int) ≤ (cq : Int) + ((sizeFn l x2 : Nat) : Int)) = false := by rw [decide_eq_false_iff_not]; omega
                      have dy' : decide (y ≤ cq + sizeFn l x2) = false := by rw [decide_eq_false_iff_not]; omega
                      have hlt3 : cq + sizeFn l x2 < y := by omega
                      clear hkeep hcy hcy2
                      go_wp2_with fail
                      exact ⟨⟨q + 1, by omega, by go_num, by rw [HC.out] <;> simp, by rw [HC.out], by first | rfl | trivial, fun _ => by rw [HC.out]; exact hlt3⟩, by simp [intOf]; omega⟩
                · have hqn : q = n := by omega
                  have HCO : Hid ((lineAt (sizeFn l) L q).1 = costL (sizeFn l) L) := by show _ = _; unfold costL; rw [HLL.out, hqn]
                  have HBT : Hid (better (sizeFn l) (some (m, y)) L = some (L, costL (sizeFn l) L)) := by show _ = _; unfold better; simp only []; rw [if_pos (by have := hcy (by omega); rw [HCO.out] at this; exact this)]
                  rw [HCO.out] at hc500 ⊢
                  generalize (lineAt (sizeFn l) L q).2 = xq at *
                  generalize costL (sizeFn l) L = cq at *
                  have hcl : cq ≤ 2500 := by omega
                  have QC := Lib.hid (CloneI_any (some ⟨gl, 0, none⟩) n n L wr ((HO.out.rdN iv_length).low (Nat.zero_le _)) (by omega))
                  have d1 : decide ((q : Int) < (n : Int)) = false := by rw [decide_eq_false_iff_not]; omega
                  have d2 : decide (q < n) = false := by rw [decide_eq_false_iff_not]; omega
                  clear hlt2 HCO
                  go_wp2_with fail
                  (with_reducible refine QC.out.mono ?_)
                  rintro e w7 ⟨v7, rfl, ho7, hb7⟩
                  obtain ⟨gb7, cb7, rfl, hgb7⟩ := own_form ho7 (by rw [HLL.out]; omega)
                  rw [HLL.out] at ho7 ⊢
                  have HO7 := Lib.hid ho7
                  have HB7 := Lib.hid (bchain HB.out hb7)
                  have HS7 := Lib.hid ((hb7.block _ (Array.getElem?_eq_some_iff.1 HSB.out).1).trans HSB.out)
                  have HL7 := Lib.hid (HO.out.below hb7)
                  have hgl7 : gb7 ≠ gl := by have h9 : gl < wr.heap.size := (HO.out.blk gl rfl).2; omega
                  have hbz := HB.out.size
                  have hgb7' : w.heap.size ≤ gb7 := by omega
                  clear ho7 hb7 QC d1 d2
                  have QN := Lib.hid (next_any w.heap.size gl n L w7 (by rw [HLL.out]; exact HL7.out) (by rw [HLL.out]; exact hlen1) (by rw [HLL.out]; omega))
                  rw [HLL.out] at QN
                  go_wp2_with fail
                  (with_reducible refine QN.out.mono ?_)
                  rintro e w8 ⟨rfl, ho8, hg8⟩
                  have HO8 := Lib.hid ho8
                  have HG8 := Lib.hid hg8
                  have hnx := next_is HNX.out HNE.out
                  rw [hnx]
                  clear ho8 hg8 hnx QN
                  go_wp2_with fail
                  go_roundg (N - (j + 1))
                  case measure => have := HGG.out; omega
                  case rel =>
                    refine ⟨j + 1, by omega, rfl, rfl, ?_, fun hj2 => next_line HNX.out HNE.out HO8.out hj2, HB7.out.grown HG8.out HB7.out.size (fun j e => by cases e; omega), ?_⟩
                    · rw [HBS.out]
                      exact (by rw [HBT.out]; exact BestAt.grown (BestAt.mk (HO7.out.low (by omega)) hgl7 hcl) HG8.out)
                    · exact (HG8.out.block _ (Array.getElem?_eq_some_iff.1 HS7.out).1 (fun e => by have := Option.some.inj e; omega)).trans HS7.out
          · have hjN' : j = N := by omega
            have hfull : (permsN n).take j = permsN n := List.take_of_length_le (by rw [HNE.out]; omega)
            obtain ⟨m, y, hmy⟩ := bestL_some (sizeFn l) HP.out.pos
            rw [hfull, hmy] at hbest
            obtain ⟨gb, cb, rfl, rfl, hbo, -, -⟩ := hbest
            have HLB : Hid (lineB (sizeFn l) n = (m, y)) := by show _ = _; unfold lineB; rw [hmy]; rfl
            have hlen' : n = m.length := hbo.len
            have HBO := Lib.hid (hbo.rdN iv_length)
            have HB := Lib.hid hB
            have dj : decide (j < N) = false := decide_eq_false hjN
            rw [dj]
            clear hjN hjN' hfull hmy hbo hline hB hS hgg hlen' dj
            go_wp2_with fail
            rw [Exit.noGoto_ret]
            go_ret3
            rw [HR.out, HLB.out]
            exact ⟨_, _, _, rfl, HBO.out.low (Nat.zero_le _), HB.out⟩
  · have HR : Hid (lineT l = ([], 0, joinsE l)) := by show _ = _; unfold lineT; rw [if_neg hE]
    have hE1 : (joinsE l != 0) = true := by simpa using hE
    go_enter Tryz.func18, Tryz.ntmps18
    go_wp2_with fail
    go_step3
    go_wp2_with fail
    (with_reducible refine Q1.out.mono ?_)
    rintro e w1 ⟨S, rfl, hSl, -, hb1⟩
    have hb2 := below_row (below_new w1 _) (setRow_at (new_block w1 (intsV (List.replicate 32 0)) 95) (intsV S)).2 (fun j e => by cases e; exact Nat.le_refl _)
    have HB2 := Lib.hid (bchain hb1 hb2)
    clear hb1 hb2 Q1
    go_wp2_with (refine wpList_store_row rfl 95 _ _ rfl w1.heap.size (intsV S) rfl rfl 95 (intsV (List.replicate 32 0)) (new_block w1 (intsV (List.replicate 32 0)) 95) (by rw [intsV_size, hSl]; kernel_rfl) (by rw [intsV_size, intsV_size, hSl, List.length_replicate]) (intsV_one _) ?_)
    rw [Exit.noGoto_ret]
    go_ret3
    rw [HR.out]
    exact ⟨none, 0, 0, rfl, Rd.nil _ _ _, HB2.out⟩
end Go.Proofs.Bg
end

section
/- Contract: ref SameTree. -/
namespace Go.Proofs.Bg
open Go.RowKit

set_option maxRecDepth 100000 in
set_option maxHeartbeats 4000000 in
theorem SameTree_any {w : World} {t : Tr} {T : PTr} (h : TreeAt w 0 t T) : ∀ (u : Tr) (U : PTr), TreeAt w 0 u U → ∀ W, Below w.heap.size w W →
    Calls Tryz.prog 17 #[.agg #[.int .i64 t.table, .slice t.kids.A t.kids.n t.kids.cap], .agg #[.int .i64 u.table, .slice u.kids.A u.kids.n u.kids.cap]] W fun e w' => (∃ b : Bool, e = .returned (.bool b) ∧ (b = true ↔ T = U)) ∧ Below W.heap.size W w' := by
  induction h with
  | mk t kids ks h hl hk ih =>
    intro u U hu W hW
    cases hu with
    | mk _ kids2 ks2 h2 hl2 hk2 =>
      obtain ⟨tb, kA, kn, kc⟩ := t
      obtain ⟨ub, uA, un, uc⟩ := u
      have HH := Lib.hid (h.below hW)
      have HH2 := Lib.hid (h2.below hW)
      have hkn : kids.length = kn := by rw [← hl]; exact h.len
      have hun : kids2.length = un := by rw [← hl2]; exact h2.len
      have hle := h.le
      have hle2 := h2.le
      simp only [] at hle hle2 HH HH2
      have hb0 : Below W.heap.size W ((W.alloc (.cells #[.int .i64 tb, .slice kA kn kc] 25)).alloc (.cells #[.int .i64 ub, .slice uA un uc] 25)) := (below_new W _).alloc (by simp) _
      have hn1 : ((W.alloc (.cells #[.int .i64 tb, .slice kA kn kc] 25)).alloc (.cells #[.int .i64 ub, .slice uA un uc] 25)).heap[W.heap.size]? = some (.cells #[.int .i64 tb, .slice kA kn kc] 25) := by
        rw [Below.heap_alloc _ _ _ (by simp)]
        exact new_block _ _ _
      have hn2 : ((W.alloc (.cells #[.int .i64 tb, .slice kA kn kc] 25)).alloc (.cells #[.int .i64 ub, .slice uA un uc] 25)).heap[W.heap.size + 1]? = some (.cells #[.int .i64 ub, .slice uA un uc] 25) := by
        have := new_block (W.alloc (.cells #[.int .i64 tb, .slice kA kn kc] 25)) #[.int .i64 ub, .slice uA un uc] 25
        rw [World.size_alloc] at this
        exact this
      have c0 := cell_at_block (off := 0) hn1 rfl
      have c1 := cell_at_block (off := 1) hn1 rfl
      have d0 := cell_at_block (off := 0) hn2 rfl
      have d1 := cell_at_block (off := 1) hn2 rfl
      have HB0 := Lib.hid hb0
      have HN1 := Lib.hid hn1
      have HN2 := Lib.hid hn2
      have HIH := Lib.hid ih
      have HL := Lib.hid hl
      have HL2 := Lib.hid hl2
      have HK2 := Lib.hid hk2
      have HW := Lib.hid hW
      clear h h2 hb0 hn1 hn2 ih hl hl2 hk hk2 hW
      cases htb : (tb != ub) with
      | true =>
        have HNE : Hid (¬ (PTr.mk tb kids = PTr.mk ub kids2)) := by
          show ¬ _
          intro e
          obtain ⟨e1, -⟩ := PTr.mk.inj e
          subst e1
          simp at htb
        go_enter Tryz.func17, Tryz.ntmps17
        go_wp2_with fail
        go_ret
        exact ⟨⟨false, rfl, by simp [HNE.out]⟩, HB0.out⟩
      | false =>
        cases hnm : ((kn : Int) != (un : Int)) with
        | true =>
          have HNE : Hid (¬ (PTr.mk tb kids = PTr.mk ub kids2)) := by
            show ¬ _
            intro e
            obtain ⟨-, e1⟩ := PTr.mk.inj e
            subst e1
            simp at hnm
            omega
          go_enter Tryz.func17, Tryz.ntmps17
          go_wp2_with fail
          go_ret
          exact ⟨⟨false, rfl, by simp [HNE.out]⟩, HB0.out⟩
        | false =>
          have hE : un = kn := by simp at hnm; omega
          subst hE
          have hT : tb = ub := by simpa using htb
          subst hT
          go_enter Tryz.func17, Tryz.ntmps17
          go_wp2_with fail
          obtain ⟨W2, hW2⟩ : ∃ W2, ((W.alloc (.cells #[.int .i64 tb, .slice kA un kc] 25)).alloc (.cells #[.int .i64 tb, .slice uA un uc] 25)) = W2 := ⟨_, rfl⟩
          rw [hW2] at HB0 HN1 HN2 ⊢
          clear c0 c1 d0 d1
          go_loopw [5] (fun i wr => ∃ k : Nat, k ≤ un ∧ i = .int .i64 k ∧ kids.take k = kids2.take k ∧ Below W2.heap.size W2 wr) (fun i _ => un - (intOf i).toNat)
          case atStart => exact ⟨0, by omega, rfl, by simp, Below.refl _ _⟩
          case round =>
            obtain ⟨k, hk, rfl, ht, hD⟩ := hrel
            have hm1 := (hD.block _ (Array.getElem?_eq_some_iff.1 HN1.out).1).trans HN1.out
            have hm2 := (hD.block _ (Array.getElem?_eq_some_iff.1 HN2.out).1).trans HN2.out
            have c0 := cell_at_block (off := 0) hm1 rfl
            have c1 := cell_at_block (off := 1) hm1 rfl
            have d0 := cell_at_block (off := 0) hm2 rfl
            have d1 := cell_at_block (off := 1) hm2 rfl
            have HT := Lib.hid ht
            have HD := Lib.hid hD
            have hbD := bchain HB0.out hD
            have HBD := Lib.hid hbD
            have HM1 := Lib.hid hm1
            have HM2 := Lib.hid hm2
            by_cases hlt : k < un
            · obtain ⟨b1, o1, x, rfl, -, hx, hcx⟩ := (HH.out.below hbD).at_ (k := k) hlt
              obtain ⟨b2, o2, y, rfl, -, hy, hcy⟩ := (HH2.out.below hbD).at_ (k := k) hlt
              have p0 := hcx 0 _ rfl
              have p1 := hcx 1 _ rfl
              have q0 := hcy 0 _ rfl
              have q1 := hcy 1 _ rfl
              simp only [Nat.add_zero] at p0 p1 q0 q1
              have hX : ∃ X, kids[k]? = some X := ⟨_, List.getElem?_eq_getElem (by omega)⟩
              have hY : ∃ Y, kids2[k]? = some Y := ⟨_, List.getElem?_eq_getElem (by omega)⟩
              obtain ⟨X, hX⟩ := hX
              obtain ⟨Y, hY⟩ := hY
              have Q := Lib.hid (HIH.out k x X hx hX y Y (HK2.out k y Y hy hY))
              have HX := Lib.hid hX
              have HY := Lib.hid hY
              have hi0 : (0 : Int) ≤ k := by omega
              have hi1 : (k : Int) < un := by omega
              clear ht hD hbD hm1 hm2 hx hy hcx hcy hX hY HIH HK2 HH HH2
              by_cases hz : X = Y
              · have QT := Lib.hid (fun W' (hb : Below w.heap.size w W') => (Q.out W' hb).mono (R' := fun e w' => e = .returned (.bool true) ∧ Below W'.heap.size W' w') (by rintro e w' ⟨⟨b, rfl, hbt⟩, hb⟩; exact ⟨by rw [hbt.2 hz], hb⟩))
                have HEQ := Lib.hid hz
                clear hz Q
                go_wp2_with fail
                go_region_with (go_at_call 17; (with_reducible refine (QT.out _ (HW.out.trans ((HBD.out.mono HW.out.size).drew))).mono ?_); rintro e w3 ⟨rfl, hb3⟩)
                all_goals go_wp2_with fail
                all_goals exact ⟨⟨k + 1, by omega, by go_num, by rw [List.take_add_one, List.take_add_one, HX.out, HY.out, HT.out, HEQ.out], bchain HD.out.drew hb3⟩, by simp [intOf]; omega⟩
              · have QT := Lib.hid (fun W' (hb : Below w.heap.size w W') => (Q.out W' hb).mono (R' := fun e w' => e = .returned (.bool false) ∧ Below W'.heap.size W' w') (by rintro e w' ⟨⟨b, rfl, hbt⟩, hb⟩; refine ⟨?_, hb⟩; cases b with | false => rfl | true => exact absurd (hbt.1 rfl) hz))
                have HNE : Hid (¬ (PTr.mk tb kids = PTr.mk tb kids2)) := by
                  show ¬ _
                  intro e
                  obtain ⟨-, e1⟩ := PTr.mk.inj e
                  have h1 := HX.out
                  rw [e1, HY.out] at h1
                  exact hz (Option.some.inj h1).symm
                clear hz Q
                go_wp2_with fail
                go_region_with (go_at_call 17; (with_reducible refine (QT.out _ (HW.out.trans ((HBD.out.mono HW.out.size).drew))).mono ?_); rintro e w3 ⟨rfl, hb3⟩)
                all_goals go_wp2_with fail
                all_goals go_ret
                all_goals exact ⟨⟨false, rfl, by simp [HNE.out]⟩, bchain HBD.out.drew hb3⟩
            · have hk' : k = un := by omega
              have e1 : decide ((k : Int) < (un : Int)) = false := by rw [decide_eq_false_iff_not]; omega
              have e1' : decide (k < un) = false := by rw [decide_eq_false_iff_not]; omega
              have HRS : Hid (kids = kids2) := by
                show _ = _
                rw [hk', ← hkn, List.take_length, hkn, ← hun, List.take_length] at ht
                exact ht
              clear ht hD hbD hm1 hm2
              go_wp2_with fail
              go_ret
              exact ⟨⟨true, rfl, by simp [HRS.out]⟩, HBD.out⟩
end Go.Proofs.Bg
end

section
/- The values of the chapter's examples. -/
namespace Go.Proofs.Bg
open Go.RowKit

theorem v_join : joinR ⟨[0, 1], [[1, 1], [1, 2], [2, 3]]⟩ ⟨[1, 2], [[1, 5], [2, 5], [2, 6]]⟩ = (⟨[0, 1, 2], [[1, 1, 5], [1, 2, 5], [1, 2, 6]]⟩, 0) := by decide +kernel
theorem v_cost : costR tabsL (nodeT (nodeT (leafT 0) (leafT 2)) (leafT 1)) = (12, 0) := by decide +kernel
theorem v_best : bestT tabsL = (nodeT (leafT 0) (nodeT (leafT 1) (leafT 2)), 6, 0) := by kernel_rfl
theorem v_line : lineT tabsL = ([0, 1, 2], 6, 0) := by decide +kernel
theorem v_quick : quickT tabsL = (nodeT (nodeT (leafT 0) (leafT 1)) (leafT 2), 6, 0) := by kernel_rfl
theorem v_reduce : reduceR tabsL = ([⟨[0, 1], [[1, 1], [1, 2]]⟩, ⟨[1, 2], [[1, 5], [2, 5], [2, 6]]⟩, ⟨[2, 3], [[5, 0], [6, 0]]⟩], 0) := by decide +kernel
theorem v_ring1 : ringR [[0, 1], [1, 2], [2, 3]] = (false, 0) := by decide +kernel
theorem v_ring2 : ringR [[0, 1], [1, 2], [0, 2]] = (true, 0) := by decide +kernel
theorem v_keys : keysR 3 rulesL = ([[0]], 0) := by decide +kernel
theorem v_loss1 : (losslessR 3 rulesL [[0, 1], [1, 2]]).1 = true ∧ (losslessR 3 rulesL [[0, 1], [1, 2]]).2.2 = 0 := by decide +kernel
theorem v_loss2 : losslessR 3 rulesL [[0, 2], [1, 2]] = (false, ⟨[0, 1, 2], [[0, 1, 0], [2, 0, 0]]⟩, 0) := by decide +kernel
end Go.Proofs.Bg
end
