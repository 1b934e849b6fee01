/- The contract of keys at map[int]sides: all keys of the map, increasing. -/
import Derived.Test.YtcbemmlhpinjkaaGreatDoorBgOps
namespace Go.Proofs.Bg
open Go.RowKit

theorem infoInt : (Tryz.prog.info? 3).map (fun i => (i.zero, i.size, i.bytes)) = some (some (.int .i64 0), 1, 8) := by kernel_rfl
def IncrI (l : List Int) : Prop := l.Pairwise (fun x y => x < y)
theorem cmpI_swo : Go.Sort.SWO (ltOf cmpI) where
  irrefl x := by unfold ltOf cmpI; simp
  trans x y z h1 h2 := by
    unfold ltOf cmpI at *
    rw [decide_eq_true_iff] at *
    repeat' split at h1
    all_goals repeat' split at h2
    all_goals repeat' split
    all_goals omega
  ntrans x y z h1 h2 := by
    unfold ltOf cmpI at *
    rw [decide_eq_false_iff_not] at *
    repeat' split at h1
    all_goals repeat' split at h2
    all_goals repeat' split
    all_goals omega
theorem ltOf_cmpI (x y : Int) : ltOf cmpI x y = decide (x < y) := by
  unfold ltOf cmpI
  by_cases h : x < y
  · simp [h]
  · by_cases h2 : y < x <;> simp [h, h2]

open Go.Sort (grow Holds PermIn SortedIn) in
theorem incrI_of_sorted {d d' : Array Int} (hp : PermIn 0 d.size d d') (hs : SortedIn (ltOf cmpI) 0 d.size d') (hn : d.toList.Nodup) : IncrI d'.toList ∧ d'.toList.Perm d.toList := by
  obtain ⟨h1, _, h3⟩ := hp
  have hp' : d'.toList.Perm d.toList := by
    have e1 : d'.extract 0 d.size = d' := by rw [← h1]; simp
    have e2 : d.extract 0 d.size = d := by simp
    rw [e1, e2] at h3
    exact h3
  refine ⟨List.pairwise_iff_getElem.2 fun i j hi hj hij => ?_, hp'⟩
  have hi' : i < d'.size := by simpa using hi
  have hj' : j < d'.size := by simpa using hj
  have h := hs i j (Nat.zero_le _) hij (by omega)
  rw [getElem!_pos d' j hj', getElem!_pos d' i hi', ltOf_cmpI] at h
  have hne : d'[i] ≠ d'[j] := by
    intro e
    have hnn := (hp'.nodup_iff).2 hn
    have := (List.getElem_inj hnn (h₀ := hi) (h₁ := hj)).1 (by simpa using e)
    omega
  have h' : ¬ d'[j] < d'[i] := by simpa using h
  have : d'[i] < d'[j] := by omega
  simpa using this

theorem holds_of_own {w : World} {base g cap : Nat} {l : List Int} (h : Own iv 1 3 base w (.slice (some ⟨g, 0, none⟩) l.length cap) l) : Go.Sort.Holds (Value.int .i64) w g 0 l.toArray := by
  intro j hj
  have hj' : j < l.length := by simpa using hj
  have hx : l[j]? = some l[j] := List.getElem?_eq_getElem hj'
  have hf := flat_at iv_length l j _ hx 0 (.int .i64 l[j]) rfl
  have hc := World.ownsRow.cellAt h j (by first | omega | (rw [flat_length iv_length]; omega))
  have e0 : j * 1 + 0 = j := by omega
  rw [e0] at hf
  refine ⟨?_, by rw [Nat.zero_add]; exact World.ownsRow.frozenAt h j⟩
  rw [Nat.zero_add, hc, hf]
  simp [hj']
theorem rd_of_holds {w : World} {base g : Nat} {l : List Int} (h : Go.Sort.Holds (Value.int .i64) w g 0 l.toArray) (hb : base ≤ g) (hl : l.length ≤ 9223372036854775807) : Rd iv 1 w base (some ⟨g, 0, none⟩) l.length l := by
  refine ⟨rfl, hl, fun _ => ⟨g, 0, rfl, hb, fun i x hx j v hv => ?_⟩⟩
  have hi : i < l.length := (List.getElem?_eq_some_iff.1 hx).1
  have e : j = 0 ∧ v = .int .i64 x := by
    cases j with
    | zero => exact ⟨rfl, by cases hv; rfl⟩
    | succ j => cases hv
  obtain ⟨rfl, rfl⟩ := e
  have hc := (h i (by simpa using hi)).1
  have e1 : l.toArray[i]! = x := by
    have := (List.getElem?_eq_some_iff.1 hx).2
    simp [hi, this]
  rw [e1] at hc
  have e0 : 0 + i * 1 + 0 = 0 + i := by omega
  rw [e0]
  exact hc

theorem cmpE_any (a b : Int) (w : World) : Calls Tryz.prog 76 #[.int .i64 a, .int .i64 b] w fun e w' => e = .returned (.int .i64 (cmpI a b)) ∧ w = w' := by
  have HC := Lib.hid (cmpCompare_any a b w)
  generalize cmpI a b = q at HC ⊢
  go_enter Tryz.func76, Tryz.ntmps76
  go_wp2_with (go_at_call 77; (with_reducible refine HC.out.mono ?_); rintro e w' ⟨rfl, rfl⟩)
  go_ret
  exact ⟨rfl, rfl⟩

open Go.Sort (grow Holds) in
theorem sortI_any (base : Nat) (A : Option Addr) (cap : Nat) (l : List Int) (w : World) (h : Own iv 1 3 base w (.slice A l.length cap) l) (hn : l.Nodup) (hlen : l.length < 4611686018427387904) :
    Calls Tryz.prog 106 #[.slice A l.length cap, .func (.func 76) #[] #[]] w fun e w' => e = .returned (.tuple #[]) ∧ ∃ l', l'.length = l.length ∧ IncrI l' ∧ l'.Perm l ∧ Rd iv 1 w' base A l.length l' ∧ w.grownBy w' (Value.slice A l.length cap).ownBlock := by
  by_cases h0 : l = []
  · subst h0
    have hc := Tryz.slices_SortFunc_none (α := Int) A cap (.func (.func 76) #[] #[]) w
    exact hc.mono fun e w' ⟨he, hw⟩ => ⟨he, [], rfl, List.Pairwise.nil, List.Perm.refl _, Rd.nil _ _ _, by rw [hw]; exact World.grownBy.refl _ _⟩
  · have hpos : 0 < l.length := List.length_pos_iff.2 h0
    have hH := h
    rcases h.2 with ⟨_, e0⟩ | ⟨g, cap', cur, hv, hbase, hb, _⟩
    · omega
    · cases hv
      have hgl : g < w.heap.size := (Array.getElem?_eq_some_iff.1 hb).1
      have eg : ∀ args w, (callFunc 76 args).run Tryz.prog w = .ok (.enter 76 args) w := enters_of Tryz.func76 (by kernel_rfl) rfl
      have hHK := holds_of_own hH
      have hc := Tryz.slices_SortFunc (Value.int .i64) (fun _ => rfl) cmpI cmpI_swo 76 #[] g 0 cap l.toArray w eg (fun m os dk _ x y => (cmpE_any x y _).mono fun e w' ⟨he, hw⟩ => ⟨he, 0, #[], by rw [← hw, Go.Sort.grow_empty]; rfl⟩) hHK hgl (by simpa using hlen)
      simp only [List.size_toArray] at hc
      refine hc.mono ?_
      rintro e w' ⟨he, d', n, os, hp, hs, hw⟩
      have hsz : d'.size = l.length := by simpa using hp.1
      obtain ⟨hi, hpm⟩ := incrI_of_sorted (d := l.toArray) (by simpa using hp) (by simpa using hs) (by simpa using hn)
      refine ⟨he, d'.toList, by simpa using hsz, hi, by simpa using hpm, ?_, ?_⟩
      · have hk : Holds (Value.int .i64) w' g 0 d' := by
          rw [hw]
          unfold sortWorld
          refine Go.Sort.holds_grow (Value.int .i64) _ _ _ _ _ ?_ (Go.Sort.holds_putRow (Value.int .i64) _ _ _ l.toArray d' (Go.Sort.holds_ahead (Value.int .i64) _ _ _ _ _ hHK) (by simpa using hsz))
          simpa [Go.Sort.putRow, Go.Sort.mapBlock] using hgl
        have := rd_of_holds (l := d'.toList) (by simpa using hk) hbase (by simp [hsz]; omega)
        simpa [hsz] using this
      · rw [hw]
        exact grownBy_row _ _

/-- A key's two sides. -/
structure Sd where
  m : Value
  t : Value
def ekI (n : Int) : Value := .int .i64 n
def evS (s : Sd) : Value := .agg #[s.m, s.t]
theorem ekI_inj (a b : Int) (h : ekI a = ekI b) : a = b := by cases h; rfl
abbrev MapS (w : World) (r : Nat) (kv : List (Int × Sd)) : Prop := MapIs Tryz.prog 3 ekI evS w r kv
abbrev RangeS (w : World) (r it : Nat) (kv : List (Int × Sd)) (done : List Int) : Prop := RangeIs Tryz.prog 3 ekI evS w r it kv done
def KeysIRel (w : World) (r it : Nat) (kv : List (Int × Sd)) (v : Value) (done : List Int) (wr : World) : Prop :=
  RangeS wr r it kv done ∧ Own iv 1 3 w.heap.size wr v done ∧ v.ownBlock ≠ some it ∧ Below w.heap.size w wr ∧ w.heap.size ≤ it

set_option maxRecDepth 100000 in
set_option maxHeartbeats 1000000 in
theorem keysI_any (r : Nat) (kv : List (Int × Sd)) (w : World) (h : MapS w r kv) (hlen : kv.length * 24 ≤ 140737488355328) :
    Calls Tryz.prog 75 #[.map (some r), .func (.func 76) #[] #[]] w fun e w' => ∃ A cap l, e = .returned (.slice A l.length cap) ∧ IncrI l ∧ l.Perm (kv.map Prod.fst) ∧ Rd iv 1 w' w.heap.size A l.length l ∧ Below w.heap.size w w' := by
  obtain ⟨i0, hi, hz0, hz1, hz2⟩ := info_parts infoInt
  go_enter Tryz.func75, Tryz.ntmps75
  go_wp2_with (first
    | (at_len; refine wpList_len_is rfl _ _ rfl Tryz.underlying100 rfl h ?_)
    | (at_make; refine wpList_make_own w rfl _ _ _ rfl w.heap.size 3 i0 _ 1 Tryz.underlying52 hi hz0 hz1 .i64 .i64 _ kv.length rfl rfl rfl (by rw [hz2]; omega) (by unfold maxLen; omega) (Nat.le_refl _) ?_; intro w1 hown1 hg1)
    | (at_range; refine wpList_range_is rfl _ _ rfl Tryz.underlying100 rfl (h.grown hg1 (by simp)) ?_; intro w2 hrg hg2 hsz2))
  have hown2 : Own iv 1 3 w.heap.size w2 (.slice (some ⟨w.heap.size, 0, none⟩) 0 kv.length) [] := World.ownsRow.kept hown1 hg2 (.inr (by simp [Value.ownBlock]))
  have hne : (Value.slice (some ⟨w.heap.size, 0, none⟩) 0 kv.length).ownBlock ≠ some w1.heap.size := fun e => by
    have := (World.ownsRow.lt hown1 w.heap.size rfl).2
    simp [Value.ownBlock] at e
    omega
  have hB2 : Below w.heap.size w w2 := ((Below.refl _ _).grown hg1 (Nat.le_refl _) (by simp)).grown hg2 hg1.size (by simp)
  have hrel0 : KeysIRel w r w1.heap.size kv (.slice (some ⟨w.heap.size, 0, none⟩) 0 kv.length) [] w2 := ⟨hrg, hown2, hne, hB2, hg1.size⟩
  have hrl := h.lt
  generalize w1.heap.size = it at hrel0
  clear hown1 hown2 hne hB2 hrg hg1 hg2 hsz2 h
  go_frame
  go_loopw [5, 6] (fun v _ wr => ∃ done, KeysIRel w r it kv v done wr) (fun v _ _ => kv.length - lenOf v)
  case atStart => exact ⟨[], hrel0⟩
  case round =>
    clear hrel0
    obtain ⟨done, hrg, hown, hne, hB, hit⟩ := hrel
    obtain ⟨A, cap, rfl⟩ := hown.shape
    have HB := Lib.hid hB
    clear hB
    go_wp2_with (first
      | (at_next; refine wpList_next_is rfl _ rfl ekI_inj rfl hrg (fun hp => ?_) (fun key v w3 hlt hmem hrg3 hg3 hsz3 hen => ?_); rotate_left 1; (change wpList _ _ _ _ (Act.put _ _ (Value.tuple #[.bool true, .int .i64 key, .agg #[v.m, v.t]])) _; change _ = Result.ok (Value.tuple #[.int .i64 key, .agg #[v.m, v.t]]) w3 at hen; have HSZ := Lib.hid hsz3; clear hsz3))
      | (at_builtin; go_loud (refine wpList_app1 iv 1 3 _ 8 infoInt rfl (by decide) rfl _ _ _ rfl Tryz.underlying52 w.heap.size _ done rfl ((hown.grown hg3 (.inr hne)).alloc _) key _ _ rfl rfl (newAt _ _ _ _ (by simp)) (by simp [iv, Value.oneCell']) (by omega) (by unfold maxLen; omega) (by have := HB.out.size; have := HSZ.out; simp; omega) (fun v4 w4 hown4 hg4 hloc => ?_))))
    · refine ⟨⟨done ++ [key], ?_, hown4, ?_, ?_, hit⟩, ?_⟩
      · exact (hrg3.alloc _).grown hg4 (fun e => by have := (hown.blk r e.symm).1; omega) (fun e => hne e.symm)
      · rcases hloc with e | e
        · rw [e]; exact hne
        · rw [e]
          intro e2
          have := hrg3.lt
          simp at e2
          omega
      · exact ((HB.out.grown hg3 HB.out.size (fun k hk => by cases hk; exact hit)).alloc (by have := HB.out.size; have := HSZ.out; omega) _).grown hg4 (by have := HB.out.size; have := HSZ.out; simp; omega) (fun k hk => (hown.blk k hk).1)
      · obtain ⟨A4, cap4, rfl⟩ := hown4.shape
        simp [lenOf]
        omega
    · have hnd : done.Nodup := hrg.2.2.1
      have hcnt := hrg.count
      have hown' := hown
      have hc := sortI_any w.heap.size A cap done wr hown hnd (by omega)
      have HC := Lib.hid hc
      clear hrg hne hc hown
      go_wp2_with (go_at_call 106; refine HC.out.mono ?_; rintro e w5 ⟨rfl, l', hl', hi', hp', hr', hg'⟩)
      go_ret
      refine ⟨A, cap, l', by rw [hl']; rfl, hi', hp'.trans hp, by rw [hl']; exact hr', HB.out.grown hg' HB.out.size (fun k hk => (hown'.blk k hk).1)⟩
end Go.Proofs.Bg
