/- The contract of keys at map[ordered]int: all keys of the map, sorted. -/
import Derived.Test.YtcbemmlhpinjkaaGreatDoorBgPut
import Derived.Test.YtcbemmlhpinjkaaGreatDoorBgApp
import Derived.Test.YtcbemmlhpinjkaaGreatDoorBgShelf
namespace Go.Proofs.Bg
open Go.RowKit

theorem infoOrd : (Tryz.prog.info? 124).map (fun i => (i.zero, i.size, i.bytes)) = some (some (.agg #[.int .i64 0, .int .i64 0, .int .i64 0]), 3, 24) := by kernel_rfl

/-- What the loop holds: a plain word for the walk. -/
def KeysRel (w : World) (r it : Nat) (kv : List (Rc × Int)) (v : Value) (done : List Rc) (wr : World) : Prop :=
  RangeIs Tryz.prog 124 ekR evI wr r it kv done ∧ Own Rc.vs 3 124 w.heap.size wr v done ∧ v.ownBlock ≠ some it ∧ Below w.heap.size w wr ∧ w.heap.size ≤ it

open Go.Sort (grow HoldsK) in
/-- The sort of the keys that were collected: any list that the call owns. -/
theorem sortR_any (base : Nat) (A : Option Addr) (cap : Nat) (l : List Rc) (w : World) (h : Own Rc.vs 3 124 base w (.slice A l.length cap) l) (hn : l.Nodup) (hlen : l.length < 4611686018427387904) :
    Calls Tryz.prog 118 #[.slice A l.length cap, .func (.func 96) #[] #[]] w fun e w' => e = .returned (.tuple #[]) ∧ ∃ l', l'.length = l.length ∧ Incr l' ∧ l'.Perm l ∧ Rd Rc.vs 3 w' base A l.length l' ∧ w.grownBy w' (Value.slice A l.length cap).ownBlock := by
  by_cases h0 : l = []
  · subst h0
    have hc := AnyF.slices_SortFunc_none Tryz.sortOrd A cap (.func (.func 96) #[] #[]) w
    change Calls Tryz.prog 118 _ _ _ at hc
    exact hc.mono fun e w' ⟨he, hw⟩ => ⟨he, [], rfl, List.Pairwise.nil, List.Perm.refl _, Rd.nil _ _ _, by rw [hw]; exact World.grownBy.refl _ _⟩
  · have hpos : 0 < l.length := List.length_pos_iff.2 h0
    have hH := h
    rcases h.2 with ⟨_, e0⟩ | ⟨g, cap', cur, hv, hbase, hb, _⟩
    · omega
    · cases hv
      have hgl : g < w.heap.size := (Array.getElem?_eq_some_iff.1 hb).1
      have eg : ∀ args w, (callFunc 96 args).run Tryz.prog w = .ok (.enter 96 args) w := enters_of Tryz.func96 (by kernel_rfl) rfl
      have hHK : HoldsK Rc.vs 3 w g 0 l.toArray := holdsK_of_own (by omega) Rc.vs_length hH
      have hc := AnyQ.slices_SortFunc Tryz.sortOrd 3 Tryz.isAgg124 Tryz.sizeOf124 Rc.vs Rc.vs_length (fun x v hv => by simp [Rc.vs] at hv; rcases hv with rfl | rfl | rfl <;> rfl) rcmp rcmp_swo 96 #[] g 0 cap l.toArray w eg (fun _ _ _ _ x y => compare_any x y _) hHK hgl (by simpa using hlen)
      change Calls Tryz.prog 118 _ _ _ at hc
      simp only [List.size_toArray] at hc
      refine hc.mono ?_
      rintro e w' ⟨he, d', n, os, hp, hs, hw⟩
      have hsz : d'.size = l.length := by simpa using hp.1
      obtain ⟨hi, hpm⟩ := incr_of_sorted (d := l.toArray) (by simpa using hp) (by simpa using hs) (by simpa using hn)
      refine ⟨he, d'.toList, by simpa using hsz, hi, by simpa using hpm, ?_, ?_⟩
      · have hk : HoldsK Rc.vs 3 w' g 0 d' := by
          rw [hw]
          unfold sortWorldK
          refine Go.Sort.holdsK_grow Rc.vs 3 _ _ _ _ _ ?_ (Go.Sort.holdsK_putRowK Rc.vs 3 _ _ _ l.toArray d' (Go.Sort.holdsK_ahead Rc.vs 3 _ _ _ _ _ hHK) (by simpa using hsz))
          simpa [Go.Sort.putRowK] using hgl
        have := rd_of_holdsK (l := d'.toList) Rc.vs_length (by simpa using hk) hbase (by simp [hsz]; omega)
        simpa [hsz] using this
      · rw [hw]
        exact grownBy_row id _

set_option maxRecDepth 100000 in
set_option maxHeartbeats 1000000 in
theorem keysR_any (r : Nat) (kv : List (Rc × Int)) (w : World) (h : MapIs Tryz.prog 124 ekR evI w r kv) (hlen : kv.length * 24 ≤ 140737488355328) :
    Calls Tryz.prog 105 #[.map (some r), .func (.func 96) #[] #[]] w fun e w' => ∃ A cap l, e = .returned (.slice A l.length cap) ∧ Incr l ∧ l.Perm (kv.map Prod.fst) ∧ Rd Rc.vs 3 w' w.heap.size A l.length l ∧ Below w.heap.size w w' := by
  obtain ⟨i0, hi, hz0, hz1, hz2⟩ := info_parts infoOrd
  go_enter Tryz.func105, Tryz.ntmps105
  go_wp2_with (first
    | (at_len; refine wpList_len_is rfl _ _ rfl Tryz.underlying68 rfl h ?_)
    | (at_make; refine wpList_make_own w rfl _ _ _ rfl w.heap.size 124 i0 _ 3 Tryz.underlying133 hi hz0 hz1 .i64 .i64 _ kv.length rfl rfl rfl (by rw [hz2]; omega) (by unfold maxLen; omega) (Nat.le_refl _) ?_; intro w1 hown1 hg1)
    | (at_range; refine wpList_range_is rfl _ _ rfl Tryz.underlying68 rfl (h.grown hg1 (by simp)) ?_; intro w2 hrg hg2 hsz2))
  have hown2 : Own Rc.vs 3 124 w.heap.size w2 (.slice (some ⟨w.heap.size, 0, none⟩) 0 kv.length) [] := World.ownsRow.kept hown1 hg2 (.inr (by simp [Value.ownBlock]))
  have hne : (Value.slice (some ⟨w.heap.size, 0, none⟩) 0 kv.length).ownBlock ≠ some w1.heap.size := fun e => by
    have := (World.ownsRow.lt hown1 w.heap.size rfl).2
    simp [Value.ownBlock] at e
    omega
  have hB2 : Below w.heap.size w w2 := ((Below.refl _ _).grown hg1 (Nat.le_refl _) (by simp)).grown hg2 hg1.size (by simp)
  have hrel0 : KeysRel w r w1.heap.size kv (.slice (some ⟨w.heap.size, 0, none⟩) 0 kv.length) [] w2 := ⟨hrg, hown2, hne, hB2, hg1.size⟩
  have hrl := h.lt
  generalize w1.heap.size = it at hrel0
  clear hown1 hown2 hne hB2 hrg hg1 hg2 hsz2 h
  go_frame
  go_loopw [5, 6] (fun v _ wr => ∃ done, KeysRel w r it kv v done wr) (fun v _ _ => kv.length - lenOf v)
  case atStart => exact ⟨[], hrel0⟩
  case round =>
    clear hrel0
    obtain ⟨done, hrg, hown, hne, hB, hit⟩ := hrel
    obtain ⟨A, cap, rfl⟩ := hown.shape
    have HB := Lib.hid hB
    clear hB
    go_wp2_with (first
      | (at_next; refine wpList_next_is rfl _ rfl ekR_inj rfl hrg (fun hp => ?_) (fun key v w3 hlt hmem hrg3 hg3 hsz3 hen => ?_); rotate_left 1; (change wpList _ _ _ _ (Act.put _ _ (Value.tuple #[.bool true, .agg #[.int .i64 key.at_, .int .i64 key.key, .int .i64 key.val], .int .i64 v])) _; change _ = Result.ok (Value.tuple #[.agg #[.int .i64 key.at_, .int .i64 key.key, .int .i64 key.val], .int .i64 v]) w3 at hen; have HSZ := Lib.hid hsz3; clear hsz3))
      | (at_builtin; go_loud (refine wpList_app1 Rc.vs 3 124 _ 24 infoOrd rfl (by decide) rfl _ _ _ rfl Tryz.underlying133 w.heap.size _ done rfl (((hown.grown hg3 (.inr hne)).alloc _).alloc _) key _ _ rfl rfl (newAt _ _ _ _ (by simp)) (by simp [Rc.vs, Value.oneCell']) (by omega) (by unfold maxLen; omega) (by have := HB.out.size; have := HSZ.out; simp; omega) (fun v4 w4 hown4 hg4 hloc => ?_))))
    · refine ⟨⟨done ++ [key], ?_, hown4, ?_, ?_, hit⟩, ?_⟩
      · exact ((hrg3.alloc _).alloc _).grown hg4 (fun e => by have := (hown.blk r e.symm).1; omega) (fun e => hne e.symm)
      · rcases hloc with e | e
        · rw [e]; exact hne
        · rw [e]
          intro e2
          have := hrg3.lt
          simp at e2
          omega
      · exact (((HB.out.grown hg3 HB.out.size (fun k hk => by cases hk; exact hit)).alloc (by have := HB.out.size; have := HSZ.out; omega) _).alloc (by have := HB.out.size; have := HSZ.out; simp; omega) _).grown hg4 (by have := HB.out.size; have := HSZ.out; simp; omega) (fun k hk => (hown.blk k hk).1)
      · obtain ⟨A4, cap4, rfl⟩ := hown4.shape
        simp [lenOf]
        omega
    · have hnd : done.Nodup := hrg.2.2.1
      have hcnt := hrg.count
      have hown' := hown
      have hc := sortR_any w.heap.size A cap done wr hown hnd (by omega)
      have HC := Lib.hid hc
      clear hrg hne hc hown
      go_wp2_with (go_at_call 118; refine HC.out.mono ?_; rintro e w5 ⟨rfl, l', hl', hi', hp', hr', hg'⟩)
      go_ret
      refine ⟨A, cap, l', by rw [hl']; rfl, hi', hp'.trans hp, by rw [hl']; exact hr', HB.out.grown hg' HB.out.size (fun k hk => (hown'.blk k hk).1)⟩
end Go.Proofs.Bg
