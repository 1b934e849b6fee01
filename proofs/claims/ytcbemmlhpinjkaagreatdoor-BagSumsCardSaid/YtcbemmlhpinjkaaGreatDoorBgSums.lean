/- Sums of items: what the map of sums holds; the contracts of put, items and bag in these words. -/
import Derived.Test.YtcbemmlhpinjkaaGreatDoorBgItems
import Derived.Test.YtcbemmlhpinjkaaGreatDoorBgPure
namespace Go.Proofs.Bg
open Go.RowKit

/-- Block r of w is the map of the sums of the items L. -/
def SumIs (w : World) (r : Nat) (L : List It) : Prop :=
  ∃ kv, MapIs Tryz.prog 124 ekR evI w r kv ∧ (∀ k, k ∈ kv.map Prod.fst ↔ k ∈ L.map (·.r)) ∧ (∀ k, (getKV kv k).getD 0 = sumN L k) ∧ kv.length ≤ L.length

theorem SumIs.made (w : World) : SumIs (w.alloc (.map #[] 0)) w.heap.size [] := ⟨[], MapIs.made w _ _ _ _, by simp, fun _ => rfl, Nat.le_refl _⟩
theorem SumIs.lt {w : World} {r : Nat} {L : List It} (h : SumIs w r L) : r < w.heap.size := by
  obtain ⟨kv, hm, _⟩ := h
  exact hm.lt
theorem SumIs.below {w w' : World} {r : Nat} {L : List It} (h : SumIs w r L) (hb : Below w.heap.size w w') : SumIs w' r L := by
  obtain ⟨kv, hm, h1⟩ := h
  exact ⟨kv, hm.below hb, h1⟩
theorem SumIs.alloc {w : World} {r : Nat} {L : List It} (h : SumIs w r L) (o : Obj) : SumIs (w.alloc o) r L := by
  obtain ⟨kv, hm, h1⟩ := h
  exact ⟨kv, hm.alloc o, h1⟩

theorem put_sum (r : Nat) (L : List It) (x : It) (w : World) (h : SumIs w r L) (hx : x.r.ok) (hb : I64 (sumN L x.r + x.n)) :
    Calls Tryz.prog 48 #[.map (some r), .agg #[.int .i64 x.r.at_, .int .i64 x.r.key, .int .i64 x.r.val], .int .i64 x.n] w fun e w' => e = .returned (.tuple #[]) ∧ SumIs w' r (L ++ [x]) ∧ w.grownBy w' (some r) := by
  obtain ⟨kv, hm, hk, hs, hl⟩ := h
  refine (put_any r kv x.r x.n (sumN L x.r) w hm hx (hs x.r) hb).mono fun e w' ⟨he, hm', hg⟩ => ⟨he, ⟨_, hm', fun k => ?_, fun k => ?_, ?_⟩, hg⟩
  · rw [keys_putKV]
    simp only [List.map_append, List.map_cons, List.map_nil, List.mem_append, List.mem_singleton, ← hk k]
    split
    · rename_i hc
      constructor
      · exact .inl
      · rintro (h | h)
        · exact h
        · rw [h]; exact hc
    · simp
  · rw [getKV_put, sumN_append]
    by_cases e : x.r = k
    · subst e
      simp [sumN]
    · simp [sumN, e, hs k]
  · have := length_putKV kv x.r (sumN L x.r + x.n)
    simp
    omega

theorem itemsOf_sum (kv : List (Rc × Int)) (ks : List Rc) (hn : ks.Nodup) (k : Rc) : sumN (itemsOf kv ks) k = if k ∈ ks then (getKV kv k).getD 0 else 0 := by
  induction ks with
  | nil => rfl
  | cons x r ih =>
    obtain ⟨h1, h2⟩ := List.nodup_cons.1 hn
    rw [itemsOf]
    by_cases e : x = k
    · subst e
      split
      · rename_i hz
        rw [ih h2, if_neg h1, if_pos List.mem_cons_self, hz]
      · rw [sumN, if_pos rfl, ih h2, if_neg h1, if_pos List.mem_cons_self]
        exact Int.add_zero _
    · have e' : ¬ k = x := fun h => e h.symm
      split
      · rw [ih h2]; simp [e']
      · rw [sumN, if_neg e, ih h2]; simp [e']
theorem itemsOf_sub (kv : List (Rc × Int)) (ks : List Rc) : List.Sublist ((itemsOf kv ks).map (·.r)) ks := by
  induction ks with
  | nil => exact List.Sublist.refl _
  | cons x r ih =>
    rw [itemsOf]
    split
    · exact ih.cons _
    · exact ih.cons_cons _
theorem itemsOf_not0 (kv : List (Rc × Int)) (ks : List Rc) : ∀ x ∈ itemsOf kv ks, x.n ≠ 0 := by
  induction ks with
  | nil => intro x hx; cases hx
  | cons y r ih =>
    intro x hx
    rw [itemsOf] at hx
    split at hx
    · exact ih x hx
    · rename_i h
      rcases List.mem_cons.1 hx with e | hm
      · subst e; exact h
      · exact ih x hm

def OkAll (L : List It) : Prop := ∀ x ∈ L, x.r.ok

theorem items_sum (r : Nat) (L : List It) (w : World) (h : SumIs w r L) (hok : OkAll L) (hlen : L.length * 32 ≤ 140737488355328) :
    Calls Tryz.prog 74 #[.map (some r)] w fun e w' => ∃ A cap, e = .returned (.slice A (canon L).length cap) ∧ Rd It.vs 4 w' w.heap.size A (canon L).length (canon L) ∧ Below w.heap.size w w' := by
  obtain ⟨kv, hm, hk, hs, hl⟩ := h
  refine (items_any r kv w hm (fun k hkm => ?_) (by omega)).mono ?_
  · obtain ⟨x, hx, rfl⟩ := List.mem_map.1 ((hk k).1 hkm)
    exact hok x hx
  · rintro e w' ⟨A, cap, ks, rfl, hi, hp, hr, hb⟩
    have hn : ks.Nodup := hp.nodup_iff.2 hm.nodup
    have he : itemsOf kv ks = canon L := IsBag.eq ⟨List.Pairwise.sublist (itemsOf_sub kv ks) hi, itemsOf_not0 kv ks, fun k => by
      rw [itemsOf_sum kv ks hn k, ← hs k]
      split
      · rfl
      · rename_i hc
        have : k ∉ kv.map Prod.fst := fun h => hc (hp.mem_iff.2 h)
        rw [getKV_not this]
        rfl⟩
    rw [he] at hr ⊢
    exact ⟨A, cap, rfl, hr, hb⟩

/-- What a call hands back: a bag, or nothing with an error. -/
def bagOr (L : List It) : List It := if bagB (canon L) then canon L else []
def errOr (L : List It) : Int := if bagB (canon L) then 0 else 3

theorem bag_sum (r : Nat) (L : List It) (w : World) (h : SumIs w r L) (hok : OkAll L) (hlen : L.length * 32 ≤ 140737488355328) :
    Calls Tryz.prog 50 #[.map (some r)] w fun e w' => ∃ A cap, e = .returned (.tuple #[.slice A (bagOr L).length cap, .int .i64 (errOr L)]) ∧ Rd It.vs 4 w' w.heap.size A (bagOr L).length (bagOr L) ∧ Below w.heap.size w w' := by
  have hi := items_sum r L w h hok hlen
  have HI := Lib.hid hi
  clear hi
  cases hg : bagB (canon L) with
  | true =>
    have e1 : bagOr L = canon L := by simp [bagOr, hg]
    have e2 : errOr L = 0 := by simp [errOr, hg]
    rw [e1, e2]
    have HG := Lib.hid hg
    clear hg e1 e2
    generalize canon L = m at HI HG ⊢
    go_enter Tryz.func50, Tryz.ntmps50
    go_wp2_with (go_at_call 74; refine HI.out.mono ?_; rintro e w1 ⟨A, cap, rfl, hr, hb⟩)
    have hq := isBag_any A m.length cap m w1 (hr.low (Nat.zero_le _))
    have HQ := Lib.hid hq
    have HR := Lib.hid hr
    have HB := Lib.hid hb
    clear hq hr hb HI
    go_wp2_with (go_at_call 47; refine HQ.out.mono ?_; rintro e w2 ⟨rfl, hb2⟩; rw [HG.out]; have HB2 := Lib.hid hb2; clear hb2)
    go_ret2
    exact ⟨A, cap, rfl, HR.out.below HB2.out, HB.out.trans (HB2.out.mono HB.out.size)⟩
  | false =>
    have e1 : bagOr L = [] := by simp [bagOr, hg]
    have e2 : errOr L = 3 := by simp [errOr, hg]
    rw [e1, e2]
    have HG := Lib.hid hg
    clear hg e1 e2
    generalize canon L = m at HI HG ⊢
    go_enter Tryz.func50, Tryz.ntmps50
    go_wp2_with (go_at_call 74; refine HI.out.mono ?_; rintro e w1 ⟨A, cap, rfl, hr, hb⟩)
    have hq := isBag_any A m.length cap m w1 (hr.low (Nat.zero_le _))
    have HQ := Lib.hid hq
    have HR := Lib.hid hr
    have HB := Lib.hid hb
    clear hq hr hb HI
    go_wp2_with (go_at_call 47; refine HQ.out.mono ?_; rintro e w2 ⟨rfl, hb2⟩; rw [HG.out]; have HB2 := Lib.hid hb2; clear hb2)
    go_ret2
    exact ⟨none, 0, rfl, Rd.nil _ _ _, HB.out.trans (HB2.out.mono HB.out.size)⟩

end Go.Proofs.Bg
