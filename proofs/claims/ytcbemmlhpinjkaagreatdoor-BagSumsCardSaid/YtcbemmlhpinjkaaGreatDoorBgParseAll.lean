/- The contract of Parse. -/
import Derived.Lib.ConvBytes
import Derived.Test.YtcbemmlhpinjkaaGreatDoorBgParse
import Derived.Test.YtcbemmlhpinjkaaGreatDoorBgPrint
namespace Go.Proofs.Bg
open Go.RowKit

def intsOf (s : List UInt8) : List Int := s.map fun b => (b.toNat : Int)
def parseR (s : List UInt8) : List It × Int := readB (pBag (intsOf s))
theorem bytes_below (w : World) (e : TypeId) (s : ByteArray) : Below w.heap.size w (Lib.bytesWorld w e s) :=
  ⟨rfl, rfl, rfl, by rw [Lib.bytesWorld_size]; omega, fun i hi => Lib.bytesWorld_at_old w e s i hi⟩

/-- The worlds of Parse: the bytes, the text, the variable that holds it. -/
def parseW (w : World) (s : List UInt8) : World :=
  (((Lib.bytesWorld w 5 (strOf s)).alloc (.cells #[.slice (some ⟨w.heap.size, 0, none⟩) s.length (grownCap w s.length 0 5)] 87)).alloc (.cells #[.pointer (some ⟨w.heap.size + 1, 0, none⟩)] 83))
theorem parseW_left (w : World) (s : List UInt8) (h63 : s.length ≤ 9223372036854775807) : LeftIs (parseW w s) (w.heap.size + 1) 87 (intsOf s) ∧ (parseW w s).heap[w.heap.size + 2]? = some (.cells #[.pointer (some ⟨w.heap.size + 1, 0, none⟩)] 83) ∧ (parseW w s).heap.size = w.heap.size + 3 ∧ Below w.heap.size w (parseW w s) := by
  have hsz := Lib.bytesWorld_size w 5 (strOf s)
  have hb := bytes_below w 5 (strOf s)
  have hcell := Lib.bytesWorld_cell w 5 (strOf s)
  unfold parseW
  generalize Lib.bytesWorld w 5 (strOf s) = W at *
  refine ⟨⟨_, grownCap w s.length 0 5, ?_, ⟨rfl, by simpa [intsOf] using h63, fun hn => ⟨w.heap.size, 0, rfl, Nat.zero_le _, fun i x hx j v hv => ?_⟩⟩, fun b off e => by cases e; omega, ?_, ?_⟩, ?_, ?_, ?_⟩
  · rw [Below.heap_alloc _ _ _ (by simp [hsz]), ← hsz, new_block]
    simp [intsOf]
  · have e : j = 0 ∧ v = .int .u8 x := by
      cases j with
      | zero => exact ⟨rfl, by cases hv; rfl⟩
      | succ j => cases hv
    obtain ⟨rfl, rfl⟩ := e
    have hi : i < s.length := by
      have := (List.getElem?_eq_some_iff.1 hx).1
      simpa [intsOf] using this
    have h1 := hcell i (by rw [strOf_size]; exact hi)
    have hlt : w.heap.size < W.heap.size := by omega
    have e2 : (0 + i * 1 + 0) = i := by omega
    rw [e2]
    refine (World.cell?_of_block (w := W) (a := ⟨w.heap.size, i, none⟩) ?_).trans (h1.trans ?_)
    · show ((W.alloc _).alloc _).heap[w.heap.size]? = _
      rw [Below.heap_alloc _ _ _ (by simp; omega), Below.heap_alloc _ _ _ hlt]
    · simp only [intsOf, List.getElem?_map] at hx
      have e3 : s[i]? = some s[i] := List.getElem?_eq_getElem hi
      rw [e3] at hx
      cases hx
      simp [strOf, List.getD, e3]
  · simpa [intsOf] using grownCap_ge w s.length 0 5
  · intro x hx
    simp only [intsOf, List.mem_map] at hx
    obtain ⟨b, _, rfl⟩ := hx
    have := b.toNat_lt
    omega
  · have := new_block (W.alloc (.cells #[.slice (some ⟨w.heap.size, 0, none⟩) s.length (grownCap w s.length 0 5)] 87)) #[.pointer (some ⟨w.heap.size + 1, 0, none⟩)] 83
    simpa [hsz] using this
  · simp [hsz]
  · exact (hb.alloc hb.size _).alloc (by have := hb.size; simp; omega) _

set_option maxRecDepth 100000 in
theorem Parse_any (s : List UInt8) (w : World) (hS : s.length * 32 ≤ 140737488355328) :
    Calls Tryz.prog 17 #[.string (strOf s)] w (RetBag w (parseR s)) := by
  have hmf : ∀ (fn : Fn) (first cap : Array Value) (w : World), (Instr.makeFunc fn first cap).run Tryz.prog w = .ok (.func fn first cap) w := fun _ _ _ _ => rfl
  have hconv := Lib.run_convert_string_bytes w 9 59 5 (strOf s) Tryz.underlying9 Tryz.underlying59 Tryz.underlying5
  rw [strOf_size] at hconv
  obtain ⟨hl, hc, hz, hbl⟩ := parseW_left w s (by omega)
  have HP : Calls Tryz.prog 59 #[.func (.func 60) #[] #[.pointer (some ⟨w.heap.size + 2, 0, none⟩)]] (parseW w s) (RetRead (w.heap.size + 1) (parseW w s) (parseR s)) := by
    generalize parseW w s = W at *
    have hB : Below W.heap.size W ((W.alloc (.cells #[.slice none 0 0] 23)).alloc (.cells #[.int .i64 0] 24)) := ((Below.refl _ _).alloc (Nat.le_refl _) _).alloc (by simp) _
    refine read_parse _ _ _ _ (by omega) ?_
    refine parse1_any _ _ _ s.length _ _ (hl.later (row := none) ⟨hB.os, hB.tape, hB.output, hB.size, fun i hi _ => hB.block i hi⟩ (fun x e => by cases e)) ((hB.block _ (by omega)).trans hc) (by omega) (by simp) (by simp [intsOf]) hS
  have HPh := Lib.hid HP
  have HBL := Lib.hid hbl
  have hsz := Lib.bytesWorld_size w 5 (strOf s)
  unfold parseW at HPh
  clear HP hl hc hz hbl hS
  go_enter Tryz.func17, Tryz.ntmps17
  go_wp2_with (go_at_call 59; (with_reducible refine HPh.out.mono ?_); rintro e w1 ⟨hg, A, cap, rfl, hr⟩; have HG := Lib.hid hg; have HR := Lib.hid hr; clear hg hr)
  go_ret2
  have HG1 : (parseW w s).grownBy w1 (some (w.heap.size + 1)) := HG.out
  have HR1 : Rd It.vs 4 w1 (parseW w s).heap.size A (parseR s).1.length (parseR s).1 := HR.out
  have hb := HBL.out
  exact ⟨A, cap, rfl, HR1.low hb.size, hb.grown HG1 hb.size (fun k e => by cases e; omega)⟩
end Go.Proofs.Bg
