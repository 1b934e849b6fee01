/-
  NARROWER THAN 'FOR EVERY INPUT', by the rows' own cells (each row's printed sentence says how): PickTrees: loops, laid · PickReduces: laid · PickParts: laid · PickJoins: laid · PickReduced: laid · PickRules: laid · PickLossless: laid · PickBest: loops, laid · PickRing: laid · PickOrder: laid.
  DERIVED. THE GIVEN ROWS OF THIS SEAT. 10 by the template 'for every input the law returns true; each argument reads behind the call as it read before'; 0 by the template 'total and deterministic' (their statements: YtonjmakaebecjaaGreatDoorTotals.lean).
  GIVEN WITH THE SEED: the statements are not yours to turn. If you find one false, say at which input.
  Laid BY PROGRAM, IN A SANDBOX (cutbox-rows.mjs): the forced cells as the released guide's own fill.sh prints them over the translation 4a7782dbf2ad2c82… (all of the seat's roots in one cut). By AI agents, Wed Nov 11 2026. No macro, syntax, notation, axiom, sorry.
-/
import Derived.Test.YtonjmakaebecjaaGreatDoorChecked
import GoSem.Claim
import GoSem.ClaimJoined
import GoSem.ClaimMapViews
import Derived.JoinedTies
import Derived.KernelRfl
namespace Go.Proofs.YtonjmakaebecjaaGreatDoor
/- THE CELL 'sum', in the pinned program and in every row, IS THE sha256 OF THE DUMP (.gsa) THAT YtonjmakaebecjaaGreatDoorProg.lean LOADS. Nothing in Lean hashes anything: it is a label: what it is worth is what the hold of that sum in a sandbox is worth. -/
noncomputable def Tryz.pinned : Pinned := { name := "ytonjmakaebecjaagreatdoor", sum := "4a7782dbf2ad2c82de819eed8d6f6a35aa9d371aa5788c174c2a437398784a95", checked := Tryz.checked }
namespace Rows
def none {H : Type} : Left H := { results := [], args := [] }

/- WHAT THE LISTED PACKAGE-LEVEL VARIABLES READ AS WHEN THE CALL BEGINS. Each datum BY PROGRAM (the guide's laid-datum.mjs) off the statement by which the dump's own 'gosem.cut.vars' lays the variable. In a bare row this is a premise. The card (YtonjmakaebecjaaGreatDoorCards.lean) ties it to the program's text. -/
def laid_math_bits_deBruijn32tab {H : Type} : DataW H := .agg [.lit (.int .u8 0), .lit (.int .u8 1), .lit (.int .u8 28), .lit (.int .u8 2), .lit (.int .u8 29), .lit (.int .u8 14), .lit (.int .u8 24), .lit (.int .u8 3), .lit (.int .u8 30), .lit (.int .u8 22), .lit (.int .u8 20), .lit (.int .u8 15), .lit (.int .u8 25), .lit (.int .u8 17), .lit (.int .u8 4), .lit (.int .u8 8), .lit (.int .u8 31), .lit (.int .u8 27), .lit (.int .u8 13), .lit (.int .u8 23), .lit (.int .u8 21), .lit (.int .u8 19), .lit (.int .u8 16), .lit (.int .u8 7), .lit (.int .u8 26), .lit (.int .u8 12), .lit (.int .u8 18), .lit (.int .u8 6), .lit (.int .u8 11), .lit (.int .u8 5), .lit (.int .u8 10), .lit (.int .u8 9)]
def laid_math_bits_deBruijn64tab {H : Type} : DataW H := .agg [.lit (.int .u8 0), .lit (.int .u8 1), .lit (.int .u8 56), .lit (.int .u8 2), .lit (.int .u8 57), .lit (.int .u8 49), .lit (.int .u8 28), .lit (.int .u8 3), .lit (.int .u8 61), .lit (.int .u8 58), .lit (.int .u8 42), .lit (.int .u8 50), .lit (.int .u8 38), .lit (.int .u8 29), .lit (.int .u8 17), .lit (.int .u8 4), .lit (.int .u8 62), .lit (.int .u8 47), .lit (.int .u8 59), .lit (.int .u8 36), .lit (.int .u8 45), .lit (.int .u8 43), .lit (.int .u8 51), .lit (.int .u8 22), .lit (.int .u8 53), .lit (.int .u8 39), .lit (.int .u8 33), .lit (.int .u8 30), .lit (.int .u8 24), .lit (.int .u8 18), .lit (.int .u8 12), .lit (.int .u8 5), .lit (.int .u8 63), .lit (.int .u8 55), .lit (.int .u8 48), .lit (.int .u8 27), .lit (.int .u8 60), .lit (.int .u8 41), .lit (.int .u8 37), .lit (.int .u8 16), .lit (.int .u8 46), .lit (.int .u8 35), .lit (.int .u8 44), .lit (.int .u8 21), .lit (.int .u8 52), .lit (.int .u8 32), .lit (.int .u8 23), .lit (.int .u8 11), .lit (.int .u8 54), .lit (.int .u8 26), .lit (.int .u8 40), .lit (.int .u8 15), .lit (.int .u8 34), .lit (.int .u8 20), .lit (.int .u8 31), .lit (.int .u8 10), .lit (.int .u8 25), .lit (.int .u8 14), .lit (.int .u8 19), .lit (.int .u8 9), .lit (.int .u8 13), .lit (.int .u8 8), .lit (.int .u8 7), .lit (.int .u8 6)]

/-- 'afterwordlaw13.PickTrees': WHATEVER THE INPUT: true; the input reads as it did. -/
def pickTreesSpec : ChangeSpec := { name := "pickTrees", fn := fun _ => fun
  | [d1, d2] => { results := [.lit (.bool true)], args := [d1, d2] }
  | _ => none }
def pickTreesRow : OpenClaim := { program := "ytonjmakaebecjaagreatdoor", sum := "4a7782dbf2ad2c82de819eed8d6f6a35aa9d371aa5788c174c2a437398784a95", func := "afterword/afterwordlaw13.PickTrees", spec := "pickTrees", unfollowed := true, recurses := true, named := ["math/bits.deBruijn32tab", "math/bits.deBruijn64tab"], loops := true, plainKeys := false, apart := false, laid := [("math/bits.deBruijn32tab", laid_math_bits_deBruijn32tab), ("math/bits.deBruijn64tab", laid_math_bits_deBruijn64tab)] }
def PickTreesSaid : Prop := pickTreesRow.holds Tryz.pinned (OpenSpec.ofChange pickTreesSpec)

/-- ITS FALSE NEIGHBOUR: 'it returns false'. Refute it at one input. -/
def pickTreesWrong : ChangeSpec := { name := "pickTrees", fn := fun _ => fun
  | [d1, d2] => { results := [.lit (.bool false)], args := [d1, d2] }
  | _ => none }
def PickTreesWrongFalsely : Prop := pickTreesRow.holds Tryz.pinned (OpenSpec.ofChange pickTreesWrong)

/-- 'afterwordlaw13.PickReduces': WHATEVER THE INPUT: true; the input reads as it did. -/
def pickReducesSpec : ChangeSpec := { name := "pickReduces", fn := fun _ => fun
  | [d1, d2] => { results := [.lit (.bool true)], args := [d1, d2] }
  | _ => none }
def pickReducesRow : OpenClaim := { program := "ytonjmakaebecjaagreatdoor", sum := "4a7782dbf2ad2c82de819eed8d6f6a35aa9d371aa5788c174c2a437398784a95", func := "afterword/afterwordlaw13.PickReduces", spec := "pickReduces", unfollowed := true, recurses := true, named := ["math/bits.deBruijn32tab", "math/bits.deBruijn64tab"], plainKeys := false, apart := false, laid := [("math/bits.deBruijn32tab", laid_math_bits_deBruijn32tab), ("math/bits.deBruijn64tab", laid_math_bits_deBruijn64tab)] }
def PickReducesSaid : Prop := pickReducesRow.holds Tryz.pinned (OpenSpec.ofChange pickReducesSpec)

/-- ITS FALSE NEIGHBOUR: 'it returns false'. Refute it at one input. -/
def pickReducesWrong : ChangeSpec := { name := "pickReduces", fn := fun _ => fun
  | [d1, d2] => { results := [.lit (.bool false)], args := [d1, d2] }
  | _ => none }
def PickReducesWrongFalsely : Prop := pickReducesRow.holds Tryz.pinned (OpenSpec.ofChange pickReducesWrong)

/-- 'afterwordlaw13.PickParts': WHATEVER THE INPUT: true; the input reads as it did. -/
def pickPartsSpec : ChangeSpec := { name := "pickParts", fn := fun _ => fun
  | [d1, d2, d3] => { results := [.lit (.bool true)], args := [d1, d2, d3] }
  | _ => none }
def pickPartsRow : OpenClaim := { program := "ytonjmakaebecjaagreatdoor", sum := "4a7782dbf2ad2c82de819eed8d6f6a35aa9d371aa5788c174c2a437398784a95", func := "afterword/afterwordlaw13.PickParts", spec := "pickParts", unfollowed := true, recurses := true, named := ["math/bits.deBruijn32tab", "math/bits.deBruijn64tab"], plainKeys := false, apart := false, laid := [("math/bits.deBruijn32tab", laid_math_bits_deBruijn32tab), ("math/bits.deBruijn64tab", laid_math_bits_deBruijn64tab)] }
def PickPartsSaid : Prop := pickPartsRow.holds Tryz.pinned (OpenSpec.ofChange pickPartsSpec)

/-- ITS FALSE NEIGHBOUR: 'it returns false'. Refute it at one input. -/
def pickPartsWrong : ChangeSpec := { name := "pickParts", fn := fun _ => fun
  | [d1, d2, d3] => { results := [.lit (.bool false)], args := [d1, d2, d3] }
  | _ => none }
def PickPartsWrongFalsely : Prop := pickPartsRow.holds Tryz.pinned (OpenSpec.ofChange pickPartsWrong)

/-- 'afterwordlaw13.PickJoins': WHATEVER THE INPUT: true; the input reads as it did. -/
def pickJoinsSpec : ChangeSpec := { name := "pickJoins", fn := fun _ => fun
  | [d1, d2, d3, d4] => { results := [.lit (.bool true)], args := [d1, d2, d3, d4] }
  | _ => none }
def pickJoinsRow : OpenClaim := { program := "ytonjmakaebecjaagreatdoor", sum := "4a7782dbf2ad2c82de819eed8d6f6a35aa9d371aa5788c174c2a437398784a95", func := "afterword/afterwordlaw13.PickJoins", spec := "pickJoins", unfollowed := true, recurses := true, named := ["math/bits.deBruijn32tab", "math/bits.deBruijn64tab"], plainKeys := false, apart := false, laid := [("math/bits.deBruijn32tab", laid_math_bits_deBruijn32tab), ("math/bits.deBruijn64tab", laid_math_bits_deBruijn64tab)] }
def PickJoinsSaid : Prop := pickJoinsRow.holds Tryz.pinned (OpenSpec.ofChange pickJoinsSpec)

/-- ITS FALSE NEIGHBOUR: 'it returns false'. Refute it at one input. -/
def pickJoinsWrong : ChangeSpec := { name := "pickJoins", fn := fun _ => fun
  | [d1, d2, d3, d4] => { results := [.lit (.bool false)], args := [d1, d2, d3, d4] }
  | _ => none }
def PickJoinsWrongFalsely : Prop := pickJoinsRow.holds Tryz.pinned (OpenSpec.ofChange pickJoinsWrong)

/-- 'afterwordlaw13.PickReduced': WHATEVER THE INPUT: true; the input reads as it did. -/
def pickReducedSpec : ChangeSpec := { name := "pickReduced", fn := fun _ => fun
  | [d] => { results := [.lit (.bool true)], args := [d] }
  | _ => none }
def pickReducedRow : OpenClaim := { program := "ytonjmakaebecjaagreatdoor", sum := "4a7782dbf2ad2c82de819eed8d6f6a35aa9d371aa5788c174c2a437398784a95", func := "afterword/afterwordlaw13.PickReduced", spec := "pickReduced", unfollowed := true, recurses := true, named := ["math/bits.deBruijn32tab", "math/bits.deBruijn64tab"], plainKeys := false, apart := false, laid := [("math/bits.deBruijn32tab", laid_math_bits_deBruijn32tab), ("math/bits.deBruijn64tab", laid_math_bits_deBruijn64tab)] }
def PickReducedSaid : Prop := pickReducedRow.holds Tryz.pinned (OpenSpec.ofChange pickReducedSpec)

/-- ITS FALSE NEIGHBOUR: 'it returns false'. Refute it at one input. -/
def pickReducedWrong : ChangeSpec := { name := "pickReduced", fn := fun _ => fun
  | [d] => { results := [.lit (.bool false)], args := [d] }
  | _ => none }
def PickReducedWrongFalsely : Prop := pickReducedRow.holds Tryz.pinned (OpenSpec.ofChange pickReducedWrong)

/-- 'afterwordlaw13.PickRules': WHATEVER THE INPUT: true; the input reads as it did. -/
def pickRulesSpec : ChangeSpec := { name := "pickRules", fn := fun _ => fun
  | [d1, d2, d3, d4] => { results := [.lit (.bool true)], args := [d1, d2, d3, d4] }
  | _ => none }
def pickRulesRow : OpenClaim := { program := "ytonjmakaebecjaagreatdoor", sum := "4a7782dbf2ad2c82de819eed8d6f6a35aa9d371aa5788c174c2a437398784a95", func := "afterword/afterwordlaw13.PickRules", spec := "pickRules", unfollowed := true, recurses := true, named := ["math/bits.deBruijn32tab", "math/bits.deBruijn64tab"], plainKeys := false, apart := false, laid := [("math/bits.deBruijn32tab", laid_math_bits_deBruijn32tab), ("math/bits.deBruijn64tab", laid_math_bits_deBruijn64tab)] }
def PickRulesSaid : Prop := pickRulesRow.holds Tryz.pinned (OpenSpec.ofChange pickRulesSpec)

/-- ITS FALSE NEIGHBOUR: 'it returns false'. Refute it at one input. -/
def pickRulesWrong : ChangeSpec := { name := "pickRules", fn := fun _ => fun
  | [d1, d2, d3, d4] => { results := [.lit (.bool false)], args := [d1, d2, d3, d4] }
  | _ => none }
def PickRulesWrongFalsely : Prop := pickRulesRow.holds Tryz.pinned (OpenSpec.ofChange pickRulesWrong)

/-- 'afterwordlaw13.PickLossless': WHATEVER THE INPUT: true; the input reads as it did. -/
def pickLosslessSpec : ChangeSpec := { name := "pickLossless", fn := fun _ => fun
  | [d1, d2, d3, d4] => { results := [.lit (.bool true)], args := [d1, d2, d3, d4] }
  | _ => none }
def pickLosslessRow : OpenClaim := { program := "ytonjmakaebecjaagreatdoor", sum := "4a7782dbf2ad2c82de819eed8d6f6a35aa9d371aa5788c174c2a437398784a95", func := "afterword/afterwordlaw13.PickLossless", spec := "pickLossless", unfollowed := true, recurses := true, named := ["math/bits.deBruijn32tab", "math/bits.deBruijn64tab"], plainKeys := false, apart := false, laid := [("math/bits.deBruijn32tab", laid_math_bits_deBruijn32tab), ("math/bits.deBruijn64tab", laid_math_bits_deBruijn64tab)] }
def PickLosslessSaid : Prop := pickLosslessRow.holds Tryz.pinned (OpenSpec.ofChange pickLosslessSpec)

/-- ITS FALSE NEIGHBOUR: 'it returns false'. Refute it at one input. -/
def pickLosslessWrong : ChangeSpec := { name := "pickLossless", fn := fun _ => fun
  | [d1, d2, d3, d4] => { results := [.lit (.bool false)], args := [d1, d2, d3, d4] }
  | _ => none }
def PickLosslessWrongFalsely : Prop := pickLosslessRow.holds Tryz.pinned (OpenSpec.ofChange pickLosslessWrong)

/-- 'afterwordlaw13.PickBest': WHATEVER THE INPUT: true; the input reads as it did. -/
def pickBestSpec : ChangeSpec := { name := "pickBest", fn := fun _ => fun
  | [d1, d2, d3] => { results := [.lit (.bool true)], args := [d1, d2, d3] }
  | _ => none }
def pickBestRow : OpenClaim := { program := "ytonjmakaebecjaagreatdoor", sum := "4a7782dbf2ad2c82de819eed8d6f6a35aa9d371aa5788c174c2a437398784a95", func := "afterword/afterwordlaw13.PickBest", spec := "pickBest", inPlace := ["slices.overlaps[int]"], unfollowed := true, recurses := true, named := ["math/bits.deBruijn32tab", "math/bits.deBruijn64tab"], loops := true, plainKeys := false, apart := false, laid := [("math/bits.deBruijn32tab", laid_math_bits_deBruijn32tab), ("math/bits.deBruijn64tab", laid_math_bits_deBruijn64tab)] }
def PickBestSaid : Prop := pickBestRow.holds Tryz.pinned (OpenSpec.ofChange pickBestSpec)

/-- ITS FALSE NEIGHBOUR: 'it returns false'. Refute it at one input. -/
def pickBestWrong : ChangeSpec := { name := "pickBest", fn := fun _ => fun
  | [d1, d2, d3] => { results := [.lit (.bool false)], args := [d1, d2, d3] }
  | _ => none }
def PickBestWrongFalsely : Prop := pickBestRow.holds Tryz.pinned (OpenSpec.ofChange pickBestWrong)

/-- 'afterwordlaw13.PickRing': WHATEVER THE INPUT: true; the input reads as it did. -/
def pickRingSpec : ChangeSpec := { name := "pickRing", fn := fun _ => fun
  | [d1, d2, d3, d4] => { results := [.lit (.bool true)], args := [d1, d2, d3, d4] }
  | _ => none }
def pickRingRow : OpenClaim := { program := "ytonjmakaebecjaagreatdoor", sum := "4a7782dbf2ad2c82de819eed8d6f6a35aa9d371aa5788c174c2a437398784a95", func := "afterword/afterwordlaw13.PickRing", spec := "pickRing", inPlace := ["slices.overlaps[[]int]"], unfollowed := true, recurses := true, named := ["math/bits.deBruijn32tab", "math/bits.deBruijn64tab"], plainKeys := false, apart := false, laid := [("math/bits.deBruijn32tab", laid_math_bits_deBruijn32tab), ("math/bits.deBruijn64tab", laid_math_bits_deBruijn64tab)] }
def PickRingSaid : Prop := pickRingRow.holds Tryz.pinned (OpenSpec.ofChange pickRingSpec)

/-- ITS FALSE NEIGHBOUR: 'it returns false'. Refute it at one input. -/
def pickRingWrong : ChangeSpec := { name := "pickRing", fn := fun _ => fun
  | [d1, d2, d3, d4] => { results := [.lit (.bool false)], args := [d1, d2, d3, d4] }
  | _ => none }
def PickRingWrongFalsely : Prop := pickRingRow.holds Tryz.pinned (OpenSpec.ofChange pickRingWrong)

/-- 'afterwordlaw13.PickOrder': WHATEVER THE INPUT: true; the input reads as it did. -/
def pickOrderSpec : ChangeSpec := { name := "pickOrder", fn := fun _ => fun
  | [d1, d2, d3] => { results := [.lit (.bool true)], args := [d1, d2, d3] }
  | _ => none }
def pickOrderRow : OpenClaim := { program := "ytonjmakaebecjaagreatdoor", sum := "4a7782dbf2ad2c82de819eed8d6f6a35aa9d371aa5788c174c2a437398784a95", func := "afterword/afterwordlaw13.PickOrder", spec := "pickOrder", inPlace := ["slices.overlaps[afterword/api.PickTable]"], unfollowed := true, recurses := true, named := ["math/bits.deBruijn32tab", "math/bits.deBruijn64tab"], plainKeys := false, apart := false, laid := [("math/bits.deBruijn32tab", laid_math_bits_deBruijn32tab), ("math/bits.deBruijn64tab", laid_math_bits_deBruijn64tab)] }
def PickOrderSaid : Prop := pickOrderRow.holds Tryz.pinned (OpenSpec.ofChange pickOrderSpec)

/-- ITS FALSE NEIGHBOUR: 'it returns false'. Refute it at one input. -/
def pickOrderWrong : ChangeSpec := { name := "pickOrder", fn := fun _ => fun
  | [d1, d2, d3] => { results := [.lit (.bool false)], args := [d1, d2, d3] }
  | _ => none }
def PickOrderWrongFalsely : Prop := pickOrderRow.holds Tryz.pinned (OpenSpec.ofChange pickOrderWrong)

/- THE SECOND FORM. 'bulk': how many values and letters a reading holds, each counted each time it is reached (what is shared counts as often as it is met; a slice's spare places count too). A statement '..UptoSaid' is the law's where the arguments, and the package variables that the reading takes, are together of bulk at most 1048576: NARROWER than '..Said'. Prove '..Said' where nothing that the law and all that it calls make is longer than what came in: it says more and counts as full. Else prove '..UptoSaid'. A law counts once. -/
mutual
def uptoBulk {H : Type} : DataW H → Nat
  | .lit (.string bytes) => bytes.length + 1
  | .lit _ => 1
  | .nil => 1
  | .ptr d => uptoBulk d + 1
  | .slice elems spare => uptoBulkAll elems + uptoBulkAll spare + 1
  | .agg parts => uptoBulkAll parts + 1
  | .iface _ d => uptoBulk d + 1
  | .map entries => uptoBulkEntries entries + 1
  | .held _ => 1
def uptoBulkAll {H : Type} : List (DataW H) → Nat
  | [] => 0
  | d :: r => uptoBulk d + uptoBulkAll r
def uptoBulkEntries {H : Type} : List (Lit × DataW H) → Nat
  | [] => 0
  | x :: r => uptoBulkEntry x + uptoBulkEntries r
def uptoBulkEntry {H : Type} : Lit × DataW H → Nat
  | (.string bytes, d) => bytes.length + uptoBulk d + 1
  | (_, d) => uptoBulk d + 1
 end
def uptoSmall : (H : Type) → List (DataW H) → Bool := fun _ ds => decide (uptoBulkAll ds ≤ 1048576)
def OpenSpec.upto (s : _root_.Go.ChangeSpec) : _root_.Go.OpenSpec := { _root_.Go.OpenSpec.ofChange s with cond := some uptoSmall }

/-- 'afterwordlaw13.PickTrees', WHERE WHAT IT READS IS OF BULK AT MOST 1048576: true; the input reads as it did. -/
def pickTreesUptoRow : OpenClaim := { program := "ytonjmakaebecjaagreatdoor", sum := "4a7782dbf2ad2c82de819eed8d6f6a35aa9d371aa5788c174c2a437398784a95", func := "afterword/afterwordlaw13.PickTrees", spec := "pickTrees", unfollowed := true, recurses := true, named := ["math/bits.deBruijn32tab", "math/bits.deBruijn64tab"], loops := true, plainKeys := false, apart := false, laid := [("math/bits.deBruijn32tab", laid_math_bits_deBruijn32tab), ("math/bits.deBruijn64tab", laid_math_bits_deBruijn64tab)], narrowed := true }
def PickTreesUptoSaid : Prop := pickTreesUptoRow.holds Tryz.pinned (OpenSpec.upto pickTreesSpec)

/-- 'afterwordlaw13.PickReduces', WHERE WHAT IT READS IS OF BULK AT MOST 1048576: true; the input reads as it did. -/
def pickReducesUptoRow : OpenClaim := { program := "ytonjmakaebecjaagreatdoor", sum := "4a7782dbf2ad2c82de819eed8d6f6a35aa9d371aa5788c174c2a437398784a95", func := "afterword/afterwordlaw13.PickReduces", spec := "pickReduces", unfollowed := true, recurses := true, named := ["math/bits.deBruijn32tab", "math/bits.deBruijn64tab"], plainKeys := false, apart := false, laid := [("math/bits.deBruijn32tab", laid_math_bits_deBruijn32tab), ("math/bits.deBruijn64tab", laid_math_bits_deBruijn64tab)], narrowed := true }
def PickReducesUptoSaid : Prop := pickReducesUptoRow.holds Tryz.pinned (OpenSpec.upto pickReducesSpec)

/-- 'afterwordlaw13.PickParts', WHERE WHAT IT READS IS OF BULK AT MOST 1048576: true; the input reads as it did. -/
def pickPartsUptoRow : OpenClaim := { program := "ytonjmakaebecjaagreatdoor", sum := "4a7782dbf2ad2c82de819eed8d6f6a35aa9d371aa5788c174c2a437398784a95", func := "afterword/afterwordlaw13.PickParts", spec := "pickParts", unfollowed := true, recurses := true, named := ["math/bits.deBruijn32tab", "math/bits.deBruijn64tab"], plainKeys := false, apart := false, laid := [("math/bits.deBruijn32tab", laid_math_bits_deBruijn32tab), ("math/bits.deBruijn64tab", laid_math_bits_deBruijn64tab)], narrowed := true }
def PickPartsUptoSaid : Prop := pickPartsUptoRow.holds Tryz.pinned (OpenSpec.upto pickPartsSpec)

/-- 'afterwordlaw13.PickJoins', WHERE WHAT IT READS IS OF BULK AT MOST 1048576: true; the input reads as it did. -/
def pickJoinsUptoRow : OpenClaim := { program := "ytonjmakaebecjaagreatdoor", sum := "4a7782dbf2ad2c82de819eed8d6f6a35aa9d371aa5788c174c2a437398784a95", func := "afterword/afterwordlaw13.PickJoins", spec := "pickJoins", unfollowed := true, recurses := true, named := ["math/bits.deBruijn32tab", "math/bits.deBruijn64tab"], plainKeys := false, apart := false, laid := [("math/bits.deBruijn32tab", laid_math_bits_deBruijn32tab), ("math/bits.deBruijn64tab", laid_math_bits_deBruijn64tab)], narrowed := true }
def PickJoinsUptoSaid : Prop := pickJoinsUptoRow.holds Tryz.pinned (OpenSpec.upto pickJoinsSpec)

/-- 'afterwordlaw13.PickReduced', WHERE WHAT IT READS IS OF BULK AT MOST 1048576: true; the input reads as it did. -/
def pickReducedUptoRow : OpenClaim := { program := "ytonjmakaebecjaagreatdoor", sum := "4a7782dbf2ad2c82de819eed8d6f6a35aa9d371aa5788c174c2a437398784a95", func := "afterword/afterwordlaw13.PickReduced", spec := "pickReduced", unfollowed := true, recurses := true, named := ["math/bits.deBruijn32tab", "math/bits.deBruijn64tab"], plainKeys := false, apart := false, laid := [("math/bits.deBruijn32tab", laid_math_bits_deBruijn32tab), ("math/bits.deBruijn64tab", laid_math_bits_deBruijn64tab)], narrowed := true }
def PickReducedUptoSaid : Prop := pickReducedUptoRow.holds Tryz.pinned (OpenSpec.upto pickReducedSpec)

/-- 'afterwordlaw13.PickRules', WHERE WHAT IT READS IS OF BULK AT MOST 1048576: true; the input reads as it did. -/
def pickRulesUptoRow : OpenClaim := { program := "ytonjmakaebecjaagreatdoor", sum := "4a7782dbf2ad2c82de819eed8d6f6a35aa9d371aa5788c174c2a437398784a95", func := "afterword/afterwordlaw13.PickRules", spec := "pickRules", unfollowed := true, recurses := true, named := ["math/bits.deBruijn32tab", "math/bits.deBruijn64tab"], plainKeys := false, apart := false, laid := [("math/bits.deBruijn32tab", laid_math_bits_deBruijn32tab), ("math/bits.deBruijn64tab", laid_math_bits_deBruijn64tab)], narrowed := true }
def PickRulesUptoSaid : Prop := pickRulesUptoRow.holds Tryz.pinned (OpenSpec.upto pickRulesSpec)

/-- 'afterwordlaw13.PickLossless', WHERE WHAT IT READS IS OF BULK AT MOST 1048576: true; the input reads as it did. -/
def pickLosslessUptoRow : OpenClaim := { program := "ytonjmakaebecjaagreatdoor", sum := "4a7782dbf2ad2c82de819eed8d6f6a35aa9d371aa5788c174c2a437398784a95", func := "afterword/afterwordlaw13.PickLossless", spec := "pickLossless", unfollowed := true, recurses := true, named := ["math/bits.deBruijn32tab", "math/bits.deBruijn64tab"], plainKeys := false, apart := false, laid := [("math/bits.deBruijn32tab", laid_math_bits_deBruijn32tab), ("math/bits.deBruijn64tab", laid_math_bits_deBruijn64tab)], narrowed := true }
def PickLosslessUptoSaid : Prop := pickLosslessUptoRow.holds Tryz.pinned (OpenSpec.upto pickLosslessSpec)

/-- 'afterwordlaw13.PickBest', WHERE WHAT IT READS IS OF BULK AT MOST 1048576: true; the input reads as it did. -/
def pickBestUptoRow : OpenClaim := { program := "ytonjmakaebecjaagreatdoor", sum := "4a7782dbf2ad2c82de819eed8d6f6a35aa9d371aa5788c174c2a437398784a95", func := "afterword/afterwordlaw13.PickBest", spec := "pickBest", inPlace := ["slices.overlaps[int]"], unfollowed := true, recurses := true, named := ["math/bits.deBruijn32tab", "math/bits.deBruijn64tab"], loops := true, plainKeys := false, apart := false, laid := [("math/bits.deBruijn32tab", laid_math_bits_deBruijn32tab), ("math/bits.deBruijn64tab", laid_math_bits_deBruijn64tab)], narrowed := true }
def PickBestUptoSaid : Prop := pickBestUptoRow.holds Tryz.pinned (OpenSpec.upto pickBestSpec)

/-- 'afterwordlaw13.PickRing', WHERE WHAT IT READS IS OF BULK AT MOST 1048576: true; the input reads as it did. -/
def pickRingUptoRow : OpenClaim := { program := "ytonjmakaebecjaagreatdoor", sum := "4a7782dbf2ad2c82de819eed8d6f6a35aa9d371aa5788c174c2a437398784a95", func := "afterword/afterwordlaw13.PickRing", spec := "pickRing", inPlace := ["slices.overlaps[[]int]"], unfollowed := true, recurses := true, named := ["math/bits.deBruijn32tab", "math/bits.deBruijn64tab"], plainKeys := false, apart := false, laid := [("math/bits.deBruijn32tab", laid_math_bits_deBruijn32tab), ("math/bits.deBruijn64tab", laid_math_bits_deBruijn64tab)], narrowed := true }
def PickRingUptoSaid : Prop := pickRingUptoRow.holds Tryz.pinned (OpenSpec.upto pickRingSpec)

/-- 'afterwordlaw13.PickOrder', WHERE WHAT IT READS IS OF BULK AT MOST 1048576: true; the input reads as it did. -/
def pickOrderUptoRow : OpenClaim := { program := "ytonjmakaebecjaagreatdoor", sum := "4a7782dbf2ad2c82de819eed8d6f6a35aa9d371aa5788c174c2a437398784a95", func := "afterword/afterwordlaw13.PickOrder", spec := "pickOrder", inPlace := ["slices.overlaps[afterword/api.PickTable]"], unfollowed := true, recurses := true, named := ["math/bits.deBruijn32tab", "math/bits.deBruijn64tab"], plainKeys := false, apart := false, laid := [("math/bits.deBruijn32tab", laid_math_bits_deBruijn32tab), ("math/bits.deBruijn64tab", laid_math_bits_deBruijn64tab)], narrowed := true }
def PickOrderUptoSaid : Prop := pickOrderUptoRow.holds Tryz.pinned (OpenSpec.upto pickOrderSpec)

end Rows
end Go.Proofs.YtonjmakaebecjaaGreatDoor
