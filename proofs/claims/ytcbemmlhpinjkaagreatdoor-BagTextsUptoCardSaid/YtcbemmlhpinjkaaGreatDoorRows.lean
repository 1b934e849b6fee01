/-
  NARROWER THAN 'FOR EVERY INPUT', by the rows' own cells (each row's printed sentence says how): BagPairs: laid · BagTexts: laid · BagNews: laid · BagSums: laid · BagEdits: laid · BagCuts: laid · BagReads: laid · BagParted: laid.
  DERIVED. THE GIVEN ROWS OF THIS SEAT. 8 by the template 'for every input the law returns true; each argument reads behind the call as it read before'; 0 by the template 'total and deterministic' (their statements: YtcbemmlhpinjkaaGreatDoorTotals.lean).
  GIVEN WITH THE SEED: the statements are not yours to turn. If you find one false, say at which input.
  Laid BY PROGRAM, IN A SANDBOX (cutbox-rows.mjs): the forced cells as the released guide's own fill.sh prints them over the translation 87ca08421bbdd12b… (all of the seat's roots in one cut). By AI agents, Wed Nov 11 2026. No macro, syntax, notation, axiom, sorry.
-/
import Derived.Test.YtcbemmlhpinjkaaGreatDoorChecked
import GoSem.Claim
import GoSem.ClaimJoined
import GoSem.ClaimMapViews
import Derived.JoinedTies
import Derived.KernelRfl
namespace Go.Proofs.YtcbemmlhpinjkaaGreatDoor
/- THE CELL 'sum', in the pinned program and in every row, IS THE sha256 OF THE DUMP (.gsa) THAT YtcbemmlhpinjkaaGreatDoorProg.lean LOADS. Nothing in Lean hashes anything: it is a label: what it is worth is what the hold of that sum in a sandbox is worth. -/
noncomputable def Tryz.pinned : Pinned := { name := "ytcbemmlhpinjkaagreatdoor", sum := "87ca08421bbdd12be3a7ef8b4bed5aa5abc66b6a32315e3f9af516fa20911371", checked := Tryz.checked }
namespace Rows
def none {H : Type} : Left H := { results := [], args := [] }

/- WHAT THE LISTED PACKAGE-LEVEL VARIABLES READ AS WHEN THE CALL BEGINS. Each datum BY PROGRAM (the guide's laid-datum.mjs) off the statement by which the dump's own 'gosem.cut.vars' lays the variable. In a bare row this is a premise. The card (YtcbemmlhpinjkaaGreatDoorCards.lean) ties it to the program's text. -/
def laid_math_bits_deBruijn32tab {H : Type} : DataW H := .agg [.lit (.int .u8 0), .lit (.int .u8 1), .lit (.int .u8 28), .lit (.int .u8 2), .lit (.int .u8 29), .lit (.int .u8 14), .lit (.int .u8 24), .lit (.int .u8 3), .lit (.int .u8 30), .lit (.int .u8 22), .lit (.int .u8 20), .lit (.int .u8 15), .lit (.int .u8 25), .lit (.int .u8 17), .lit (.int .u8 4), .lit (.int .u8 8), .lit (.int .u8 31), .lit (.int .u8 27), .lit (.int .u8 13), .lit (.int .u8 23), .lit (.int .u8 21), .lit (.int .u8 19), .lit (.int .u8 16), .lit (.int .u8 7), .lit (.int .u8 26), .lit (.int .u8 12), .lit (.int .u8 18), .lit (.int .u8 6), .lit (.int .u8 11), .lit (.int .u8 5), .lit (.int .u8 10), .lit (.int .u8 9)]
def laid_math_bits_deBruijn64tab {H : Type} : DataW H := .agg [.lit (.int .u8 0), .lit (.int .u8 1), .lit (.int .u8 56), .lit (.int .u8 2), .lit (.int .u8 57), .lit (.int .u8 49), .lit (.int .u8 28), .lit (.int .u8 3), .lit (.int .u8 61), .lit (.int .u8 58), .lit (.int .u8 42), .lit (.int .u8 50), .lit (.int .u8 38), .lit (.int .u8 29), .lit (.int .u8 17), .lit (.int .u8 4), .lit (.int .u8 62), .lit (.int .u8 47), .lit (.int .u8 59), .lit (.int .u8 36), .lit (.int .u8 45), .lit (.int .u8 43), .lit (.int .u8 51), .lit (.int .u8 22), .lit (.int .u8 53), .lit (.int .u8 39), .lit (.int .u8 33), .lit (.int .u8 30), .lit (.int .u8 24), .lit (.int .u8 18), .lit (.int .u8 12), .lit (.int .u8 5), .lit (.int .u8 63), .lit (.int .u8 55), .lit (.int .u8 48), .lit (.int .u8 27), .lit (.int .u8 60), .lit (.int .u8 41), .lit (.int .u8 37), .lit (.int .u8 16), .lit (.int .u8 46), .lit (.int .u8 35), .lit (.int .u8 44), .lit (.int .u8 21), .lit (.int .u8 52), .lit (.int .u8 32), .lit (.int .u8 23), .lit (.int .u8 11), .lit (.int .u8 54), .lit (.int .u8 26), .lit (.int .u8 40), .lit (.int .u8 15), .lit (.int .u8 34), .lit (.int .u8 20), .lit (.int .u8 31), .lit (.int .u8 10), .lit (.int .u8 25), .lit (.int .u8 14), .lit (.int .u8 19), .lit (.int .u8 9), .lit (.int .u8 13), .lit (.int .u8 8), .lit (.int .u8 7), .lit (.int .u8 6)]
def laid_internal_strconv_uint64pow10 {H : Type} : DataW H := .agg [.lit (.int .u64 1), .lit (.int .u64 10), .lit (.int .u64 100), .lit (.int .u64 1000), .lit (.int .u64 10000), .lit (.int .u64 100000), .lit (.int .u64 1000000), .lit (.int .u64 10000000), .lit (.int .u64 100000000), .lit (.int .u64 1000000000), .lit (.int .u64 10000000000), .lit (.int .u64 100000000000), .lit (.int .u64 1000000000000), .lit (.int .u64 10000000000000), .lit (.int .u64 100000000000000), .lit (.int .u64 1000000000000000), .lit (.int .u64 10000000000000000), .lit (.int .u64 100000000000000000), .lit (.int .u64 1000000000000000000), .lit (.int .u64 10000000000000000000)]

/-- 'afterwordlaw04.BagPairs': WHATEVER THE INPUT: true; the input reads as it did. -/
def bagPairsSpec : ChangeSpec := { name := "bagPairs", fn := fun _ => fun
  | [d1, d2, d3] => { results := [.lit (.bool true)], args := [d1, d2, d3] }
  | _ => none }
def bagPairsRow : OpenClaim := { program := "ytcbemmlhpinjkaagreatdoor", sum := "87ca08421bbdd12be3a7ef8b4bed5aa5abc66b6a32315e3f9af516fa20911371", func := "afterword/afterwordlaw04.BagPairs", spec := "bagPairs", unfollowed := true, recurses := true, named := ["internal/strconv.uint64pow10", "math/bits.deBruijn32tab", "math/bits.deBruijn64tab"], plainKeys := false, apart := false, laid := [("math/bits.deBruijn32tab", laid_math_bits_deBruijn32tab), ("math/bits.deBruijn64tab", laid_math_bits_deBruijn64tab), ("internal/strconv.uint64pow10", laid_internal_strconv_uint64pow10)] }
def BagPairsSaid : Prop := bagPairsRow.holds Tryz.pinned (OpenSpec.ofChange bagPairsSpec)

/-- ITS FALSE NEIGHBOUR: 'it returns false'. Refute it at one input. -/
def bagPairsWrong : ChangeSpec := { name := "bagPairs", fn := fun _ => fun
  | [d1, d2, d3] => { results := [.lit (.bool false)], args := [d1, d2, d3] }
  | _ => none }
def BagPairsWrongFalsely : Prop := bagPairsRow.holds Tryz.pinned (OpenSpec.ofChange bagPairsWrong)

/-- 'afterwordlaw04.BagTexts': WHATEVER THE INPUT: true; the input reads as it did. -/
def bagTextsSpec : ChangeSpec := { name := "bagTexts", fn := fun _ => fun
  | [d1, d2] => { results := [.lit (.bool true)], args := [d1, d2] }
  | _ => none }
def bagTextsRow : OpenClaim := { program := "ytcbemmlhpinjkaagreatdoor", sum := "87ca08421bbdd12be3a7ef8b4bed5aa5abc66b6a32315e3f9af516fa20911371", func := "afterword/afterwordlaw04.BagTexts", spec := "bagTexts", unfollowed := true, recurses := true, named := ["internal/strconv.uint64pow10", "math/bits.deBruijn32tab", "math/bits.deBruijn64tab"], plainKeys := false, apart := false, laid := [("math/bits.deBruijn32tab", laid_math_bits_deBruijn32tab), ("math/bits.deBruijn64tab", laid_math_bits_deBruijn64tab), ("internal/strconv.uint64pow10", laid_internal_strconv_uint64pow10)] }
def BagTextsSaid : Prop := bagTextsRow.holds Tryz.pinned (OpenSpec.ofChange bagTextsSpec)

/-- ITS FALSE NEIGHBOUR: 'it returns false'. Refute it at one input. -/
def bagTextsWrong : ChangeSpec := { name := "bagTexts", fn := fun _ => fun
  | [d1, d2] => { results := [.lit (.bool false)], args := [d1, d2] }
  | _ => none }
def BagTextsWrongFalsely : Prop := bagTextsRow.holds Tryz.pinned (OpenSpec.ofChange bagTextsWrong)

/-- 'afterwordlaw04.BagNews': WHATEVER THE INPUT: true; the input reads as it did. -/
def bagNewsSpec : ChangeSpec := { name := "bagNews", fn := fun _ => fun
  | [d1, d2] => { results := [.lit (.bool true)], args := [d1, d2] }
  | _ => none }
def bagNewsRow : OpenClaim := { program := "ytcbemmlhpinjkaagreatdoor", sum := "87ca08421bbdd12be3a7ef8b4bed5aa5abc66b6a32315e3f9af516fa20911371", func := "afterword/afterwordlaw04.BagNews", spec := "bagNews", unfollowed := true, recurses := true, named := ["internal/strconv.uint64pow10", "math/bits.deBruijn32tab", "math/bits.deBruijn64tab"], plainKeys := false, apart := false, laid := [("math/bits.deBruijn32tab", laid_math_bits_deBruijn32tab), ("math/bits.deBruijn64tab", laid_math_bits_deBruijn64tab), ("internal/strconv.uint64pow10", laid_internal_strconv_uint64pow10)] }
def BagNewsSaid : Prop := bagNewsRow.holds Tryz.pinned (OpenSpec.ofChange bagNewsSpec)

/-- ITS FALSE NEIGHBOUR: 'it returns false'. Refute it at one input. -/
def bagNewsWrong : ChangeSpec := { name := "bagNews", fn := fun _ => fun
  | [d1, d2] => { results := [.lit (.bool false)], args := [d1, d2] }
  | _ => none }
def BagNewsWrongFalsely : Prop := bagNewsRow.holds Tryz.pinned (OpenSpec.ofChange bagNewsWrong)

/-- 'afterwordlaw04.BagSums': WHATEVER THE INPUT: true; the input reads as it did. -/
def bagSumsSpec : ChangeSpec := { name := "bagSums", fn := fun _ => fun
  | [d1, d2] => { results := [.lit (.bool true)], args := [d1, d2] }
  | _ => none }
def bagSumsRow : OpenClaim := { program := "ytcbemmlhpinjkaagreatdoor", sum := "87ca08421bbdd12be3a7ef8b4bed5aa5abc66b6a32315e3f9af516fa20911371", func := "afterword/afterwordlaw04.BagSums", spec := "bagSums", unfollowed := true, recurses := true, named := ["internal/strconv.uint64pow10", "math/bits.deBruijn32tab", "math/bits.deBruijn64tab"], plainKeys := false, apart := false, laid := [("math/bits.deBruijn32tab", laid_math_bits_deBruijn32tab), ("math/bits.deBruijn64tab", laid_math_bits_deBruijn64tab), ("internal/strconv.uint64pow10", laid_internal_strconv_uint64pow10)] }
def BagSumsSaid : Prop := bagSumsRow.holds Tryz.pinned (OpenSpec.ofChange bagSumsSpec)

/-- ITS FALSE NEIGHBOUR: 'it returns false'. Refute it at one input. -/
def bagSumsWrong : ChangeSpec := { name := "bagSums", fn := fun _ => fun
  | [d1, d2] => { results := [.lit (.bool false)], args := [d1, d2] }
  | _ => none }
def BagSumsWrongFalsely : Prop := bagSumsRow.holds Tryz.pinned (OpenSpec.ofChange bagSumsWrong)

/-- 'afterwordlaw04.BagEdits': WHATEVER THE INPUT: true; the input reads as it did. -/
def bagEditsSpec : ChangeSpec := { name := "bagEdits", fn := fun _ => fun
  | [d1, d2, d3] => { results := [.lit (.bool true)], args := [d1, d2, d3] }
  | _ => none }
def bagEditsRow : OpenClaim := { program := "ytcbemmlhpinjkaagreatdoor", sum := "87ca08421bbdd12be3a7ef8b4bed5aa5abc66b6a32315e3f9af516fa20911371", func := "afterword/afterwordlaw04.BagEdits", spec := "bagEdits", unfollowed := true, recurses := true, named := ["internal/strconv.uint64pow10", "math/bits.deBruijn32tab", "math/bits.deBruijn64tab"], plainKeys := false, apart := false, laid := [("math/bits.deBruijn32tab", laid_math_bits_deBruijn32tab), ("math/bits.deBruijn64tab", laid_math_bits_deBruijn64tab), ("internal/strconv.uint64pow10", laid_internal_strconv_uint64pow10)] }
def BagEditsSaid : Prop := bagEditsRow.holds Tryz.pinned (OpenSpec.ofChange bagEditsSpec)

/-- ITS FALSE NEIGHBOUR: 'it returns false'. Refute it at one input. -/
def bagEditsWrong : ChangeSpec := { name := "bagEdits", fn := fun _ => fun
  | [d1, d2, d3] => { results := [.lit (.bool false)], args := [d1, d2, d3] }
  | _ => none }
def BagEditsWrongFalsely : Prop := bagEditsRow.holds Tryz.pinned (OpenSpec.ofChange bagEditsWrong)

/-- 'afterwordlaw04.BagCuts': WHATEVER THE INPUT: true; the input reads as it did. -/
def bagCutsSpec : ChangeSpec := { name := "bagCuts", fn := fun _ => fun
  | [d1, d2, d3] => { results := [.lit (.bool true)], args := [d1, d2, d3] }
  | _ => none }
def bagCutsRow : OpenClaim := { program := "ytcbemmlhpinjkaagreatdoor", sum := "87ca08421bbdd12be3a7ef8b4bed5aa5abc66b6a32315e3f9af516fa20911371", func := "afterword/afterwordlaw04.BagCuts", spec := "bagCuts", unfollowed := true, recurses := true, named := ["internal/strconv.uint64pow10", "math/bits.deBruijn32tab", "math/bits.deBruijn64tab"], plainKeys := false, apart := false, laid := [("math/bits.deBruijn32tab", laid_math_bits_deBruijn32tab), ("math/bits.deBruijn64tab", laid_math_bits_deBruijn64tab), ("internal/strconv.uint64pow10", laid_internal_strconv_uint64pow10)] }
def BagCutsSaid : Prop := bagCutsRow.holds Tryz.pinned (OpenSpec.ofChange bagCutsSpec)

/-- ITS FALSE NEIGHBOUR: 'it returns false'. Refute it at one input. -/
def bagCutsWrong : ChangeSpec := { name := "bagCuts", fn := fun _ => fun
  | [d1, d2, d3] => { results := [.lit (.bool false)], args := [d1, d2, d3] }
  | _ => none }
def BagCutsWrongFalsely : Prop := bagCutsRow.holds Tryz.pinned (OpenSpec.ofChange bagCutsWrong)

/-- 'afterwordlaw04.BagReads': WHATEVER THE INPUT: true; the input reads as it did. -/
def bagReadsSpec : ChangeSpec := { name := "bagReads", fn := fun _ => fun
  | [d1, d2] => { results := [.lit (.bool true)], args := [d1, d2] }
  | _ => none }
def bagReadsRow : OpenClaim := { program := "ytcbemmlhpinjkaagreatdoor", sum := "87ca08421bbdd12be3a7ef8b4bed5aa5abc66b6a32315e3f9af516fa20911371", func := "afterword/afterwordlaw04.BagReads", spec := "bagReads", unfollowed := true, recurses := true, named := ["internal/strconv.uint64pow10", "math/bits.deBruijn32tab", "math/bits.deBruijn64tab"], plainKeys := false, apart := false, laid := [("math/bits.deBruijn32tab", laid_math_bits_deBruijn32tab), ("math/bits.deBruijn64tab", laid_math_bits_deBruijn64tab), ("internal/strconv.uint64pow10", laid_internal_strconv_uint64pow10)] }
def BagReadsSaid : Prop := bagReadsRow.holds Tryz.pinned (OpenSpec.ofChange bagReadsSpec)

/-- ITS FALSE NEIGHBOUR: 'it returns false'. Refute it at one input. -/
def bagReadsWrong : ChangeSpec := { name := "bagReads", fn := fun _ => fun
  | [d1, d2] => { results := [.lit (.bool false)], args := [d1, d2] }
  | _ => none }
def BagReadsWrongFalsely : Prop := bagReadsRow.holds Tryz.pinned (OpenSpec.ofChange bagReadsWrong)

/-- 'afterwordlaw04.BagParted': WHATEVER THE INPUT: true; the input reads as it did. -/
def bagPartedSpec : ChangeSpec := { name := "bagParted", fn := fun _ => fun
  | [d1, d2, d3, d4] => { results := [.lit (.bool true)], args := [d1, d2, d3, d4] }
  | _ => none }
def bagPartedRow : OpenClaim := { program := "ytcbemmlhpinjkaagreatdoor", sum := "87ca08421bbdd12be3a7ef8b4bed5aa5abc66b6a32315e3f9af516fa20911371", func := "afterword/afterwordlaw04.BagParted", spec := "bagParted", unfollowed := true, recurses := true, named := ["internal/strconv.uint64pow10", "math/bits.deBruijn32tab", "math/bits.deBruijn64tab"], plainKeys := false, apart := false, laid := [("math/bits.deBruijn32tab", laid_math_bits_deBruijn32tab), ("math/bits.deBruijn64tab", laid_math_bits_deBruijn64tab), ("internal/strconv.uint64pow10", laid_internal_strconv_uint64pow10)] }
def BagPartedSaid : Prop := bagPartedRow.holds Tryz.pinned (OpenSpec.ofChange bagPartedSpec)

/-- ITS FALSE NEIGHBOUR: 'it returns false'. Refute it at one input. -/
def bagPartedWrong : ChangeSpec := { name := "bagParted", fn := fun _ => fun
  | [d1, d2, d3, d4] => { results := [.lit (.bool false)], args := [d1, d2, d3, d4] }
  | _ => none }
def BagPartedWrongFalsely : Prop := bagPartedRow.holds Tryz.pinned (OpenSpec.ofChange bagPartedWrong)

/- THE SECOND FORM. 'bulk': how many values and letters a reading holds, each counted each time it is reached (what is shared counts as often as it is met; a slice's spare places count too). A statement '..UptoSaid' is the law's where the arguments, and the package variables that the reading takes, are together of bulk at most 1048576: NARROWER than '..Said'. Prove '..Said' where nothing that the law and all that it calls make is longer than what came in: it says more and counts as full. Else prove '..UptoSaid'. A law counts once. -/
mutual
def uptoBulk {H : Type} : DataW H → Nat
  | .lit (.string bytes) => bytes.length + 1
  | .lit _ => 1
  | .nil => 1
  | .ptr d => uptoBulk d + 1
  | .slice elems spare => uptoBulkAll elems + uptoBulkAll spare + 1
  | .agg parts => uptoBulkAll parts + 1
  | .iface _ d => uptoBulk d + 1
  | .map entries => uptoBulkEntries entries + 1
  | .held _ => 1
def uptoBulkAll {H : Type} : List (DataW H) → Nat
  | [] => 0
  | d :: r => uptoBulk d + uptoBulkAll r
def uptoBulkEntries {H : Type} : List (Lit × DataW H) → Nat
  | [] => 0
  | x :: r => uptoBulkEntry x + uptoBulkEntries r
def uptoBulkEntry {H : Type} : Lit × DataW H → Nat
  | (.string bytes, d) => bytes.length + uptoBulk d + 1
  | (_, d) => uptoBulk d + 1
 end
def uptoSmall : (H : Type) → List (DataW H) → Bool := fun _ ds => decide (uptoBulkAll ds ≤ 1048576)
def OpenSpec.upto (s : _root_.Go.ChangeSpec) : _root_.Go.OpenSpec := { _root_.Go.OpenSpec.ofChange s with cond := some uptoSmall }

/-- 'afterwordlaw04.BagPairs', WHERE WHAT IT READS IS OF BULK AT MOST 1048576: true; the input reads as it did. -/
def bagPairsUptoRow : OpenClaim := { program := "ytcbemmlhpinjkaagreatdoor", sum := "87ca08421bbdd12be3a7ef8b4bed5aa5abc66b6a32315e3f9af516fa20911371", func := "afterword/afterwordlaw04.BagPairs", spec := "bagPairs", unfollowed := true, recurses := true, named := ["internal/strconv.uint64pow10", "math/bits.deBruijn32tab", "math/bits.deBruijn64tab"], plainKeys := false, apart := false, laid := [("math/bits.deBruijn32tab", laid_math_bits_deBruijn32tab), ("math/bits.deBruijn64tab", laid_math_bits_deBruijn64tab), ("internal/strconv.uint64pow10", laid_internal_strconv_uint64pow10)], narrowed := true }
def BagPairsUptoSaid : Prop := bagPairsUptoRow.holds Tryz.pinned (OpenSpec.upto bagPairsSpec)

/-- 'afterwordlaw04.BagTexts', WHERE WHAT IT READS IS OF BULK AT MOST 1048576: true; the input reads as it did. -/
def bagTextsUptoRow : OpenClaim := { program := "ytcbemmlhpinjkaagreatdoor", sum := "87ca08421bbdd12be3a7ef8b4bed5aa5abc66b6a32315e3f9af516fa20911371", func := "afterword/afterwordlaw04.BagTexts", spec := "bagTexts", unfollowed := true, recurses := true, named := ["internal/strconv.uint64pow10", "math/bits.deBruijn32tab", "math/bits.deBruijn64tab"], plainKeys := false, apart := false, laid := [("math/bits.deBruijn32tab", laid_math_bits_deBruijn32tab), ("math/bits.deBruijn64tab", laid_math_bits_deBruijn64tab), ("internal/strconv.uint64pow10", laid_internal_strconv_uint64pow10)], narrowed := true }
def BagTextsUptoSaid : Prop := bagTextsUptoRow.holds Tryz.pinned (OpenSpec.upto bagTextsSpec)

/-- 'afterwordlaw04.BagNews', WHERE WHAT IT READS IS OF BULK AT MOST 1048576: true; the input reads as it did. -/
def bagNewsUptoRow : OpenClaim := { program := "ytcbemmlhpinjkaagreatdoor", sum := "87ca08421bbdd12be3a7ef8b4bed5aa5abc66b6a32315e3f9af516fa20911371", func := "afterword/afterwordlaw04.BagNews", spec := "bagNews", unfollowed := true, recurses := true, named := ["internal/strconv.uint64pow10", "math/bits.deBruijn32tab", "math/bits.deBruijn64tab"], plainKeys := false, apart := false, laid := [("math/bits.deBruijn32tab", laid_math_bits_deBruijn32tab), ("math/bits.deBruijn64tab", laid_math_bits_deBruijn64tab), ("internal/strconv.uint64pow10", laid_internal_strconv_uint64pow10)], narrowed := true }
def BagNewsUptoSaid : Prop := bagNewsUptoRow.holds Tryz.pinned (OpenSpec.upto bagNewsSpec)

/-- 'afterwordlaw04.BagSums', WHERE WHAT IT READS IS OF BULK AT MOST 1048576: true; the input reads as it did. -/
def bagSumsUptoRow : OpenClaim := { program := "ytcbemmlhpinjkaagreatdoor", sum := "87ca08421bbdd12be3a7ef8b4bed5aa5abc66b6a32315e3f9af516fa20911371", func := "afterword/afterwordlaw04.BagSums", spec := "bagSums", unfollowed := true, recurses := true, named := ["internal/strconv.uint64pow10", "math/bits.deBruijn32tab", "math/bits.deBruijn64tab"], plainKeys := false, apart := false, laid := [("math/bits.deBruijn32tab", laid_math_bits_deBruijn32tab), ("math/bits.deBruijn64tab", laid_math_bits_deBruijn64tab), ("internal/strconv.uint64pow10", laid_internal_strconv_uint64pow10)], narrowed := true }
def BagSumsUptoSaid : Prop := bagSumsUptoRow.holds Tryz.pinned (OpenSpec.upto bagSumsSpec)

/-- 'afterwordlaw04.BagEdits', WHERE WHAT IT READS IS OF BULK AT MOST 1048576: true; the input reads as it did. -/
def bagEditsUptoRow : OpenClaim := { program := "ytcbemmlhpinjkaagreatdoor", sum := "87ca08421bbdd12be3a7ef8b4bed5aa5abc66b6a32315e3f9af516fa20911371", func := "afterword/afterwordlaw04.BagEdits", spec := "bagEdits", unfollowed := true, recurses := true, named := ["internal/strconv.uint64pow10", "math/bits.deBruijn32tab", "math/bits.deBruijn64tab"], plainKeys := false, apart := false, laid := [("math/bits.deBruijn32tab", laid_math_bits_deBruijn32tab), ("math/bits.deBruijn64tab", laid_math_bits_deBruijn64tab), ("internal/strconv.uint64pow10", laid_internal_strconv_uint64pow10)], narrowed := true }
def BagEditsUptoSaid : Prop := bagEditsUptoRow.holds Tryz.pinned (OpenSpec.upto bagEditsSpec)

/-- 'afterwordlaw04.BagCuts', WHERE WHAT IT READS IS OF BULK AT MOST 1048576: true; the input reads as it did. -/
def bagCutsUptoRow : OpenClaim := { program := "ytcbemmlhpinjkaagreatdoor", sum := "87ca08421bbdd12be3a7ef8b4bed5aa5abc66b6a32315e3f9af516fa20911371", func := "afterword/afterwordlaw04.BagCuts", spec := "bagCuts", unfollowed := true, recurses := true, named := ["internal/strconv.uint64pow10", "math/bits.deBruijn32tab", "math/bits.deBruijn64tab"], plainKeys := false, apart := false, laid := [("math/bits.deBruijn32tab", laid_math_bits_deBruijn32tab), ("math/bits.deBruijn64tab", laid_math_bits_deBruijn64tab), ("internal/strconv.uint64pow10", laid_internal_strconv_uint64pow10)], narrowed := true }
def BagCutsUptoSaid : Prop := bagCutsUptoRow.holds Tryz.pinned (OpenSpec.upto bagCutsSpec)

/-- 'afterwordlaw04.BagReads', WHERE WHAT IT READS IS OF BULK AT MOST 1048576: true; the input reads as it did. -/
def bagReadsUptoRow : OpenClaim := { program := "ytcbemmlhpinjkaagreatdoor", sum := "87ca08421bbdd12be3a7ef8b4bed5aa5abc66b6a32315e3f9af516fa20911371", func := "afterword/afterwordlaw04.BagReads", spec := "bagReads", unfollowed := true, recurses := true, named := ["internal/strconv.uint64pow10", "math/bits.deBruijn32tab", "math/bits.deBruijn64tab"], plainKeys := false, apart := false, laid := [("math/bits.deBruijn32tab", laid_math_bits_deBruijn32tab), ("math/bits.deBruijn64tab", laid_math_bits_deBruijn64tab), ("internal/strconv.uint64pow10", laid_internal_strconv_uint64pow10)], narrowed := true }
def BagReadsUptoSaid : Prop := bagReadsUptoRow.holds Tryz.pinned (OpenSpec.upto bagReadsSpec)

/-- 'afterwordlaw04.BagParted', WHERE WHAT IT READS IS OF BULK AT MOST 1048576: true; the input reads as it did. -/
def bagPartedUptoRow : OpenClaim := { program := "ytcbemmlhpinjkaagreatdoor", sum := "87ca08421bbdd12be3a7ef8b4bed5aa5abc66b6a32315e3f9af516fa20911371", func := "afterword/afterwordlaw04.BagParted", spec := "bagParted", unfollowed := true, recurses := true, named := ["internal/strconv.uint64pow10", "math/bits.deBruijn32tab", "math/bits.deBruijn64tab"], plainKeys := false, apart := false, laid := [("math/bits.deBruijn32tab", laid_math_bits_deBruijn32tab), ("math/bits.deBruijn64tab", laid_math_bits_deBruijn64tab), ("internal/strconv.uint64pow10", laid_internal_strconv_uint64pow10)], narrowed := true }
def BagPartedUptoSaid : Prop := bagPartedUptoRow.holds Tryz.pinned (OpenSpec.upto bagPartedSpec)

end Rows
end Go.Proofs.YtcbemmlhpinjkaaGreatDoor
