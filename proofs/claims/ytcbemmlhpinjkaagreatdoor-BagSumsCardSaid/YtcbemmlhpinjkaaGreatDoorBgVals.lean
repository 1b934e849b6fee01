/- The chapter's examples, computed by the plain law. -/
import Derived.Test.YtcbemmlhpinjkaaGreatDoorBgLits
import Derived.Test.YtcbemmlhpinjkaaGreatDoorBgParseAll
import Derived.Test.YtcbemmlhpinjkaaGreatDoorBgBytes
import Derived.Test.YtcbemmlhpinjkaaGreatDoorBgPair
namespace Go.Proofs.Bg

def kAdd : List It := [⟨⟨1, 2, 5⟩, -2⟩, ⟨⟨2, 2, 7⟩, 3⟩, ⟨⟨4, 0, 0⟩, 1⟩]
def kNeg : List It := [⟨⟨1, 2, 3⟩, 1⟩, ⟨⟨2, 2, 7⟩, -3⟩]
def kNew0 : List It := [⟨⟨4, 0, 0⟩, 2⟩, ⟨⟨1, 1, 1⟩, 5⟩, ⟨⟨4, 0, 0⟩, -2⟩]
def kNew : List It := [⟨⟨1, 1, 1⟩, 5⟩]
def kPair : List It := [⟨⟨1, 2, 6⟩, -1⟩, ⟨⟨1, 2, 8⟩, 2⟩, ⟨⟨2, 2, 10⟩, 3⟩, ⟨⟨2, 2, 12⟩, -6⟩]
def kEds : List Ed := [⟨2, ⟨4, 0, 0⟩, zRc, 1⟩, ⟨3, ⟨1, 2, 3⟩, ⟨1, 2, 5⟩, 2⟩, ⟨1, zRc, ⟨2, 2, 7⟩, 3⟩]
def kText : List UInt8 := [49, 32, 50, 32, 51, 32, 49, 59, 32, 49, 32, 50, 32, 53, 32, 45, 50, 59, 32, 52, 32, 48, 32, 48, 32, 49]
def kBytes : List Int := [2, 1, 4, 6, 1, 1, 4, 14, 6]
def kSrc : List UInt8 := [49, 32, 50, 32, 51, 32, 48]
theorem vAdd : addR bL cL = (kAdd, 0) := by decide +kernel
theorem vNeg : negR cL = (kNeg, 0) := by decide +kernel
theorem vNew : newR kNew0 = (kNew, 0) := by decide +kernel
theorem vPair : pairR bL cL 1 = (kPair, 0) := by decide +kernel
theorem vEds : editsR bL cL = (kEds, 0) := by decide +kernel
theorem vText : printR bL = (kText, 0) := by decide +kernel
theorem vBytes : bytesR cL = (kBytes, 0) := by decide +kernel
theorem vParse : parseR kSrc = ([], 4) := by decide +kernel
end Go.Proofs.Bg
