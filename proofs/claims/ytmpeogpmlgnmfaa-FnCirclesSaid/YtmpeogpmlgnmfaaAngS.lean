/- The angle of a point, as the reference reckons it. -/
import Derived.Test.YtmpeogpmlgnmfaaAng
namespace Go.Proofs.Ytmpeogpmlgnmfaa
open Go.RowKit Flt
theorem ang_two (j : Nat) (h : j < 8) : wrap64 (15 - 2 * (j : Int) - 2) = 15 - 2 * (j : Int) - 2 := by unfold wrap64; omega
end Go.Proofs.Ytmpeogpmlgnmfaa
