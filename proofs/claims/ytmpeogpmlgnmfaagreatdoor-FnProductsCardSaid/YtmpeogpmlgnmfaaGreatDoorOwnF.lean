/- Slices of float32 that a call has made: what marks them, what finds the marks, whether two are the same. -/
import Derived.Test.YtmpeogpmlgnmfaaGreatDoorOwn
import Derived.Test.YtmpeogpmlgnmfaaGreatDoorArr
namespace Go.Proofs.YtmpeogpmlgnmfaaGreatDoor
set_option maxRecDepth 100000
open Go.RowKit Go.Deep Flt

theorem ofInt_rung (z : Int) : rung FloatKind.f32.format (floatOfInt .f32 z) ≤ FloatKind.f32.format.infRung := by
  show rung FloatKind.f32.format (FloatKind.f32.format.write (.number _ _ 0)) ≤ _
  exact rung_write rfl
theorem ofInt_cls (z : Int) : cls .f32 (floatOfInt .f32 z) = some (floatOfInt .f32 z) := by
  unfold cls
  rw [if_pos (ofInt_rung z)]
end Go.Proofs.YtmpeogpmlgnmfaaGreatDoor
