/- Contracts of the laws' own functions on slices of float32: a copy, and whether two are the same. -/
import Derived.Test.YtmpeogpmlgnmfaaGreatDoorNum
import Derived.Test.YtmpeogpmlgnmfaaGreatDoorCells
import Derived.LoopTactic
import Derived.Deep.RegionWith
namespace Go.Proofs.YtmpeogpmlgnmfaaGreatDoor
set_option maxRecDepth 100000
open Go.RowKit Go.Deep Flt

theorem info_f32 : (Tryz.prog.info? 28).map (fun i => (i.zero, i.size, i.bytes)) = some (some (.float .f32 0), 1, 4) := by kernel_rfl

/-- what a copy holds after k rounds -/
def cpy (X : Nat → Nat) (k i : Nat) : Value := if i < k then .float .f32 (X i) else .float .f32 0

end Go.Proofs.YtmpeogpmlgnmfaaGreatDoor
