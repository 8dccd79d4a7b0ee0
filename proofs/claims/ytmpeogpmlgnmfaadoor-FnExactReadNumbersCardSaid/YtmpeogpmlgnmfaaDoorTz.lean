/- The library's trailing zeros of 16, by the table as the rows list it. -/
import Derived.Test.YtmpeogpmlgnmfaaDoorLaid
import Derived.Lib.TrailingZeros
import Derived.LoopTactic
namespace Go.Proofs.YtmpeogpmlgnmfaaDoor
open Go.ChangeShapes Go.WideShapes Go.ChangeAt Go.RowKit Flt

def tzName : String := (Rows.fnExactDecimalRow.named.drop 2).headD default
theorem tz_block : Tryd.prog.globalNamed tzName = some 5 := by kernel_rfl
/-- what of the table the walk reads -/
def Tz (w : World) : Prop := w.cell? ⟨5, 15, none⟩ = some (.int .u8 4)
theorem Tz.below {w w' : World} (h : Tz w) (hb : Below w.heap.size w w') : Tz w' := (hb.cell (World.block_lt_of_cell? w _ h)).trans h
def tzTab : List Int := [0, 1, 56, 2, 57, 49, 28, 3, 61, 58, 42, 50, 38, 29, 17, 4, 62, 47, 59, 36, 45, 43, 51, 22, 53, 39, 33, 30, 24, 18, 12, 5, 63, 55, 48, 27, 60, 41, 37, 16, 46, 35, 44, 21, 52, 32, 23, 11, 54, 26, 40, 15, 34, 20, 31, 10, 25, 14, 19, 9, 13, 8, 7, 6]
theorem tz_of_head {W : World} {rest : List (String × DataW Unit)} (h : laidMet Tryd.prog ((tzName, Rows.laid_math_bits_deBruijn64tab) :: rest) W) : Tz W := by
  have e : (Rows.laid_math_bits_deBruijn64tab : DataW Unit) = Lib.tabData .u8 tzTab := by kernel_rfl
  rw [e] at h
  exact (Lib.tabIs_of_head tz_block (by kernel_rfl) Tryd.underlying138 Tryd.underlying5 (by kernel_rfl) (by kernel_rfl) h).cell tz_block 15 (by decide)
theorem tz64_16 (w : World) (h : Tz w) : Calls Tryd.prog 109 #[.int .u64 16] w fun e w' => e = .returned (.int .i64 4) ∧ w = w' := by
  unfold Tz at h
  have hw : IntKind.u64.wrap (-16) = 18446744073709551600 := by decide
  have hb : bits .and .u64 16 18446744073709551600 = 16 := by decide
  go_enter Tryd.func109, Tryd.ntmps109
  go_wp2
  go_ret
  exact ⟨rfl, rfl⟩
theorem tz_16 (w : World) (h : Tz w) : Calls Tryd.prog 94 #[.int .u64 16] w fun e w' => e = .returned (.int .i64 4) ∧ w = w' := by
  have HC := Lib.hid (tz64_16 w h)
  clear h
  go_enter Tryd.func94, Tryd.ntmps94
  go_wp2_with fail
  refine HC.out.mono ?_
  rintro e w' ⟨rfl, rfl⟩
  go_wp2
  go_ret
  exact ⟨rfl, rfl⟩
theorem pow2_16 (w : World) : Calls Tryd.prog 93 #[.int .i64 16] w fun e w' => e = .returned (.bool true) ∧ w = w' := by
  go_enter Tryd.func93, Tryd.ntmps93
  go_wp2
  go_ret
  exact ⟨rfl, rfl⟩
end Go.Proofs.YtmpeogpmlgnmfaaDoor
