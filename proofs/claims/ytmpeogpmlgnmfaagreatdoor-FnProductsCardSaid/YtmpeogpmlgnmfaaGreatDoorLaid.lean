/- What the rows' condition on the library's tables gives a walk: the table of the powers of ten. -/
import Derived.Test.YtmpeogpmlgnmfaaGreatDoorBase
import Derived.Test.YtmpeogpmlgnmfaaGreatDoorTie
import Derived.Test.YtmpeogpmlgnmfaaGreatDoorCards
import Derived.Lib.LaidTab
import Derived.Lib.ItoaNum
import Derived.Stop.LaidErr
import Derived.MakeChecks
import Derived.LaidMore
import Derived.Stop.Joined
import Derived.SevenTiedAt
namespace Go.Proofs.YtmpeogpmlgnmfaaGreatDoor
set_option maxRecDepth 100000
open Go.ChangeShapes Go.WideShapes Go.ChangeAt Go.RowKit Flt

/-- the powers of ten stand in their table -/
def powName : String := "internal/strconv.uint64pow10"
def Pow (w : World) : Prop := Lib.TabIs Tryz.prog w powName .u64 Lib.pow10Tab
theorem pow_block : Tryz.prog.globalNamed powName = some 1 := by kernel_rfl
theorem pow_of_head {W : World} {rest : List (String × DataW Unit)} (h : laidMet Tryz.prog ((powName, Rows.laid_internal_strconv_uint64pow10) :: rest) W) : Pow W := by
  have e : (Rows.laid_internal_strconv_uint64pow10 : DataW Unit) = Lib.tabData .u64 Lib.pow10Tab := by kernel_rfl
  rw [e] at h
  exact Lib.tabIs_of_head pow_block (by kernel_rfl) Tryz.underlying137 Tryz.underlying85 (by kernel_rfl) (by kernel_rfl) h
/-- the table's block stands below every world in which the condition held, and the table is kept -/
theorem Pow.lt {w : World} (h : Pow w) : 1 < w.heap.size := by
  have hc := h.cell pow_block 0 (by decide)
  exact World.block_lt_of_cell? w _ hc
theorem Pow.below {w w' : World} (h : Pow w) (hb : Below w.heap.size w w') : Pow w' := by
  have hl := h.lt
  unfold Pow Lib.TabIs World.var? at h ⊢
  rw [pow_block] at h ⊢
  simp only [Option.bind_some] at h ⊢
  rw [hb.block _ hl]
  exact h
end Go.Proofs.YtmpeogpmlgnmfaaGreatDoor
