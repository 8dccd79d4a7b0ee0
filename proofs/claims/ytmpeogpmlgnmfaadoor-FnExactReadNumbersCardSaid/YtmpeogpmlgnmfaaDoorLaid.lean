/- What the rows' condition on the library's tables gives a walk: the table of the powers of ten. -/
import Derived.Test.YtmpeogpmlgnmfaaDoorBase
import Derived.Test.YtmpeogpmlgnmfaaDoorTie
import Derived.Test.YtmpeogpmlgnmfaaDoorCards
import Derived.Lib.LaidTab
import Derived.Lib.ItoaNum
import Derived.Stop.LaidErr
import Derived.MakeChecks
import Derived.LaidMore
import Derived.Stop.Joined
import Derived.SevenTiedAt
namespace Go.Proofs.YtmpeogpmlgnmfaaDoor
open Go.ChangeShapes Go.WideShapes Go.ChangeAt Go.RowKit Flt

/-- the powers of ten stand in their table -/
def powName : String := Rows.fnExactDecimalRow.named.headD default
def Pow (w : World) : Prop := Lib.TabIs Tryd.prog w powName .u64 Lib.pow10Tab
theorem pow_block : Tryd.prog.globalNamed powName = some 1 := by kernel_rfl
theorem pow_of_head {W : World} {rest : List (String × DataW Unit)} (h : laidMet Tryd.prog ((powName, Rows.laid_internal_strconv_uint64pow10) :: rest) W) : Pow W := by
  have e : (Rows.laid_internal_strconv_uint64pow10 : DataW Unit) = Lib.tabData .u64 Lib.pow10Tab := by kernel_rfl
  rw [e] at h
  exact Lib.tabIs_of_head pow_block (by kernel_rfl) Tryd.underlying110 Tryd.underlying77 (by kernel_rfl) (by kernel_rfl) h
/-- the table's block stands below every world in which the condition held, and the table is kept -/
theorem Pow.lt {w : World} (h : Pow w) : 1 < w.heap.size := by
  have hc := h.cell pow_block 0 (by decide)
  exact World.block_lt_of_cell? w _ hc
theorem Pow.below {w w' : World} (h : Pow w) (hb : Below w.heap.size w w') : Pow w' := by
  have hl := h.lt
  unfold Pow Lib.TabIs World.var? at h ⊢
  rw [pow_block] at h ⊢
  simp only [Option.bind_some] at h ⊢
  rw [hb.block _ hl]
  exact h
theorem pow_of_laid3 {W : World} (h : laidMetH Tryd.prog Rows.fnExactDecimalRow.laid W) : Pow W := by
  rw [MakeChecks.laidMetH_plain _ _ _ (by kernel_rfl)] at h
  exact pow_of_head (laidMet.tail (laidMet.tail h))
end Go.Proofs.YtmpeogpmlgnmfaaDoor
