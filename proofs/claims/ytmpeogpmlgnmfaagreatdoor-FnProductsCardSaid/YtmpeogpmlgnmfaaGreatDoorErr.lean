/- The library's two errors as the rows list them, where ParseInt is not reached. -/
import Derived.Test.YtmpeogpmlgnmfaaGreatDoorRlS
import Derived.Test.YtmpeogpmlgnmfaaGreatDoorShErr
import Derived.Test.YtmpeogpmlgnmfaaGreatDoorLaid
import Derived.LaidLaws
import Derived.Stop.LaidErr
namespace Go.Proofs.YtmpeogpmlgnmfaaGreatDoor
set_option maxRecDepth 100000
open Go.ChangeShapes Go.WideShapes Go.ChangeAt Go.RowKit Go.Deep Flt

def synName : String := "strconv.ErrSyntax"
def rngName : String := "strconv.ErrRange"
theorem syn_block : Tryz.prog.globalNamed synName = some 2 := by kernel_rfl
theorem rng_block : Tryz.prog.globalNamed rngName = some 3 := by kernel_rfl
theorem syn_type : (Tryz.prog.globals[2]?).map (·.type) = some 94 := by kernel_rfl
theorem rng_type : (Tryz.prog.globals[3]?).map (·.type) = some 94 := by kernel_rfl
theorem err_cells : Tryz.prog.cellsOf 155 = 1 := by kernel_rfl
theorem text_cells : Tryz.prog.cellsOf 9 = 1 := by kernel_rfl
theorem err_star : "*" ++ "errors.errorString" = "*errors.errorString" := by decide
theorem err_row (u : TypeId) (h : Tryz.prog.typeName? 3 u = some "*errors.errorString") : u = 153 :=
  typeName_ptr_named (nm := "errors.errorString") (by rw [err_star]; kernel_rfl) (by kernel_rfl) (by decide) u (by rw [err_star]; exact h)
/-- a variable of the library's that holds an error -/
def Sent (w : World) (n : String) : Prop := ∃ tp p, w.var? Tryz.prog n = some #[.iface tp p]
theorem Sent.below {w w' : World} {n : String} {g : Nat} (hg : Tryz.prog.globalNamed n = some g) (h : Sent w n) (hb : Below w.heap.size w w') : Sent w' n := by
  obtain ⟨tp, p, h⟩ := h
  have hc : w.cell? ⟨g, 0, none⟩ = some (.iface tp p) := by have h0 := World.var?_cell hg h 0; simpa using h0
  have hl := World.block_lt_of_cell? w _ hc
  refine ⟨tp, p, ?_⟩
  unfold World.var? at h ⊢
  rw [hg] at h ⊢
  simp only [Option.bind_some] at h ⊢
  rw [hb.block _ hl]
  exact h
/-- both of the library's errors stand in their variables -/
def Errs (w : World) : Prop := Sent w synName ∧ Sent w rngName
theorem Errs.below {w w' : World} (h : Errs w) (hb : Below w.heap.size w w') : Errs w' := ⟨h.1.below syn_block hb, h.2.below rng_block hb⟩
theorem sent_syn {W : World} {r : List (String × DataW Unit)} (h : laidMet Tryz.prog ((synName, Rows.laid_strconv_ErrSyntax) :: r) W) : Sent W synName := by
  obtain ⟨a, _, hv, _⟩ := laid_sentinel h syn_block syn_type Tryz.underlying94 err_row Tryz.underlying153 Tryz.underlying155 rfl rfl Tryz.underlying9 err_cells text_cells
  exact ⟨_, _, hv⟩
theorem sent_rng {W : World} {r : List (String × DataW Unit)} (h : laidMet Tryz.prog ((rngName, Rows.laid_strconv_ErrRange) :: r) W) : Sent W rngName := by
  obtain ⟨a, _, hv, _⟩ := laid_sentinel h rng_block rng_type Tryz.underlying94 err_row Tryz.underlying153 Tryz.underlying155 rfl rfl Tryz.underlying9 err_cells text_cells
  exact ⟨_, _, hv⟩

end Go.Proofs.YtmpeogpmlgnmfaaGreatDoor
