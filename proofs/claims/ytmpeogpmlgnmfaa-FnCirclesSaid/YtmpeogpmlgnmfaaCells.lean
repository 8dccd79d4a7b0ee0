/- Cells of slices: what a slice of float32 that came in holds, and what a block of the call's own holds. -/
import Derived.Test.YtmpeogpmlgnmfaaBase
import Derived.Deep.Slices
import Derived.Deep.OwnRows
namespace Go.Proofs.Ytmpeogpmlgnmfaa
open Go.ChangeShapes Go.WideShapes Go.ChangeAt Go.RowKit Go.Deep Flt

/-- the first n cells of a block are the numbers X -/
def F32s (w : World) (g : Nat) (X : Nat → Nat) (n : Nat) : Prop := ∀ i, i < n → w.cell? ⟨g, i, none⟩ = some (.float .f32 (X i))
def Lt32 (X : Nat → Nat) (n : Nat) : Prop := ∀ i, i < n → X i < 4294967296
theorem F32s.of_row {w : World} {g : Nat} {t : TypeId} {X : Nat → Nat} {n : Nat} (h : w.rowIs g t n (fun i => .float .f32 (X i))) : F32s w g X n := fun _ hi => h.cell hi
theorem F32s.below {w w' : World} {g : Nat} {X : Nat → Nat} {n : Nat} (h : F32s w g X n) (hb : Below w.heap.size w w') : F32s w' g X n := fun i hi =>
  (hb.cell (World.block_lt_of_cell? w _ (h i hi))).trans (h i hi)
theorem row_below {w w' : World} {g : Nat} {t : TypeId} {f : Nat → Value} {n : Nat} (h : w.rowIs g t n f) (hb : Below w.heap.size w w') : w'.rowIs g t n f := h.of_block (hb.block _ h.lt)
theorem row_drewN {w : World} {g : Nat} {t : TypeId} {f : Nat → Value} {n : Nat} (h : w.rowIs g t n f) (m : Nat) : (w.drewN m).rowIs g t n f := row_below h (below_drewN' w m)

/-- a slice that came in reads as the numbers X -/
def RowF (w : World) (a : Option Addr) (X : Nat → Nat) (n : Nat) : Prop := n = 0 ∨ ∃ b off, a = some ⟨b, off, none⟩ ∧ ∀ i, i < n → w.cell? ⟨b, off + i, none⟩ = some (.float .f32 (X i))
theorem RowF.below {w w' : World} {a : Option Addr} {X : Nat → Nat} {n : Nat} (h : RowF w a X n) (hb : Below w.heap.size w w') : RowF w' a X n := by
  rcases h with h | ⟨b, off, e, hc⟩
  · exact .inl h
  · exact .inr ⟨b, off, e, fun i hi => (hb.cell (World.block_lt_of_cell? w _ (hc i hi))).trans (hc i hi)⟩

theorem skolem {n : Nat} {p : Nat → Nat → Prop} (h : ∀ i, i < n → ∃ x, p i x) : ∃ X : Nat → Nat, ∀ i, i < n → p i (X i) :=
  ⟨fun i => if hi : i < n then (h i hi).choose else 0, fun i hi => by simp only [hi, dif_pos]; exact (h i hi).choose_spec⟩
theorem add_plain (b off i : Nat) : (Addr.add ⟨b, off, none⟩ i) = ⟨b, off + i, none⟩ := by
  unfold Addr.add
  by_cases h : i = 0
  · subst h; rfl
  · rw [if_neg h]

end Go.Proofs.Ytmpeogpmlgnmfaa
