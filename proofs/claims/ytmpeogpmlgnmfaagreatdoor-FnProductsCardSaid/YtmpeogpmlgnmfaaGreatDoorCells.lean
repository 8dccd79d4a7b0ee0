/- Cells of slices: what a slice of float32 that came in holds, and what a block of the call's own holds. -/
import Derived.Test.YtmpeogpmlgnmfaaGreatDoorBase
import Derived.Deep.Slices
import Derived.Deep.OwnRows
namespace Go.Proofs.YtmpeogpmlgnmfaaGreatDoor
set_option maxRecDepth 100000
open Go.ChangeShapes Go.WideShapes Go.ChangeAt Go.RowKit Go.Deep Flt

/-- the first n cells of a block are the numbers X -/
def F32s (w : World) (g : Nat) (X : Nat → Nat) (n : Nat) : Prop := ∀ i, i < n → w.cell? ⟨g, i, none⟩ = some (.float .f32 (X i))
def Lt32 (X : Nat → Nat) (n : Nat) : Prop := ∀ i, i < n → X i < 4294967296
theorem F32s.of_row {w : World} {g : Nat} {t : TypeId} {X : Nat → Nat} {n : Nat} (h : w.rowIs g t n (fun i => .float .f32 (X i))) : F32s w g X n := fun _ hi => h.cell hi
theorem F32s.below {w w' : World} {g : Nat} {X : Nat → Nat} {n : Nat} (h : F32s w g X n) (hb : Below w.heap.size w w') : F32s w' g X n := fun i hi =>
  (hb.cell (World.block_lt_of_cell? w _ (h i hi))).trans (h i hi)
theorem row_below {w w' : World} {g : Nat} {t : TypeId} {f : Nat → Value} {n : Nat} (h : w.rowIs g t n f) (hb : Below w.heap.size w w') : w'.rowIs g t n f := h.of_block (hb.block _ h.lt)
theorem row_drewN {w : World} {g : Nat} {t : TypeId} {f : Nat → Value} {n : Nat} (h : w.rowIs g t n f) (m : Nat) : (w.drewN m).rowIs g t n f := row_below h (below_drewN' w m)

/-- a slice that came in reads as the numbers X -/
def RowF (w : World) (a : Option Addr) (X : Nat → Nat) (n : Nat) : Prop := n = 0 ∨ ∃ b off, a = some ⟨b, off, none⟩ ∧ ∀ i, i < n → w.cell? ⟨b, off + i, none⟩ = some (.float .f32 (X i))
theorem RowF.below {w w' : World} {a : Option Addr} {X : Nat → Nat} {n : Nat} (h : RowF w a X n) (hb : Below w.heap.size w w') : RowF w' a X n := by
  rcases h with h | ⟨b, off, e, hc⟩
  · exact .inl h
  · exact .inr ⟨b, off, e, fun i hi => (hb.cell (World.block_lt_of_cell? w _ (hc i hi))).trans (hc i hi)⟩

theorem skolem {n : Nat} {p : Nat → Nat → Prop} (h : ∀ i, i < n → ∃ x, p i x) : ∃ X : Nat → Nat, ∀ i, i < n → p i (X i) :=
  ⟨fun i => if hi : i < n then (h i hi).choose else 0, fun i hi => by simp only [hi, dif_pos]; exact (h i hi).choose_spec⟩
theorem add_plain (b off i : Nat) : (Addr.add ⟨b, off, none⟩ i) = ⟨b, off + i, none⟩ := by
  unfold Addr.add
  by_cases h : i = 0
  · subst h; rfl
  · rw [if_neg h]

theorem cells_f32 : Tryz.prog.cellsOf 28 = 1 := by kernel_rfl
theorem slice_opened28 {H : Type} {enc : TypeId × Value → H} {w : World} {base : Nat} {spare : Nat → Bool} {held : Bool} {a : Option Addr} {n c : Nat} {d : DataW H} {p : List MemPlace}
    (h : DataW.Trod enc Tryz.prog w base spare held 52 (.slice a n c) d p) : n ≤ maxLen ∧ ∃ X, RowF w a X n ∧ Lt32 X n := by
  obtain ⟨fuel, hf⟩ := h
  rcases open_slice Tryz.underlying52 hf with ⟨hcs, _⟩ | ⟨a', len, cap, m, k, D, Pl, hcs, _, hl, hm, hmm, _, hi⟩
  · simp [Value.cells] at hcs
    obtain ⟨rfl, rfl, rfl⟩ := hcs
    exact ⟨by omega, fun _ => 0, .inl rfl, fun i hi => by omega⟩
  · simp [Value.cells] at hcs
    obtain ⟨rfl, rfl, rfl⟩ := hcs
    have key : ∀ i, i < n → ∃ x, w.cell? (a'.add i) = some (.float .f32 x) ∧ x < 4294967296 := by
      intro i hin
      obtain ⟨cs', hc, ht⟩ := hi i (by rw [hmm]; split <;> omega)
      rw [cells_f32] at hc
      obtain ⟨x, rfl, _, wx⟩ := trod_float Tryz.underlying28 ht
      refine ⟨x, ?_, lt_of_wf32 wx⟩
      obtain ⟨_, hlen, hat⟩ := World.cells?_some hc
      have := hat (i := 0) (by simp)
      have e0 : ∀ q : Addr, q.add 0 = q := fun _ => if_pos rfl
      rw [Nat.mul_one, e0] at this
      simpa using this
    obtain ⟨X, hX⟩ := skolem key
    refine ⟨by omega, X, ?_, fun i hi => (hX i hi).2⟩
    by_cases hn : n = 0
    · exact .inl hn
    · obtain ⟨b, off, spot⟩ := a'
      have h0 := (hX 0 (by omega)).1
      have hs : spot = none := by simpa [Addr.add] using World.cell?_spot h0
      subst hs
      refine .inr ⟨b, off, rfl, fun i hin => ?_⟩
      have hh := (hX i hin).1
      rwa [add_plain] at hh
end Go.Proofs.YtmpeogpmlgnmfaaGreatDoor
