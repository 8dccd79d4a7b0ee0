/- The reference's reading of a list of numbers: the text cut at its commas, eight digits each. -/
import Derived.Test.YtmpeogpmlgnmfaaGreatDoorHxL
import Derived.Test.YtmpeogpmlgnmfaaGreatDoorRlS
import Derived.Test.YtmpeogpmlgnmfaaGreatDoorOwnF
namespace Go.Proofs.YtmpeogpmlgnmfaaGreatDoor
set_option maxRecDepth 100000
open Go.RowKit Go.Deep Flt

/-- each of the texts is a number's, and there are few -/
def nrAll (l : List UInt8) : Bool := decide (∀ i, i < nPt l → (rn (pt l i)).isSome = true)
def nrOk (l : List UInt8) : Bool := nrAll l && decide (nPt l ≤ 256)
def nrV (l : List UInt8) (i : Nat) : Nat := (rn (pt l i)).getD 0
def nrN (l : List UInt8) : Nat := if nrOk l then nPt l else 0
theorem nrOk_bad {l : List UInt8} {k : Nat} (hk : k < nPt l) (h : rn (pt l k) = none) : nrOk l = false := by
  unfold nrOk nrAll
  rw [Bool.and_eq_false_iff]
  exact .inl (by rw [decide_eq_false_iff_not]; exact fun hh => by have := hh k hk; rw [h] at this; cases this)
theorem nrOk_many {l : List UInt8} (h : 256 < nPt l) : nrOk l = false := by
  unfold nrOk
  rw [Bool.and_eq_false_iff]
  exact .inr (by rw [decide_eq_false_iff_not]; omega)
theorem nrOk_yes {l : List UInt8} (h : ∀ i, i < nPt l → (rn (pt l i)).isSome = true) (h2 : nPt l ≤ 256) : nrOk l = true := by
  unfold nrOk nrAll
  rw [decide_eq_true h, decide_eq_true h2]
  rfl
theorem nrN_le (l : List UInt8) : nrN l ≤ 256 := by
  unfold nrN
  split
  · rename_i h
    unfold nrOk at h
    simp at h
    omega
  · omega
theorem nrN_no {l : List UInt8} (h : nrOk l = false) : nrN l = 0 := by unfold nrN; rw [h]; rfl
theorem nrN_yes {l : List UInt8} (h : nrOk l = true) : nrN l = nPt l := by unfold nrN; rw [h]; rfl
theorem nrV_lt (l : List UInt8) (i : Nat) : nrV l i < 4294967296 := by
  unfold nrV
  cases h : rn (pt l i) with
  | none => decide
  | some v => exact (rn_some h).2.2.1
theorem nrOk_none {s : ByteArray} (h : noneB s) : nrOk s.data.toList = true ∧ nrN s.data.toList = 0 := by
  have h0 := nPt_none h
  have h1 : nrOk s.data.toList = true := nrOk_yes (by intro i hi; omega) (by omega)
  exact ⟨h1, by rw [nrN_yes h1, h0]⟩
theorem SBlk.not_ownF {w : World} {g B k : Nat} {cur : Array Value} {v : Value} {xs : List Value} {T : TypeId} (hT : T ≠ 9) (h : SBlk w g cur) (ho : w.ownsRow B T 1 v k xs) : some g ≠ v.ownBlock := by
  obtain ⟨fz, h⟩ := h
  rcases ho.2 with ⟨rfl, _⟩ | ⟨g', cap, cur', rfl, _, hh, _⟩
  · intro e; cases e
  · intro e
    obtain rfl : g = g' := by simpa [Value.ownBlock] using e
    rw [h] at hh
    cases hh
    exact hT rfl
/-- a slice of float32 of the call's own: the first k of the numbers f -/
def FOwn (w : World) (B : Nat) (v : Value) (f : Nat → Nat) (k : Nat) : Prop := w.ownsRow B 28 1 v k ((List.range k).map fun i => .float .f32 (f i))
theorem FOwn.more {w : World} {B : Nat} {v : Value} {f : Nat → Nat} {k : Nat} {x : Nat} (hx : x = f k) (h : w.ownsRow B 28 1 v (k + 1) (((List.range k).map fun i => .float .f32 (f i)) ++ [.float .f32 x])) : FOwn w B v f (k + 1) := by
  subst hx
  unfold FOwn
  rw [List.range_succ, List.map_append]
  exact h
/-- what both readings give -/
def GaveN (w w' : World) (e : Ending) (s : ByteArray) : Prop :=
  ∃ A c, e = .returned (.tuple #[.slice A (nrN s.data.toList) c, .bool (nrOk s.data.toList)]) ∧ OwnV w' 28 A (nrN s.data.toList) (fun i => .float .f32 (nrV s.data.toList i)) w.heap.size w'.heap.size ∧ Below w.heap.size w w'
theorem FOwn.ext {w : World} {B : Nat} {v : Value} {f g : Nat → Nat} {k : Nat} (h : FOwn w B v f k) (e : ∀ j, j < k → f j = g j) : FOwn w B v g k := by
  unfold FOwn at *
  have : ((List.range k).map fun i => Value.float .f32 (f i)) = (List.range k).map fun i => Value.float .f32 (g i) := List.map_congr_left fun i hi => by rw [e i (by simpa using hi)]
  rw [← this]
  exact h
end Go.Proofs.YtmpeogpmlgnmfaaGreatDoor
