/- The plain law of reading sixteen hexadecimal digits, and the reference's reading of a list of complex numbers. -/
import Derived.Test.YtmpeogpmlgnmfaaDoorHxS
import Derived.Test.YtmpeogpmlgnmfaaDoorHxI
import Derived.Test.YtmpeogpmlgnmfaaDoorCt
namespace Go.Proofs.YtmpeogpmlgnmfaaDoor
open Go.RowKit Go.Deep Flt

/-- the complex number with sixteen digits -/
def rc (p : List UInt8) : Option (Nat × Nat) := (rn (p.take 8)).bind fun a => (rn (p.drop 8)).map fun b => (a, b)
theorem rc_some {p : List UInt8} {x : Nat × Nat} (h : rc p = some x) : rn (p.take 8) = some x.1 ∧ rn (p.drop 8) = some x.2 ∧ p.length = 16 := by
  unfold rc at h
  cases h1 : rn (p.take 8) with
  | none => rw [h1] at h; cases h
  | some a =>
    rw [h1, Option.bind_some] at h
    cases h2 : rn (p.drop 8) with
    | none => rw [h2] at h; cases h
    | some b =>
      rw [h2] at h
      cases h
      refine ⟨rfl, rfl, ?_⟩
      have e1 := (rn_some h1).1
      have e2 := (rn_some h2).1
      rw [List.length_take] at e1
      rw [List.length_drop] at e2
      omega
theorem rc_yes {p : List UInt8} {a b : Nat} (h1 : rn (p.take 8) = some a) (h2 : rn (p.drop 8) = some b) : rc p = some (a, b) := by
  unfold rc
  rw [h1, h2]
  rfl
theorem rc_no1 {p : List UInt8} (h : rn (p.take 8) = none) : rc p = none := by
  unfold rc
  rw [h]
  rfl
theorem rc_no2 {p : List UInt8} (h : rn (p.drop 8) = none) : rc p = none := by
  unfold rc
  rw [h]
  cases rn (p.take 8) <;> rfl
theorem rc_short {p : List UInt8} (h : p.length ≠ 16) : rc p = none := by
  cases hr : rc p with
  | none => rfl
  | some x => exact absurd (rc_some hr).2.2 h
def crOk (l : List UInt8) : Bool := decide (∀ i, i < nPt l → (rc (pt l i)).isSome = true) && decide (nPt l ≤ 256)
def crA (l : List UInt8) (i : Nat) : Nat := ((rc (pt l i)).getD (0, 0)).1
def crB (l : List UInt8) (i : Nat) : Nat := ((rc (pt l i)).getD (0, 0)).2
def crN (l : List UInt8) : Nat := if crOk l then nPt l else 0
theorem crOk_bad {l : List UInt8} {k : Nat} (hk : k < nPt l) (h : rc (pt l k) = none) : crOk l = false := by
  unfold crOk
  rw [Bool.and_eq_false_iff]
  exact .inl (by rw [decide_eq_false_iff_not]; exact fun hh => by have := hh k hk; rw [h] at this; cases this)
theorem crOk_many {l : List UInt8} (h : 256 < nPt l) : crOk l = false := by
  unfold crOk
  rw [Bool.and_eq_false_iff]
  exact .inr (by rw [decide_eq_false_iff_not]; omega)
theorem crOk_yes {l : List UInt8} (h : ∀ i, i < nPt l → (rc (pt l i)).isSome = true) (h2 : nPt l ≤ 256) : crOk l = true := by
  unfold crOk
  rw [decide_eq_true h, decide_eq_true h2]
  rfl
theorem crN_le (l : List UInt8) : crN l ≤ 256 := by
  unfold crN
  split
  · rename_i h
    unfold crOk at h
    simp at h
    omega
  · omega
theorem crN_no {l : List UInt8} (h : crOk l = false) : crN l = 0 := by unfold crN; rw [h]; rfl
theorem crN_yes {l : List UInt8} (h : crOk l = true) : crN l = nPt l := by unfold crN; rw [h]; rfl
theorem crOk_none {s : ByteArray} (h : noneB s) : crOk s.data.toList = true ∧ crN s.data.toList = 0 := by
  have h0 := nPt_none h
  have h1 : crOk s.data.toList = true := crOk_yes (by intro i hi; omega) (by omega)
  exact ⟨h1, by rw [crN_yes h1, h0]⟩
theorem cr_of {l : List UInt8} {k a b : Nat} (h : rc (pt l k) = some (a, b)) : crA l k = a ∧ crB l k = b := by
  unfold crA crB
  rw [h]
  exact ⟨rfl, rfl⟩
/-- the two numbers read stand to their piece -/
def Rd2 (p : List UInt8) (x y : Nat) : Prop := p.length = 16 ∧ (∀ v, hv (p.take 8) = some v → x = v) ∧ ∀ v, hv (p.drop 8) = some v → y = v
theorem hc_split {p : List UInt8} {x y : Nat} : hx x ++ hx y = p ↔ hx x = p.take 8 ∧ hx y = p.drop 8 := by
  constructor
  · intro e
    have h1 : (hx x ++ hx y).take 8 = hx x := List.take_left' (hx_len x)
    have h2 : (hx x ++ hx y).drop 8 = hx y := List.drop_left' (hx_len x)
    rw [e] at h1 h2
    exact ⟨h1.symm, h2.symm⟩
  · intro ⟨e1, e2⟩
    rw [e1, e2, List.take_append_drop]
theorem rc_ask {p : List UInt8} {x y : Nat} (h1 : x < 4294967296) (h2 : y < 4294967296) (hr : Rd2 p x y) : hx x ++ hx y = p ↔ rc p = some (x, y) := by
  rw [hc_split, rn_ask h1 hr.2.1, rn_ask h2 hr.2.2]
  constructor
  · intro ⟨e1, e2⟩
    exact rc_yes e1 e2
  · intro e
    have := rc_some e
    exact ⟨this.1, this.2.1⟩
theorem readC_yes {l : List UInt8} {f g : Nat → Nat} (h32 : ∀ j, f j < 4294967296 ∧ g j < 4294967296) (hr : ∀ j, j < nPt l → Rd2 (pt l j) (f j) (g j)) (hn : nPt l ≤ 256) (e : ∀ i, i < nPt l → hcX f g i = pt l i) : crOk l = true ∧ ∀ i, i < nPt l → f i = crA l i ∧ g i = crB l i := by
  have h1 : ∀ i, i < nPt l → rc (pt l i) = some (f i, g i) := fun i hi => (rc_ask (h32 i).1 (h32 i).2 (hr i hi)).1 (e i hi)
  exact ⟨crOk_yes (fun i hi => by rw [h1 i hi]; rfl) hn, fun i hi => ⟨(cr_of (h1 i hi)).1.symm, (cr_of (h1 i hi)).2.symm⟩⟩
theorem readC_no {l : List UInt8} {f g : Nat → Nat} (h32 : ∀ j, f j < 4294967296 ∧ g j < 4294967296) (hr : ∀ j, j < nPt l → Rd2 (pt l j) (f j) (g j)) (e : ¬ ∀ i, i < nPt l → hcX f g i = pt l i) : crOk l = false := by
  cases ho : crOk l with
  | false => rfl
  | true =>
    exfalso
    apply e
    intro i hi
    unfold crOk at ho
    simp only [Bool.and_eq_true, decide_eq_true_eq] at ho
    have hs := ho.1 i hi
    cases h1 : rc (pt l i) with
    | none => rw [h1] at hs; cases hs
    | some v =>
      have h2 := rc_some h1
      have e1 := (hr i hi).2.1 v.1 (rn_some h2.1).2.1
      have e2 := (hr i hi).2.2 v.2 (rn_some h2.2.1).2.1
      exact (rc_ask (h32 i).1 (h32 i).2 (hr i hi)).2 (by rw [h1, e1, e2])
/-- a slice of complex64 of the call's own: the first k of the numbers f, g -/
def COwn (w : World) (B : Nat) (v : Value) (f g : Nat → Nat) (k : Nat) : Prop := w.ownsRow B 64 1 v k ((List.range k).map fun i => .complex .f32 (f i) (g i))
theorem COwn.more {w : World} {B : Nat} {v : Value} {f g : Nat → Nat} {k : Nat} {x y : Nat} (hx : x = f k) (hy : y = g k) (h : w.ownsRow B 64 1 v (k + 1) (((List.range k).map fun i => .complex .f32 (f i) (g i)) ++ [.complex .f32 x y])) : COwn w B v f g (k + 1) := by
  subst hx hy
  unfold COwn
  rw [List.range_succ, List.map_append]
  exact h
theorem info_c64 : (Tryd.prog.info? 64).map (fun i => (i.zero, i.size, i.bytes)) = some (some (.complex .f32 0 0), 1, 8) := by kernel_rfl
/-- what both readings give -/
def GaveC (w w' : World) (e : Ending) (s : ByteArray) : Prop :=
  ∃ A c, e = .returned (.tuple #[.slice A (crN s.data.toList) c, .bool (crOk s.data.toList)]) ∧ OwnV w' 64 A (crN s.data.toList) (fun i => .complex .f32 (crA s.data.toList i) (crB s.data.toList i)) w.heap.size w'.heap.size ∧ Below w.heap.size w w'
end Go.Proofs.YtmpeogpmlgnmfaaDoor
