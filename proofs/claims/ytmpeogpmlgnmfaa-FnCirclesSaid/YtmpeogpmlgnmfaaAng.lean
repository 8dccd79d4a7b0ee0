/- The angle of a point: its pure part. -/
import Derived.Test.YtmpeogpmlgnmfaaLog
namespace Flt
open Go Ieee
set_option exponentiation.threshold 3000
theorem bd_sqrt {c : Option Nat} {C E : Nat} {q : Int} (hc : Bd .f64 C c) (hC : C < FloatKind.f64.format.infRung) (hq : FloatKind.f64.format.leastPlace ≤ 2 * q)
    (h : rval FloatKind.f64.format C ≤ 2 ^ (2 * q - FloatKind.f64.format.leastPlace).toNat) (hE : rungOf FloatKind.f64.format 1 (q + 1) ≤ E) : Bd .f64 E (fsqrt c) := fun r hr => by
  cases c with
  | none => cases hr
  | some a =>
    have ha := hc a rfl
    exact Nat.le_trans (sqrt_fin (by omega) hq (Nat.le_trans (rval_le (Nat.le_of_lt hC) ha) h) hr) hE
theorem sqrt_sgn {f : Format} {a r : Nat} (ha : rung f a < f.infRung) (hr : f.sqrt a = some r) : sgn f r = false ∨ rung f r = 0 := by
  obtain ⟨m, i, hra, hi, hva⟩ := read_fin ha
  unfold Format.sqrt at hr
  rw [hra] at hr
  simp only [Datum.root] at hr
  split at hr
  · rename_i h0
    simp only [Option.map_some, Option.some.injEq] at hr
    subst hr
    right
    rw [rung_write_num, h0]
    unfold rungOf; simp
  split at hr
  · cases hr
  simp only [Option.map_some, Option.some.injEq] at hr
  subst hr
  left
  show sgn f (f.nearest false _ _) = false
  rw [nearest_eq, word_sgn _ (Nat.lt_of_le_of_lt (rungOf_le_inf _ _) inf_lt_sw)]
/-- one and a root are no less than one -/
theorem lo_one_root {c : Option Nat} {C : Nat} (hc : Bd .f64 C c) (hC : C < FloatKind.f64.format.infRung) {D : Nat} (hd : Bd .f64 D (fsqrt c)) (hD : D < FloatKind.f64.format.infRung) : Lo .f64 4607182418800017408 (fop .add .f64 (cls .f64 4607182418800017408) (fsqrt c)) := fun r hr => by
  rw [cls_of_le (k := .f64) (b := 4607182418800017408) (by decide +kernel)] at hr
  cases hs : fsqrt c with
  | none => rw [hs] at hr; cases hr
  | some s =>
    rw [hs] at hr
    have hsd := hd s hs
    cases c with
    | none => cases hs
    | some a =>
      have ha := hc a rfl
      have hsg := sqrt_sgn (f := FloatKind.f64.format) (by omega) hs
      have e : FloatKind.f64.format.add 4607182418800017408 s = some r := hr
      rw [add_fin (by decide +kernel) (by omega)] at e
      cases e
      rw [word_rung _ (Nat.lt_of_le_of_lt (rungOf_le_inf _ _) inf_lt_sw)]
      have s1 : sval FloatKind.f64.format 4607182418800017408 = (rval FloatKind.f64.format 4607182418800017408 : Int) := by decide +kernel
      have s2 : sval FloatKind.f64.format s = (rval FloatKind.f64.format (rung FloatKind.f64.format s) : Int) := by
        unfold sval
        rcases hsg with h | h
        · rw [h]; rfl
        · rw [h, rval_zero]; split <;> rfl
      have e1 : (sval FloatKind.f64.format 4607182418800017408 + sval FloatKind.f64.format s).natAbs = rval FloatKind.f64.format 4607182418800017408 + rval FloatKind.f64.format (rung FloatKind.f64.format s) := by rw [s1, s2]; omega
      rw [e1]
      exact Nat.le_trans (show 4607182418800017408 ≤ rungOf FloatKind.f64.format (rval FloatKind.f64.format 4607182418800017408) FloatKind.f64.format.leastPlace by decide +kernel) (rungOf_mono (Nat.le_add_right _ _) _)
end Flt
namespace Go.Proofs.Ytmpeogpmlgnmfaa
open Go.RowKit Flt
set_option exponentiation.threshold 3000
def angD (t : Option Nat) : Option Nat := fop .add .f64 (cls .f64 4607182418800017408) (fsqrt (fop .add .f64 (cls .f64 4607182418800017408) (fop .mul .f64 t t)))
/-- the tangent after some rounds -/
def angT (t0 : Option Nat) : Nat → Option Nat
  | 0 => t0
  | i + 1 => fop .quo .f64 (angT t0 i) (angD (angT t0 i))
def angK (j : Nat) : Option Nat := cls .f64 (floatOfInt .f64 (15 - 2 * (j : Int)))
def angP (u : Option Nat) : Nat → Option Nat
  | 0 => cls .f64 0
  | j + 1 => fop .sub .f64 (fop .quo .f64 (cls .f64 4607182418800017408) (angK j)) (fop .mul .f64 u (angP u j))
/-- the angle of a small tangent -/
def angQ (t : Option Nat) : Option Nat := fop .quo .f64 (fop .mul .f64 (cls .f64 4620693217682128896) (fop .mul .f64 t (angP (fop .mul .f64 t t) 8))) (cls .f64 4618760256179416344)
theorem angK_test : ∀ j : Nat, j < 8 → (ford .f64 (angK j) (cls .f64 4607182418800017408) == some .gt || ford .f64 (angK j) (cls .f64 4607182418800017408) == some .eq) = true := by decide +kernel
theorem angK_stop : (ford .f64 (angK 8) (cls .f64 4607182418800017408) == some .gt || ford .f64 (angK 8) (cls .f64 4607182418800017408) == some .eq) = false := by decide +kernel
theorem angK_next : ∀ j : Nat, j < 8 → fop .sub .f64 (angK j) (cls .f64 4611686018427387904) = angK (j + 1) := by decide +kernel
theorem angK_zero : cls .f64 4624633867356078080 = angK 0 := by decide +kernel
theorem angK_inv : ∀ j : Nat, j < 8 → (fop .quo .f64 (cls .f64 4607182418800017408) (angK j)).all (fun b => decide (rung FloatKind.f64.format b ≤ 4607182418800017408)) = true := by decide +kernel
theorem pw_f : ∀ e : Nat, e < 200 → pw e < FloatKind.f64.format.infRung := by decide +kernel
theorem bd_angT {t : Option Nat} (ht : Bd .f64 (pw 1) t) : ∀ i : Nat, i ≤ 3 → Bd .f64 (pw (1 + i)) (angT t i)
  | 0, _ => ht
  | i + 1, hi => by
    have ih := (bd_angT ht i (by omega))
    have ih4 : Bd .f64 (pw 4) (angT t i) := ih.mono (by unfold pw; omega)
    have h1 : Bd .f64 (pw 8) (fop .mul .f64 (angT t i) (angT t i)) := bd_mul ih4 ih4 (by decide +kernel) (by decide +kernel) (by decide +kernel)
    have h2 : Bd .f64 (pw 9) (fop .add .f64 (cls .f64 4607182418800017408) (fop .mul .f64 (angT t i) (angT t i))) := bd_add (C := 4607182418800017408) (Bd.cls (by decide +kernel)) h1 (by decide +kernel) (by decide +kernel) (by decide +kernel)
    have h3 : Bd .f64 (pw 6) (fsqrt (fop .add .f64 (cls .f64 4607182418800017408) (fop .mul .f64 (angT t i) (angT t i)))) := bd_sqrt (q := 5) h2 (by decide +kernel) (by decide) (by decide +kernel) (by decide +kernel)
    have h4 : Lo .f64 4607182418800017408 (angD (angT t i)) := lo_one_root h2 (by decide +kernel) h3 (by decide +kernel)
    refine bd_quo (D := 4607182418800017408) ih h4 (pw_f _ (by omega)) (nn_fop _ _ _ _) 1074 (rval FloatKind.f64.format (pw (1 + i))) (by rw [one_val]; exact Nat.two_pow_pos _) (by rw [one_val, Nat.mul_comm]; exact Nat.le_refl _) ?_
    have : ∀ i : Nat, i < 3 → rungOf FloatKind.f64.format (2 * rval FloatKind.f64.format (pw (1 + i))) (-(1074 : Nat) : Int) ≤ pw (1 + (i + 1)) := by decide +kernel
    exact this i (by omega)
theorem bd_angP {u : Option Nat} (hu : Bd .f64 (pw 8) u) : ∀ j : Nat, j ≤ 8 → Bd .f64 (pw (9 * j)) (angP u j)
  | 0, _ => Bd.cls (by decide +kernel)
  | j + 1, hj => by
    have ih := bd_angP hu j (by omega)
    have h1 : Bd .f64 (pw (8 + 9 * j)) (fop .mul .f64 u (angP u j)) := by
      have : ∀ j : Nat, j < 8 → rungOf FloatKind.f64.format (rval FloatKind.f64.format (pw 8) * rval FloatKind.f64.format (pw (9 * j))) (FloatKind.f64.format.leastPlace + FloatKind.f64.format.leastPlace) ≤ pw (8 + 9 * j) := by decide +kernel
      exact bd_mul hu ih (by decide +kernel) (pw_f _ (by omega)) (this j (by omega))
    have h2 : Bd .f64 4607182418800017408 (fop .quo .f64 (cls .f64 4607182418800017408) (angK j)) := fun b hb => by
      have := angK_inv j (by omega)
      rw [hb] at this
      simpa using this
    have h3 : ∀ j : Nat, j < 8 → rungOf FloatKind.f64.format (rval FloatKind.f64.format 4607182418800017408 + rval FloatKind.f64.format (pw (8 + 9 * j))) FloatKind.f64.format.leastPlace ≤ pw (9 * (j + 1)) := by decide +kernel
    exact bd_sub h2 h1 (by decide +kernel) (pw_f _ (by omega)) (h3 j (by omega))
theorem bd_angQ {t : Option Nat} (ht : Bd .f64 (pw 4) t) : Bd .f64 (pw 80) (angQ t) := by
  have hu : Bd .f64 (pw 8) (fop .mul .f64 t t) := bd_mul ht ht (by decide +kernel) (by decide +kernel) (by decide +kernel)
  have h1 : Bd .f64 (pw 76) (fop .mul .f64 t (angP (fop .mul .f64 t t) 8)) := bd_mul ht (bd_angP hu 8 (by omega)) (by decide +kernel) (by decide +kernel) (by decide +kernel)
  have h2 : Bd .f64 (pw 79) (fop .mul .f64 (cls .f64 4620693217682128896) (fop .mul .f64 t (angP (fop .mul .f64 t t) 8))) := bd_mul (C := 4620693217682128896) (Bd.cls (by decide +kernel)) h1 (by decide +kernel) (by decide +kernel) (by decide +kernel)
  refine bd_quo (D := 4607182418800017408) h2 (fun b hb => by obtain ⟨rfl, _⟩ := cls_some hb; decide +kernel) (by decide +kernel) (nn_cls _ _) 1074 (rval FloatKind.f64.format (pw 79)) (by rw [one_val]; exact Nat.two_pow_pos _) (by rw [one_val, Nat.mul_comm]; exact Nat.le_refl _) (by decide +kernel)
/-- the tangent of the smaller of two angles, of two words without sign -/
def angR (A B : Nat) : Option Nat := if (ford .f64 (cls .f64 A) (cls .f64 B) == some .gt) = true then fop .quo .f64 (cls .f64 B) (cls .f64 A) else fop .quo .f64 (cls .f64 A) (cls .f64 B)
theorem bd_angR {A B : Nat} (hA : A < 9218868437227405312) (hB : B < 9218868437227405312) (h0 : A ≠ 0 ∨ B ≠ 0) : Bd .f64 (pw 1) (angR A B) := by
  have e2 : rungOf FloatKind.f64.format 2 0 = pw 1 := by decide +kernel
  have a := cls_pos (b := A) (by omega)
  have b := cls_pos (b := B) (by omega)
  have hc : (ford .f64 (cls .f64 A) (cls .f64 B) == some .gt) = decide (B < A) := by
    rw [ford_pos (by omega) (by omega)]
    rcases (by omega : A < B ∨ A = B ∨ B < A) with h | h | h
    · have e : compare (A : Int) B = .lt := Int.compare_eq_lt.2 (by omega)
      rw [e]; simp; omega
    · have e : compare (A : Int) B = .eq := Int.compare_eq_eq.2 (by omega)
      rw [e]; simp; omega
    · have e : compare (A : Int) B = .gt := Int.compare_eq_gt.2 (by omega)
      rw [e]; simp; omega
  unfold angR
  rw [hc, a.1, b.1, ← e2]
  by_cases h : B < A
  · rw [if_pos (decide_eq_true h)]
    exact bd_quo_le (by rw [a.2, b.2]; omega) (by rw [b.2]; exact hB) (by rw [a.2]; exact Nat.le_of_lt hA) (by rw [a.2]; omega)
  · rw [if_neg (by rw [decide_eq_false h]; decide)]
    exact bd_quo_le (by rw [a.2, b.2]; omega) (by rw [a.2]; exact hA) (by rw [b.2]; exact Nat.le_of_lt hB) (by rw [b.2]; omega)
/-- the angle, by the tests -/
def angE (over left down : Bool) (q : Option Nat) : Option Nat :=
  let q1 := if over = true then fop .sub .f64 (cls .f64 4598175219545276416) q else q
  let q2 := if left = true then fop .sub .f64 (cls .f64 4602678819172646912) q1 else q1
  if down = true then fneg .f64 q2 else q2
theorem bd_angE {over left down : Bool} {q : Option Nat} (h : Bd .f64 (pw 80) q) (hw : Wfc .f64 q) : Bd .f64 (pw 82) (angE over left down q) := by
  have g1 : Bd .f64 (pw 81) (if over = true then fop .sub .f64 (cls .f64 4598175219545276416) q else q) := by
    split
    · exact bd_sub (C := 4598175219545276416) (Bd.cls (by decide +kernel)) h (by decide +kernel) (by decide +kernel) (by decide +kernel)
    · exact h.mono (by decide +kernel)
  have w1 : Wfc .f64 (if over = true then fop .sub .f64 (cls .f64 4598175219545276416) q else q) := by
    split
    · exact wfc_fop _ _ _ _
    · exact hw
  unfold angE
  simp only
  generalize (if over = true then fop .sub .f64 (cls .f64 4598175219545276416) q else q) = q1 at *
  have g2 : Bd .f64 (pw 82) (if left = true then fop .sub .f64 (cls .f64 4602678819172646912) q1 else q1) := by
    split
    · exact bd_sub (C := 4602678819172646912) (Bd.cls (by decide +kernel)) g1 (by decide +kernel) (by decide +kernel) (by decide +kernel)
    · exact g1.mono (by decide +kernel)
  have w2 : Wfc .f64 (if left = true then fop .sub .f64 (cls .f64 4602678819172646912) q1 else q1) := by
    split
    · exact wfc_fop _ _ _ _
    · exact w1
  split
  · exact bd_neg g2 w2
  · exact g2
theorem noOver_82 {b : Nat} (h : Bd .f64 (pw 82) (cls .f64 b)) : NoOver .f64 .f32 b := noOver_bd h (by decide +kernel) (by decide +kernel)
/-- the angle of a point of two finite float64 (the words y and x), not both zero -/
def angW (y x : Nat) : Option Nat :=
  angE (ford .f64 (cls .f64 (rung FloatKind.f64.format y)) (cls .f64 (rung FloatKind.f64.format x)) == some .gt) (ford .f64 (cls .f64 x) (cls .f64 0) == some .lt) (ford .f64 (cls .f64 y) (cls .f64 0) == some .lt)
    (angQ (angT (angR (rung FloatKind.f64.format y) (rung FloatKind.f64.format x)) 3))
theorem bd_angW {y x : Nat} (hy : rung FloatKind.f64.format y < 9218868437227405312) (hx : rung FloatKind.f64.format x < 9218868437227405312) (h0 : rung FloatKind.f64.format y ≠ 0 ∨ rung FloatKind.f64.format x ≠ 0) : Bd .f64 (pw 82) (angW y x) :=
  bd_angE (bd_angQ ((bd_angT (bd_angR hy hx h0) 3 (by omega)).mono (by decide +kernel))) (wfc_fop _ _ _ _)
end Go.Proofs.Ytmpeogpmlgnmfaa
