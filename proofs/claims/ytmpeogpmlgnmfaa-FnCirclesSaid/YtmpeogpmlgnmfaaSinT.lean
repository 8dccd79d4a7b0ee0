/- The sine of any number: its bound, and what both texts give behind their tests. -/
import Derived.Test.YtmpeogpmlgnmfaaSin
import Derived.Test.YtmpeogpmlgnmfaaBnd
namespace Flt
open Go Ieee
theorem cls_of_le {k : FloatKind} {b : Nat} (h : rung k.format b ≤ k.format.infRung) : cls k b = some b := by unfold cls; rw [if_pos h]
theorem inf_minus (f : Format) (hB : 1 ≤ f.exponentBits) {b : Nat} (h : rung f b = f.infRung) : f.sub b b = none := by
  unfold Format.sub
  rw [read_inf hB h]
  cases sgn f b <;> rfl
/-- whether a class is a finite number -/
def finC (k : FloatKind) : Option Nat → Bool
  | some b => decide (rung k.format b < k.format.infRung)
  | none => false
/-- 'x - x == 0' tells it -/
theorem fin_test {k : FloatKind} {c : Option Nat} (hn : Nn k c) : (ford k (fop .sub k c c) (cls k 0) == some .eq) = finC k c := by
  cases c with
  | none => rfl
  | some b =>
    have h := hn b rfl
    rcases Nat.lt_or_eq_of_le h with hlt | heq
    · have e : fop .sub k (some b) (some b) = some (k.format.word (sumSign (sgn k.format b) (!sgn k.format b) (sval k.format b - sval k.format b)) (rungOf k.format (sval k.format b - sval k.format b).natAbs k.format.leastPlace)) := sub_fin hlt hlt
      have e2 : rungOf k.format (sval k.format b - sval k.format b).natAbs k.format.leastPlace = 0 := by rw [Int.sub_self]; rfl
      have hz : rung k.format 0 = 0 := Nat.zero_mod _
      rw [e, e2, cls_of_le (b := 0) (by rw [hz]; omega)]
      rw [ford_some (by rw [word_rung _ sw_pos]; omega) (by rw [hz]; omega)]
      have s1 : srung k.format (k.format.word (sumSign (sgn k.format b) (!sgn k.format b) (sval k.format b - sval k.format b)) 0) = 0 := by
        unfold srung; rw [word_rung _ sw_pos]; split <;> rfl
      have s2 : srung k.format 0 = 0 := by unfold srung; rw [hz]; split <;> rfl
      rw [s1, s2]
      have : finC k (some b) = true := by unfold finC; simpa using hlt
      rw [this]; rfl
    · have e : fop .sub k (some b) (some b) = none := inf_minus _ (eb k) heq
      rw [e]
      have : finC k (some b) = false := by unfold finC; simp; omega
      rw [this]; rfl
theorem finB_eq {c : Option Nat} (hn : Nn .f32 c) : finB c = finC .f32 c := fin_test hn
/-- widening keeps it -/
theorem finC_widen {c : Option Nat} (hn : Nn .f32 c) : finC .f64 (fconv .f32 .f64 c) = finC .f32 c := by
  cases c with
  | none => rfl
  | some b =>
    have h := hn b rfl
    show decide (rung FloatKind.f64.format (conv .f32 .f64 b) < FloatKind.f64.format.infRung) = decide (rung FloatKind.f32.format b < FloatKind.f32.format.infRung)
    rw [decide_eq_decide]
    rcases Nat.lt_or_eq_of_le h with h1 | h1
    · rw [conv_rung h1]
      exact ⟨fun _ => h1, fun _ => noOver_widen b h1⟩
    · rw [conv_inf h1]; omega
/-- the tests of the greatness, on a number -/
theorem great_tests {b : Nat} (h : rung FloatKind.f64.format b < FloatKind.f64.format.infRung) :
    (ford .f64 (cls .f64 (rung FloatKind.f64.format b)) (cls .f64 4841369599423283200) == some .gt || ford .f64 (cls .f64 (rung FloatKind.f64.format b)) (cls .f64 4841369599423283200) == some .eq) = decide (4841369599423283200 ≤ rung FloatKind.f64.format b) := by
  have hr : rung FloatKind.f64.format (rung FloatKind.f64.format b) = rung FloatKind.f64.format b := Nat.mod_mod _ _
  have hlt := rung_lt (f := FloatKind.f64.format) b
  have hs : sgn FloatKind.f64.format (rung FloatKind.f64.format b) = false := by unfold sgn; rw [Nat.div_eq_of_lt hlt]; rfl
  have s1 : srung FloatKind.f64.format (rung FloatKind.f64.format b) = (rung FloatKind.f64.format b : Int) := by unfold srung; rw [hs, hr]; rfl
  rw [cls_of_le (k := .f64) (b := rung FloatKind.f64.format b) (by rw [hr]; omega), cls_of_le (k := .f64) (b := 4841369599423283200) (by decide +kernel)]
  rw [ford_some (by rw [hr]; omega) (by decide +kernel), s1]
  have s2 : srung FloatKind.f64.format 4841369599423283200 = 4841369599423283200 := by decide +kernel
  rw [s2]
  generalize rung FloatKind.f64.format b = r
  rcases (by omega : r < 4841369599423283200 ∨ r = 4841369599423283200 ∨ 4841369599423283200 < r) with h | h | h
  · have : compare (r : Int) 4841369599423283200 = .lt := Int.compare_eq_lt.2 (by omega)
    rw [this]; simp; omega
  · have : compare (r : Int) 4841369599423283200 = .eq := Int.compare_eq_eq.2 (by omega)
    rw [this]; simp; omega
  · have : compare (r : Int) 4841369599423283200 = .gt := Int.compare_eq_gt.2 (by omega)
    rw [this]; simp; omega
theorem great_tests2 {b : Nat} (h : rung FloatKind.f64.format b < FloatKind.f64.format.infRung) :
    ((ford .f64 (cls .f64 b) (cls .f64 4841369599423283200) == some .gt || ford .f64 (cls .f64 b) (cls .f64 4841369599423283200) == some .eq) || (ford .f64 (cls .f64 b) (cls .f64 14064741636278059008) == some .lt || ford .f64 (cls .f64 b) (cls .f64 14064741636278059008) == some .eq)) = decide (4841369599423283200 ≤ rung FloatKind.f64.format b) := by
  rw [cls_of_le (k := .f64) (Nat.le_of_lt h), cls_of_le (k := .f64) (b := 4841369599423283200) (by decide +kernel), cls_of_le (k := .f64) (b := 14064741636278059008) (by decide +kernel)]
  rw [ford_some (by omega) (by decide +kernel), ford_some (by omega) (by decide +kernel)]
  have s2 : srung FloatKind.f64.format 4841369599423283200 = 4841369599423283200 := by decide +kernel
  have s3 : srung FloatKind.f64.format 14064741636278059008 = -4841369599423283200 := by decide +kernel
  have s1 : srung FloatKind.f64.format b = if sgn FloatKind.f64.format b then -(rung FloatKind.f64.format b : Int) else (rung FloatKind.f64.format b : Int) := rfl
  rw [s2, s3, s1]
  generalize rung FloatKind.f64.format b = r
  cases sgn FloatKind.f64.format b
  · simp only [Bool.false_eq_true, if_false]
    rcases (by omega : r < 4841369599423283200 ∨ r = 4841369599423283200 ∨ 4841369599423283200 < r) with h | h | h
    · have e1 : compare (r : Int) 4841369599423283200 = .lt := Int.compare_eq_lt.2 (by omega)
      have e2 : compare (r : Int) (-4841369599423283200) = .gt := Int.compare_eq_gt.2 (by omega)
      rw [e1, e2]; simp; omega
    · have e1 : compare (r : Int) 4841369599423283200 = .eq := Int.compare_eq_eq.2 (by omega)
      have e2 : compare (r : Int) (-4841369599423283200) = .gt := Int.compare_eq_gt.2 (by omega)
      rw [e1, e2]; simp; omega
    · have e1 : compare (r : Int) 4841369599423283200 = .gt := Int.compare_eq_gt.2 (by omega)
      have e2 : compare (r : Int) (-4841369599423283200) = .gt := Int.compare_eq_gt.2 (by omega)
      rw [e1, e2]; simp; omega
  · simp only [if_true]
    rcases (by omega : r < 4841369599423283200 ∨ r = 4841369599423283200 ∨ 4841369599423283200 < r) with h | h | h
    · have e1 : compare (-(r : Int)) 4841369599423283200 = .lt := Int.compare_eq_lt.2 (by omega)
      have e2 : compare (-(r : Int)) (-4841369599423283200) = .gt := Int.compare_eq_gt.2 (by omega)
      rw [e1, e2]; simp; omega
    · have e1 : compare (-(r : Int)) 4841369599423283200 = .lt := Int.compare_eq_lt.2 (by omega)
      have e2 : compare (-(r : Int)) (-4841369599423283200) = .eq := Int.compare_eq_eq.2 (by omega)
      rw [e1, e2]; simp; omega
    · have e1 : compare (-(r : Int)) 4841369599423283200 = .lt := Int.compare_eq_lt.2 (by omega)
      have e2 : compare (-(r : Int)) (-4841369599423283200) = .lt := Int.compare_eq_lt.2 (by omega)
      rw [e1, e2]; simp; omega
end Flt
namespace Go.Proofs.Ytmpeogpmlgnmfaa
open Go.RowKit Flt

set_option exponentiation.threshold 3000
/-- the rung of a power of two -/
def pw (e : Nat) : Nat := (1023 + e) * 4503599627370496
theorem lo_den : ∀ j : Nat, j < 8 → 4607182418800017408 ≤ rung FloatKind.f64.format (floatOfInt .f64 (2 * ((8 - j : Nat) : Int) * (2 * ((8 - j : Nat) : Int) + 1))) := by decide +kernel
theorem pw_lt : ∀ e : Nat, e < 200 → pw e < FloatKind.f64.format.infRung := by decide +kernel
theorem pw_mul : ∀ j : Nat, j < 8 → rungOf FloatKind.f64.format (rval FloatKind.f64.format (pw 12) * rval FloatKind.f64.format (pw (14 * j))) (FloatKind.f64.format.leastPlace + FloatKind.f64.format.leastPlace) ≤ pw (12 + 14 * j) := by decide +kernel
theorem pw_quo : ∀ j : Nat, j < 8 → rungOf FloatKind.f64.format (2 * rval FloatKind.f64.format (pw (12 + 14 * j))) (-(1074 : Nat) : Int) ≤ pw (13 + 14 * j) := by decide +kernel
theorem pw_add : ∀ j : Nat, j < 8 → rungOf FloatKind.f64.format (rval FloatKind.f64.format 4607182418800017408 + rval FloatKind.f64.format (pw (13 + 14 * j))) FloatKind.f64.format.leastPlace ≤ pw (14 * (j + 1)) := by decide +kernel
theorem one_val : rval FloatKind.f64.format 4607182418800017408 = 2 ^ 1074 := by decide +kernel
theorem bd_sinP {u : Option Nat} (hu : Bd .f64 (pw 12) u) : ∀ j : Nat, j ≤ 8 → Bd .f64 (pw (14 * j)) (sinP u j)
  | 0, _ => Bd.cls (by decide +kernel)
  | j + 1, hj => by
    have ih := bd_sinP hu j (by omega)
    have h1 : Bd .f64 (pw (12 + 14 * j)) (fop .mul .f64 u (sinP u j)) := bd_mul hu ih (pw_lt _ (by omega)) (pw_lt _ (by omega)) (pw_mul j (by omega))
    have h2 : Bd .f64 (pw (13 + 14 * j)) (fop .quo .f64 (fop .mul .f64 u (sinP u j)) (cls .f64 (floatOfInt .f64 (2 * ((8 - j : Nat) : Int) * (2 * ((8 - j : Nat) : Int) + 1))))) :=
      bd_quo (D := 4607182418800017408) h1 (fun b hb => by obtain ⟨rfl, _⟩ := cls_some hb; exact lo_den j (by omega)) (pw_lt _ (by omega)) (nn_cls _ _) 1074 (rval FloatKind.f64.format (pw (12 + 14 * j))) (by rw [one_val]; exact Nat.two_pow_pos _) (by rw [one_val, Nat.mul_comm]; exact Nat.le_refl _) (pw_quo j (by omega))
    exact bd_sub (C := 4607182418800017408) (Bd.cls (by decide +kernel)) h2 (by decide +kernel) (pw_lt _ (by omega)) (pw_add j (by omega))
theorem wfc_sinP (u : Option Nat) (j : Nat) : Wfc .f64 (sinP u j) := by cases j with
  | zero => exact wfc_cls (by decide)
  | succ j => exact wfc_fop _ _ _ _
theorem wfc_sinV (f : Option Nat) : Wfc .f64 (sinV f) := wfc_fop _ _ _ _
theorem wfc_fneg {k : FloatKind} {c : Option Nat} (h : Wfc k c) : Wfc k (fneg k c) := fun r hr => by
  cases c with
  | none => cases hr
  | some b =>
    have e : r = Op.negFloat k b := by unfold fneg at hr; simp at hr; exact hr.symm
    subst e
    obtain ⟨h1, h2⟩ := h b rfl
    exact ⟨by rw [neg_rung h2]; exact h1, neg_lt h2⟩
theorem wfc_sinF (f : Option Nat) : Wfc .f64 (sinF f) := by
  unfold sinF; split
  · exact wfc_fneg (wfc_sinV _)
  · exact wfc_sinV _
theorem bd_sinV {f : Option Nat} (hf : Bd .f64 (pw 3) f) : Bd .f64 (pw 118) (sinV f) := by
  have hz : Bd .f64 (pw 6) (fop .mul .f64 f (cls .f64 4618760256179416344)) := bd_mul (D := 4618760256179416344) hf (Bd.cls (by decide +kernel)) (by decide +kernel) (by decide +kernel) (by decide +kernel)
  have hu : Bd .f64 (pw 12) (fop .mul .f64 (fop .mul .f64 f (cls .f64 4618760256179416344)) (fop .mul .f64 f (cls .f64 4618760256179416344))) := bd_mul hz hz (by decide +kernel) (by decide +kernel) (by decide +kernel)
  exact bd_mul hz (bd_sinP hu 8 (by omega)) (by decide +kernel) (by decide +kernel) (by decide +kernel)
theorem bd_fr1 {c : Option Nat} (h : Bd .f64 (pw 0) c) : Bd .f64 (pw 1) (fr1 c) := by
  unfold fr1; split
  · exact bd_add (D := 4607182418800017408) h (Bd.cls (by decide +kernel)) (by decide +kernel) (by decide +kernel) (by decide +kernel)
  · exact h.mono (by decide +kernel)
theorem bd_fr2 {c : Option Nat} (h : Bd .f64 (pw 1) c) : Bd .f64 (pw 2) (fr2 c) := by
  unfold fr2; split
  · exact bd_sub (D := 4602678819172646912) h (Bd.cls (by decide +kernel)) (by decide +kernel) (by decide +kernel) (by decide +kernel)
  · exact h.mono (by decide +kernel)
theorem bd_fr3 {c : Option Nat} (h : Bd .f64 (pw 2) c) : Bd .f64 (pw 3) (fr3 c) := by
  unfold fr3; split
  · exact bd_sub (C := 4602678819172646912) (Bd.cls (by decide +kernel)) h (by decide +kernel) (by decide +kernel) (by decide +kernel)
  · exact h.mono (by decide +kernel)
/-- the sine of up to two turns lies within a float32 -/
theorem bd_sinF {c : Option Nat} (h : Bd .f64 (pw 1) c) : Bd .f64 (pw 118) (sinF c) := by
  unfold sinF; split
  · exact bd_neg (bd_sinV (bd_fr3 (bd_fr2 h))) (wfc_sinV _)
  · exact bd_sinV (bd_fr3 (bd_fr2 h))
theorem noOver_118 {b : Nat} (h : Bd .f64 (pw 118) (cls .f64 b)) : NoOver .f64 .f32 b := noOver_bd h (by decide +kernel) (by decide +kernel)

theorem Drew.trans {a b c : World} (h : Drew a b) (k : Drew b c) : Drew a c := by obtain ⟨m, rfl⟩ := k; exact h.drewN m

theorem nan_any (w : World) :
    Calls Try.prog 36 #[] w fun e w' => e = .returned (.float .f64 9221120237041090561) ∧ w = w' := by
  go_enter Try.func36, Try.ntmps36
  go_wp2
  go_ret
  exact ⟨rfl, rfl⟩
end Go.Proofs.Ytmpeogpmlgnmfaa
