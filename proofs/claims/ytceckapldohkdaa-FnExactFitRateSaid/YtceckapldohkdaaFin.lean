/- Whether a class is a finite number: what x - x == 0 tells. (A part of XSinT; not beside it.) -/
import Derived.Test.YtceckapldohkdaaNumL
namespace Flt
open Go Ieee
theorem cls_of_le {k : FloatKind} {b : Nat} (h : rung k.format b ≤ k.format.infRung) : cls k b = some b := by unfold cls; rw [if_pos h]
theorem inf_minus (f : Format) (hB : 1 ≤ f.exponentBits) {b : Nat} (h : rung f b = f.infRung) : f.sub b b = none := by
  unfold Format.sub
  rw [read_inf hB h]
  cases sgn f b <;> rfl
/-- whether a class is a finite number -/
def finC (k : FloatKind) : Option Nat → Bool
  | some b => decide (rung k.format b < k.format.infRung)
  | none => false
/-- 'x - x == 0' tells it -/
theorem fin_test {k : FloatKind} {c : Option Nat} (hn : Nn k c) : (ford k (fop .sub k c c) (cls k 0) == some .eq) = finC k c := by
  cases c with
  | none => rfl
  | some b =>
    have h := hn b rfl
    rcases Nat.lt_or_eq_of_le h with hlt | heq
    · have e : fop .sub k (some b) (some b) = some (k.format.word (sumSign (sgn k.format b) (!sgn k.format b) (sval k.format b - sval k.format b)) (rungOf k.format (sval k.format b - sval k.format b).natAbs k.format.leastPlace)) := sub_fin hlt hlt
      have e2 : rungOf k.format (sval k.format b - sval k.format b).natAbs k.format.leastPlace = 0 := by rw [Int.sub_self]; rfl
      have hz : rung k.format 0 = 0 := Nat.zero_mod _
      rw [e, e2, cls_of_le (b := 0) (by rw [hz]; omega)]
      rw [ford_some (by rw [word_rung _ sw_pos]; omega) (by rw [hz]; omega)]
      have s1 : srung k.format (k.format.word (sumSign (sgn k.format b) (!sgn k.format b) (sval k.format b - sval k.format b)) 0) = 0 := by
        unfold srung; rw [word_rung _ sw_pos]; split <;> rfl
      have s2 : srung k.format 0 = 0 := by unfold srung; rw [hz]; split <;> rfl
      rw [s1, s2]
      have : finC k (some b) = true := by unfold finC; simpa using hlt
      rw [this]; rfl
    · have e : fop .sub k (some b) (some b) = none := inf_minus _ (eb k) heq
      rw [e]
      have : finC k (some b) = false := by unfold finC; simp; omega
      rw [this]; rfl
theorem finB_eq {c : Option Nat} (hn : Nn .f32 c) : finB c = finC .f32 c := fin_test hn
end Flt
