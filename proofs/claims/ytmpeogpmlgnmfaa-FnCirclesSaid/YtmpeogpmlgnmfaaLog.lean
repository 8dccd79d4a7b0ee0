/- The logarithm of a float32, as both texts give it. -/
import Derived.Test.YtmpeogpmlgnmfaaLnB
import Derived.Test.YtmpeogpmlgnmfaaRoot
namespace Go.Proofs.Ytmpeogpmlgnmfaa
open Go.RowKit Flt

/-- the logarithm of a float32, as a class -/
def logC (b : Nat) : Option Nat :=
  if rung FloatKind.f32.format b ≤ FloatKind.f32.format.infRung then
    if rung FloatKind.f32.format b = 0 then some 4286578688
    else if sgn FloatKind.f32.format b = true then none
    else if b = 2139095040 then some 2139095040
    else fconv .f64 .f32 (lnP (conv .f32 .f64 b))
  else none
theorem noOver_41 {b : Nat} (h : Bd .f64 (pw 41) (cls .f64 b)) : NoOver .f64 .f32 b := noOver_bd h (by decide +kernel) (by decide +kernel)

theorem isInf_inf (w : World) :
    Calls Try.prog 64 #[.float .f64 9218868437227405312, .int .i64 1] w fun e w' => e = .returned (.bool true) ∧ w = w' := by
  have ht : (ford .f64 (cls .f64 9218868437227405312) (cls .f64 9218868437227405311) == some .gt) = true := by decide +kernel
  go_enter Try.func64, Try.ntmps64
  go_wp2
  go_ret
  exact ⟨rfl, rfl⟩
/-- what the tests of both texts say of a float32 -/
theorem log_cases (b : Nat) (hb : b < 4294967296) :
    (cls .f32 b = none ∧ logC b = none)
    ∨ (ford .f32 (cls .f32 b) (cls .f32 0) = some .eq ∧ ford .f64 (cls .f64 (conv .f32 .f64 b)) (cls .f64 0) = some .eq ∧ ford .f32 (cls .f32 b) (cls .f32 b) = some .eq ∧ ford .f64 (cls .f64 (conv .f32 .f64 b)) (cls .f64 (conv .f32 .f64 b)) = some .eq ∧ cls .f32 b = some b ∧ logC b = some 4286578688)
    ∨ (ford .f32 (cls .f32 b) (cls .f32 0) = some .lt ∧ ford .f64 (cls .f64 (conv .f32 .f64 b)) (cls .f64 0) = some .lt ∧ ford .f32 (cls .f32 b) (cls .f32 b) = some .eq ∧ ford .f64 (cls .f64 (conv .f32 .f64 b)) (cls .f64 (conv .f32 .f64 b)) = some .eq ∧ cls .f32 b = some b ∧ logC b = none)
    ∨ (b = 2139095040)
    ∨ (ford .f32 (cls .f32 b) (cls .f32 0) = some .gt ∧ ford .f64 (cls .f64 (conv .f32 .f64 b)) (cls .f64 0) = some .gt ∧ ford .f32 (cls .f32 b) (cls .f32 b) = some .eq ∧ ford .f64 (cls .f64 (conv .f32 .f64 b)) (cls .f64 (conv .f32 .f64 b)) = some .eq ∧ cls .f32 b = some b ∧ finB (cls .f32 b) = true ∧ 3936146074321813504 ≤ conv .f32 .f64 b ∧ conv .f32 .f64 b ≤ 5183643171103440896 ∧ logC b = fconv .f64 .f32 (lnP (conv .f32 .f64 b))) := by
  by_cases h : rung FloatKind.f32.format b ≤ FloatKind.f32.format.infRung
  · right
    have hc := cls_of_le h
    have e1 : ford .f32 (cls .f32 b) (cls .f32 b) = some .eq := by rw [hc]; exact ford_self h
    have e2 : ford .f64 (cls .f64 (conv .f32 .f64 b)) (cls .f64 (conv .f32 .f64 b)) = some .eq := by rw [cls_of_le (conv_nn h)]; exact ford_self (conv_nn h)
    have z := zero_cmp32 h
    have z2 := wide_cmp h
    by_cases h0 : rung FloatKind.f32.format b = 0
    · left
      rw [if_pos h0] at z
      exact ⟨z, z2.trans z, e1, e2, hc, by unfold logC; rw [if_pos h, if_pos h0]⟩
    · right
      rw [if_neg h0] at z
      cases hs : sgn FloatKind.f32.format b
      · right
        rw [hs] at z
        have hw := word_of (f := FloatKind.f32.format) hb
        rw [hs] at hw
        have hbr : b = rung FloatKind.f32.format b := hw.symm
        have h' : b ≤ 2139095040 := hbr ▸ h
        by_cases hi : b = 2139095040
        · exact .inl hi
        · right
          have := wide_pos (b := b) (by omega) (by omega)
          refine ⟨z, z2.trans z, e1, e2, hc, ?_, this.1, this.2, ?_⟩
          · rw [finB_eq (nn_cls _ _), hc]
            show decide _ = true
            rw [← hbr]
            exact decide_eq_true (show b < 2139095040 by omega)
          · unfold logC; rw [if_pos h, if_neg h0, if_neg (by rw [hs]; decide), if_neg hi]
      · left
        rw [hs] at z
        exact ⟨z, z2.trans z, e1, e2, hc, by unfold logC; rw [if_pos h, if_neg h0, if_pos hs]⟩
  · left
    exact ⟨by unfold cls; rw [if_neg h], by unfold logC; rw [if_neg h]⟩
theorem log_inf : logC 2139095040 = some 2139095040 := by unfold logC; rw [if_pos (by decide), if_neg (by decide), if_neg (by decide), if_pos rfl]

end Go.Proofs.Ytmpeogpmlgnmfaa
