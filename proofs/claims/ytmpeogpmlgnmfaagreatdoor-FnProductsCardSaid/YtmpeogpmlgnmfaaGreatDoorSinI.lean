/- The program's sine of turns alone. -/
import Derived.Test.YtmpeogpmlgnmfaaGreatDoorSinT
import Derived.Test.YtmpeogpmlgnmfaaGreatDoorRoot
namespace Go.Proofs.YtmpeogpmlgnmfaaGreatDoor.SinI
set_option maxRecDepth 100000
open Go.ChangeShapes Go.WideShapes Go.ChangeAt Go.RowKit Go.Deep Flt

/-- the sine of a float32 of turns, as a class -/
def sinC (b : Nat) : Option Nat :=
  if finC .f32 (cls .f32 b) = true then
    if 4841369599423283200 ≤ rung FloatKind.f64.format (conv .f32 .f64 b) then some 0
    else fconv .f64 .f32 (sinF (fr1 (fr0 (conv .f32 .f64 b) ((Go.floatToIntVal .f64 (conv .f32 .f64 b) .i64).getD 0))))
  else none

theorem fin_some {b : Nat} (h : finC .f32 (cls .f32 b) = true) : cls .f32 b = some b ∧ rung FloatKind.f32.format b < FloatKind.f32.format.infRung := by
  unfold cls at *
  split
  · rename_i h1; rw [if_pos h1] at h; exact ⟨rfl, by simpa [finC] using h⟩
  · rename_i h1; rw [if_neg h1] at h; cases h
theorem fin_wide {b : Nat} (h : finC .f32 (cls .f32 b) = true) : rung FloatKind.f64.format (conv .f32 .f64 b) < FloatKind.f64.format.infRung := by
  rw [conv_rung (fin_some h).2]; exact noOver_widen b (fin_some h).2

set_option maxHeartbeats 1000000 in
theorem impl_any (b : Nat) (w : World) :
    Calls Tryz.prog 37 #[.float .f32 b] w fun e w' => ∃ r, e = .returned (.float .f32 r) ∧ cls .f32 r = sinC b ∧ Drew w w' := by
  cases hf : finC .f32 (cls .f32 b)
  · have h1 : finB (cls .f32 b) = false := (finB_eq (nn_cls _ _)).trans hf
    have HC := Lib.hid (show sinC b = none by unfold sinC; rw [hf]; rfl)
    clear hf
    go_enter Tryz.func37, Tryz.ntmps37
    go_wp2_with (first | (refine (isFinite_any _ _).mono ?_; rintro e w1 ⟨n, rfl, rfl⟩) | (refine (nan_any _).mono ?_; rintro e w1 ⟨rfl, rfl⟩) | (refine wpList_conv rfl _ _ _ rfl .f64 .f32 _ rfl (by decide) (by kernel_rfl) Tryz.underlying28 (fun h => absurd h (by decide +kernel)) ?_; intro τ n))
    go_ret
    exact ⟨_, rfl, by rw [HC.out, cls_rep' (nn_fconv _ _ _ (nn_cls _ _))]; rfl, by repeat (first | exact Drew.refl _ | refine Drew.drewN ?_ _ | refine Drew.drew ?_)⟩
  · have h1 : finB (cls .f32 b) = true := (finB_eq (nn_cls _ _)).trans hf
    have hcb := (fin_some hf).1
    have hw := fin_wide hf
    have hconv : ∀ τ, rep .f64 (fconv .f32 .f64 (cls .f32 b)) τ = conv .f32 .f64 b := fun τ => by rw [hcb]; rfl
    have hlt : conv .f32 .f64 b < 18446744073709551616 := conv_lt _ _ _
    have hg := great_tests hw
    by_cases hge : 4841369599423283200 ≤ rung FloatKind.f64.format (conv .f32 .f64 b)
    · have HC := Lib.hid (show sinC b = some 0 by unfold sinC; rw [if_pos hf, if_pos hge])
      rw [decide_eq_true hge] at hg
      have HG := Lib.hid hg
      clear hf hcb hw hge hg
      have hg := HG.out
      generalize conv .f32 .f64 b = Y at *
      go_enter Tryz.func37, Tryz.ntmps37
      go_wp2_with (first | (refine (isFinite_any _ _).mono ?_; rintro e w1 ⟨n, rfl, rfl⟩) | (refine wpList_conv rfl _ _ _ rfl .f32 .f64 _ rfl (by decide) (by kernel_rfl) Tryz.underlying46 (noOver_widen _) ?_; intro τ n; rw [hconv τ]) | (refine (abs_any _ _ hlt).mono ?_; rintro e w1 ⟨rfl, rfl⟩))
      go_ret
      exact ⟨_, rfl, by rw [HC.out]; decide +kernel, by repeat (first | exact Drew.refl _ | refine Drew.drewN ?_ _ | refine Drew.drew ?_)⟩
    · rw [decide_eq_false hge] at hg
      obtain ⟨n, hn, hbd⟩ := whole_part (b := conv .f32 .f64 b) (by omega)
      have HC := Lib.hid (show sinC b = fconv .f64 .f32 (sinF (fr1 (fr0 (conv .f32 .f64 b) n))) by unfold sinC; rw [if_pos hf, if_neg hge, hn]; rfl)
      have HB := Lib.hid (bd_sinF (bd_fr1 hbd))
      have HN := Lib.hid hn
      clear hf hcb hw hge hn hbd
      generalize conv .f32 .f64 b = Y at *
      go_enter Tryz.func37, Tryz.ntmps37
      go_wp2_with (first | (refine (isFinite_any _ _).mono ?_; rintro e w1 ⟨q, rfl, rfl⟩) | (refine wpList_conv rfl _ _ _ rfl .f32 .f64 _ rfl (by decide) (by kernel_rfl) Tryz.underlying46 (noOver_widen _) ?_; intro τ q; rw [hconv τ]) | (refine (abs_any _ _ hlt).mono ?_; rintro e w1 ⟨rfl, rfl⟩) | (refine (sine_any _ n _ HN.out).mono ?_; rintro e w1 ⟨r, rfl, hr, hrlt, hd⟩; have HR := Lib.hid hr; have HD := Lib.hid hd; have ho := noOver_118 (b := r) (by rw [HR.out]; exact HB.out); clear hr hd) | (refine wpList_conv rfl _ _ _ rfl .f64 .f32 _ rfl (by decide) (by kernel_rfl) Tryz.underlying28 ho ?_; intro ρ q))
      go_ret
      exact ⟨_, rfl, by rw [HC.out, cls_rep' (nn_fconv _ _ _ (nn_cls _ _)), HR.out], by repeat (first | exact ((Drew.refl _).drewN _).trans HD.out | exact HD.out | exact Drew.refl _ | refine Drew.drewN ?_ _ | refine Drew.drew ?_)⟩
end Go.Proofs.YtmpeogpmlgnmfaaGreatDoor.SinI
