/- The logarithm of a float32, as both texts give it. -/
import Derived.Test.YtcjkelnhikhbhaaLnB
import Derived.Test.YtcjkelnhikhbhaaRoot
namespace Go.Proofs.Ytcjkelnhikhbhaa
open Go.RowKit Flt

/-- the logarithm of a float32, as a class -/
def logC (b : Nat) : Option Nat :=
  if rung FloatKind.f32.format b ≤ FloatKind.f32.format.infRung then
    if rung FloatKind.f32.format b = 0 then some 4286578688
    else if sgn FloatKind.f32.format b = true then none
    else if b = 2139095040 then some 2139095040
    else fconv .f64 .f32 (lnP (conv .f32 .f64 b))
  else none
theorem noOver_41 {b : Nat} (h : Bd .f64 (pw 41) (cls .f64 b)) : NoOver .f64 .f32 b := noOver_bd h (by decide +kernel) (by decide +kernel)

theorem minf_any (w : World) :
    Calls Try.prog 45 #[.int .i64 (-1)] w fun e w' => e = .returned (.float .f64 18442240474082181120) ∧ w = w' := by
  go_enter Try.func45, Try.ntmps45
  go_wp2
  go_ret
  exact ⟨rfl, rfl⟩
theorem isInf_inf (w : World) :
    Calls Try.prog 76 #[.float .f64 9218868437227405312, .int .i64 1] w fun e w' => e = .returned (.bool true) ∧ w = w' := by
  have ht : (ford .f64 (cls .f64 9218868437227405312) (cls .f64 9218868437227405311) == some .gt) = true := by decide +kernel
  go_enter Try.func76, Try.ntmps76
  go_wp2
  go_ret
  exact ⟨rfl, rfl⟩
/-- what the tests of both texts say of a float32 -/
theorem log_cases (b : Nat) (hb : b < 4294967296) :
    (cls .f32 b = none ∧ logC b = none)
    ∨ (ford .f32 (cls .f32 b) (cls .f32 0) = some .eq ∧ ford .f64 (cls .f64 (conv .f32 .f64 b)) (cls .f64 0) = some .eq ∧ ford .f32 (cls .f32 b) (cls .f32 b) = some .eq ∧ ford .f64 (cls .f64 (conv .f32 .f64 b)) (cls .f64 (conv .f32 .f64 b)) = some .eq ∧ cls .f32 b = some b ∧ logC b = some 4286578688)
    ∨ (ford .f32 (cls .f32 b) (cls .f32 0) = some .lt ∧ ford .f64 (cls .f64 (conv .f32 .f64 b)) (cls .f64 0) = some .lt ∧ ford .f32 (cls .f32 b) (cls .f32 b) = some .eq ∧ ford .f64 (cls .f64 (conv .f32 .f64 b)) (cls .f64 (conv .f32 .f64 b)) = some .eq ∧ cls .f32 b = some b ∧ logC b = none)
    ∨ (b = 2139095040)
    ∨ (ford .f32 (cls .f32 b) (cls .f32 0) = some .gt ∧ ford .f64 (cls .f64 (conv .f32 .f64 b)) (cls .f64 0) = some .gt ∧ ford .f32 (cls .f32 b) (cls .f32 b) = some .eq ∧ ford .f64 (cls .f64 (conv .f32 .f64 b)) (cls .f64 (conv .f32 .f64 b)) = some .eq ∧ cls .f32 b = some b ∧ finB (cls .f32 b) = true ∧ 3936146074321813504 ≤ conv .f32 .f64 b ∧ conv .f32 .f64 b ≤ 5183643171103440896 ∧ logC b = fconv .f64 .f32 (lnP (conv .f32 .f64 b))) := by
  by_cases h : rung FloatKind.f32.format b ≤ FloatKind.f32.format.infRung
  · right
    have hc := cls_of_le h
    have e1 : ford .f32 (cls .f32 b) (cls .f32 b) = some .eq := by rw [hc]; exact ford_self h
    have e2 : ford .f64 (cls .f64 (conv .f32 .f64 b)) (cls .f64 (conv .f32 .f64 b)) = some .eq := by rw [cls_of_le (conv_nn h)]; exact ford_self (conv_nn h)
    have z := zero_cmp32 h
    have z2 := wide_cmp h
    by_cases h0 : rung FloatKind.f32.format b = 0
    · left
      rw [if_pos h0] at z
      exact ⟨z, z2.trans z, e1, e2, hc, by unfold logC; rw [if_pos h, if_pos h0]⟩
    · right
      rw [if_neg h0] at z
      cases hs : sgn FloatKind.f32.format b
      · right
        rw [hs] at z
        have hw := word_of (f := FloatKind.f32.format) hb
        rw [hs] at hw
        have hbr : b = rung FloatKind.f32.format b := hw.symm
        have h' : b ≤ 2139095040 := hbr ▸ h
        by_cases hi : b = 2139095040
        · exact .inl hi
        · right
          have := wide_pos (b := b) (by omega) (by omega)
          refine ⟨z, z2.trans z, e1, e2, hc, ?_, this.1, this.2, ?_⟩
          · rw [finB_eq (nn_cls _ _), hc]
            show decide _ = true
            rw [← hbr]
            exact decide_eq_true (show b < 2139095040 by omega)
          · unfold logC; rw [if_pos h, if_neg h0, if_neg (by rw [hs]; decide), if_neg hi]
      · left
        rw [hs] at z
        exact ⟨z, z2.trans z, e1, e2, hc, by unfold logC; rw [if_pos h, if_neg h0, if_pos hs]⟩
  · left
    exact ⟨by unfold cls; rw [if_neg h], by unfold logC; rw [if_neg h]⟩
theorem log_inf : logC 2139095040 = some 2139095040 := by unfold logC; rw [if_pos (by decide), if_neg (by decide), if_neg (by decide), if_pos rfl]

set_option maxHeartbeats 2000000 in
theorem logI (b : Nat) (w : World) (hb : b < 4294967296) :
    Calls Try.prog 28 #[.float .f32 b] w fun e w' => ∃ r, e = .returned (.float .f32 r) ∧ cls .f32 r = logC b ∧ r < 4294967296 ∧ Drew w w' := by
  rcases log_cases b hb with ⟨hn, hl⟩ | ⟨z, z2, e1, e2, hc, hl⟩ | ⟨z, z2, e1, e2, hc, hl⟩ | rfl | ⟨z, z2, e1, e2, hc, hf, y1, y2, hl⟩
  · have HL := Lib.hid hl
    have t1 : (ford .f32 (cls .f32 b) (cls .f32 0) == some .eq) = false := by rw [hn]; rfl
    have t2 : (ford .f32 (cls .f32 b) (cls .f32 0) == some .lt) = false := by rw [hn]; rfl
    have t3 : (ford .f32 (cls .f32 b) (cls .f32 b) != some .eq) = true := by rw [hn]; rfl
    clear hl hn
    go_enter Try.func28, Try.ntmps28
    go_wp2_with (first | (refine (nan_any _).mono ?_; rintro e w1 ⟨rfl, rfl⟩) | (refine wpList_conv rfl _ _ _ rfl .f64 .f32 _ rfl (by decide) (by kernel_rfl) Try.underlying23 (fun h => absurd h (by decide +kernel)) ?_; intro τ n))
    go_ret
    exact ⟨_, rfl, (cls_rep' (nn_fconv _ _ _ (nn_cls _ _)) _).trans (by rw [HL.out]; decide +kernel), rep_lt (wfc_fconv' _ _ _ (nn_cls _ _)) _, by repeat (first | exact Drew.refl _ | refine Drew.drewN ?_ _ | refine Drew.drew ?_)⟩
  · have HL := Lib.hid hl
    have t1 : (ford .f32 (cls .f32 b) (cls .f32 0) == some .eq) = true := by rw [z]; rfl
    clear hl z z2 e1 e2 hc
    go_enter Try.func28, Try.ntmps28
    go_wp2_with (first | (refine (minf_any _).mono ?_; rintro e w1 ⟨rfl, rfl⟩) | (refine wpList_conv rfl _ _ _ rfl .f64 .f32 _ rfl (by decide) (by kernel_rfl) Try.underlying23 (fun h => absurd h (by decide +kernel)) ?_; intro τ n))
    go_ret
    exact ⟨_, rfl, (cls_rep' (nn_fconv _ _ _ (nn_cls _ _)) _).trans (by rw [HL.out]; decide +kernel), rep_lt (wfc_fconv' _ _ _ (nn_cls _ _)) _, by repeat (first | exact Drew.refl _ | refine Drew.drewN ?_ _ | refine Drew.drew ?_)⟩
  · have HL := Lib.hid hl
    have t1 : (ford .f32 (cls .f32 b) (cls .f32 0) == some .eq) = false := by rw [z]; rfl
    have t2 : (ford .f32 (cls .f32 b) (cls .f32 0) == some .lt) = true := by rw [z]; rfl
    clear hl z z2 e1 e2 hc
    go_enter Try.func28, Try.ntmps28
    go_wp2_with (first | (refine (nan_any _).mono ?_; rintro e w1 ⟨rfl, rfl⟩) | (refine wpList_conv rfl _ _ _ rfl .f64 .f32 _ rfl (by decide) (by kernel_rfl) Try.underlying23 (fun h => absurd h (by decide +kernel)) ?_; intro τ n))
    go_ret
    exact ⟨_, rfl, (cls_rep' (nn_fconv _ _ _ (nn_cls _ _)) _).trans (by rw [HL.out]; decide +kernel), rep_lt (wfc_fconv' _ _ _ (nn_cls _ _)) _, by repeat (first | exact Drew.refl _ | refine Drew.drewN ?_ _ | refine Drew.drew ?_)⟩
  · have t1 : (ford .f32 (cls .f32 2139095040) (cls .f32 0) == some .eq) = false := by decide +kernel
    have t2 : (ford .f32 (cls .f32 2139095040) (cls .f32 0) == some .lt) = false := by decide +kernel
    have t3 : (ford .f32 (cls .f32 2139095040) (cls .f32 2139095040) != some .eq) = false := by decide +kernel
    have t4 : finB (cls .f32 2139095040) = false := by decide +kernel
    go_enter Try.func28, Try.ntmps28
    go_wp2_with (first | (refine (isFinite_any _ _).mono ?_; rintro e w1 ⟨n, rfl, rfl⟩))
    go_ret
    exact ⟨_, rfl, by rw [log_inf]; decide +kernel, by decide, by repeat (first | exact Drew.refl _ | refine Drew.drewN ?_ _ | refine Drew.drew ?_)⟩
  · have HL := Lib.hid hl
    have t1 : (ford .f32 (cls .f32 b) (cls .f32 0) == some .eq) = false := by rw [z]; rfl
    have t2 : (ford .f32 (cls .f32 b) (cls .f32 0) == some .lt) = false := by rw [z]; rfl
    have t3 : (ford .f32 (cls .f32 b) (cls .f32 b) != some .eq) = false := by rw [e1]; rfl
    have hconv : ∀ τ, rep .f64 (fconv .f32 .f64 (cls .f32 b)) τ = conv .f32 .f64 b := fun τ => by rw [hc]; rfl
    have HY := Lib.hid (And.intro y1 y2)
    clear hl z z2 e1 e2 hc y1 y2
    generalize conv .f32 .f64 b = Y at *
    go_enter Try.func28, Try.ntmps28
    go_wp2_with (first | (refine (isFinite_any _ _).mono ?_; rintro e w1 ⟨n, rfl, rfl⟩) | (refine wpList_conv rfl _ _ _ rfl .f32 .f64 _ rfl (by decide) (by kernel_rfl) Try.underlying28 (noOver_widen _) ?_; intro τ q; rw [hconv τ]) | (refine (ln_i _ _ HY.out.1 HY.out.2).mono ?_; rintro e w1 ⟨r, rfl, hr, hbd, hd⟩; have HR := Lib.hid hr; have HD := Lib.hid hd; have ho := noOver_41 hbd; clear hr hbd hd) | (refine wpList_conv rfl _ _ _ rfl .f64 .f32 _ rfl (by decide) (by kernel_rfl) Try.underlying23 ho ?_; intro ρ q))
    go_ret
    exact ⟨_, rfl, (cls_rep' (nn_fconv _ _ _ (nn_cls _ _)) _).trans (by rw [HL.out, HR.out]), rep_lt (wfc_fconv' _ _ _ (nn_cls _ _)) _, by repeat (first | exact ((Drew.refl _).drewN _).trans HD.out | exact HD.out | exact Drew.refl _ | refine Drew.drewN ?_ _ | refine Drew.drew ?_)⟩
theorem logWide_nan (b : Nat) (w : World)
    (h : (ford .f64 (cls .f64 b) (cls .f64 b) != some .eq) = true) :
    Calls Try.prog 71 #[.float .f64 b] w fun e w' => e = .returned (.float .f64 9221120237041090561) ∧ Drew w w' := by
  go_enter Try.func71, Try.ntmps71
  go_wp2_with (first | (go_at_call 49; refine (nan_any _).mono ?_; rintro e w1 ⟨rfl, rfl⟩))
  go_ret
  exact ⟨rfl, by repeat (first | exact Drew.refl _ | refine Drew.drewN ?_ _ | refine Drew.drew ?_)⟩
theorem logWide_neg (b : Nat) (w : World)
    (h1 : (ford .f64 (cls .f64 b) (cls .f64 b) != some .eq) = false) (h2 : (ford .f64 (cls .f64 b) (cls .f64 0) == some .lt) = true) :
    Calls Try.prog 71 #[.float .f64 b] w fun e w' => e = .returned (.float .f64 9221120237041090561) ∧ Drew w w' := by
  go_enter Try.func71, Try.ntmps71
  go_wp2_with (first | (go_at_call 49; refine (nan_any _).mono ?_; rintro e w1 ⟨rfl, rfl⟩))
  go_ret
  exact ⟨rfl, by repeat (first | exact Drew.refl _ | refine Drew.drewN ?_ _ | refine Drew.drew ?_)⟩
theorem logWide_zero (b : Nat) (w : World)
    (h1 : (ford .f64 (cls .f64 b) (cls .f64 b) != some .eq) = false) (h2 : (ford .f64 (cls .f64 b) (cls .f64 0) == some .lt) = false) (h3 : (ford .f64 (cls .f64 b) (cls .f64 0) == some .eq) = true) :
    Calls Try.prog 71 #[.float .f64 b] w fun e w' => e = .returned (.float .f64 18442240474082181120) ∧ Drew w w' := by
  go_enter Try.func71, Try.ntmps71
  go_wp2_with (first | (go_at_call 45; refine (minf_any _).mono ?_; rintro e w1 ⟨rfl, rfl⟩))
  go_ret
  exact ⟨rfl, by repeat (first | exact Drew.refl _ | refine Drew.drewN ?_ _ | refine Drew.drew ?_)⟩
theorem logWide_inf (w : World) :
    Calls Try.prog 71 #[.float .f64 9218868437227405312] w fun e w' => e = .returned (.float .f64 9218868437227405312) ∧ Drew w w' := by
  have t1 : (ford .f64 (cls .f64 9218868437227405312) (cls .f64 9218868437227405312) != some .eq) = false := by decide +kernel
  have t2 : (ford .f64 (cls .f64 9218868437227405312) (cls .f64 0) == some .lt) = false := by decide +kernel
  have t3 : (ford .f64 (cls .f64 9218868437227405312) (cls .f64 0) == some .eq) = false := by decide +kernel
  go_enter Try.func71, Try.ntmps71
  go_wp2_with (first | (go_at_call 76; refine (isInf_inf _).mono ?_; rintro e w1 ⟨rfl, rfl⟩))
  go_ret
  exact ⟨rfl, by repeat (first | exact Drew.refl _ | refine Drew.drewN ?_ _ | refine Drew.drew ?_)⟩
set_option maxHeartbeats 2000000 in
theorem l01Log_any (b : Nat) (w : World) (hb : b < 4294967296) :
    Calls Try.prog 57 #[.float .f32 b] w fun e w' => ∃ r, e = .returned (.float .f32 r) ∧ cls .f32 r = logC b ∧ r < 4294967296 ∧ Drew w w' := by
  rcases log_cases b hb with ⟨hn, hl⟩ | ⟨z, z2, e1, e2, hc, hl⟩ | ⟨z, z2, e1, e2, hc, hl⟩ | rfl | ⟨z, z2, e1, e2, hc, hf, y1, y2, hl⟩
  · have HL := Lib.hid hl
    have t1 : ∀ τ, (ford .f64 (cls .f64 (rep .f64 (fconv .f32 .f64 (cls .f32 b)) τ)) (cls .f64 (rep .f64 (fconv .f32 .f64 (cls .f32 b)) τ)) != some .eq) = true := fun τ => by
      rw [cls_rep' (nn_fconv _ _ _ (nn_cls _ _)), hn]; rfl
    have T1 := Lib.hid t1
    clear hl hn t1
    go_enter Try.func57, Try.ntmps57
    go_wp2_with (first | (refine wpList_conv rfl _ _ _ rfl .f32 .f64 _ rfl (by decide) (by kernel_rfl) Try.underlying28 (noOver_widen _) ?_; intro τ q) | (refine (logWide_nan _ _ (T1.out τ)).mono ?_; rintro e w1 ⟨rfl, hd⟩; have HD := Lib.hid hd; clear hd) | (refine (narrow_any _ _ (fun h => absurd h (by decide +kernel))).mono ?_; rintro e w' ⟨ρ, q, rfl, rfl⟩))
    go_ret
    exact ⟨_, rfl, (cls_rep' (nn_fconv _ _ _ (nn_cls _ _)) _).trans (by rw [HL.out]; decide +kernel), rep_lt (wfc_fconv' _ _ _ (nn_cls _ _)) _, by repeat (first | exact ((Drew.refl _).drewN _).trans HD.out | exact HD.out | exact Drew.refl _ | refine Drew.drewN ?_ _ | refine Drew.drew ?_)⟩
  · have HL := Lib.hid hl
    have T1 := Lib.hid (show (ford .f64 (cls .f64 (conv .f32 .f64 b)) (cls .f64 (conv .f32 .f64 b)) != some .eq) = false by rw [e2]; rfl)
    have T2 := Lib.hid (show (ford .f64 (cls .f64 (conv .f32 .f64 b)) (cls .f64 0) == some .lt) = false by rw [z2]; rfl)
    have T3 := Lib.hid (show (ford .f64 (cls .f64 (conv .f32 .f64 b)) (cls .f64 0) == some .eq) = true by rw [z2]; rfl)
    have hconv : ∀ τ, rep .f64 (fconv .f32 .f64 (cls .f32 b)) τ = conv .f32 .f64 b := fun τ => by rw [hc]; rfl
    clear hl z z2 e1 e2 hc
    generalize conv .f32 .f64 b = Y at *
    go_enter Try.func57, Try.ntmps57
    go_wp2_with (first | (refine wpList_conv rfl _ _ _ rfl .f32 .f64 _ rfl (by decide) (by kernel_rfl) Try.underlying28 (noOver_widen _) ?_; intro τ q; rw [hconv τ]) | (refine (logWide_zero _ _ T1.out T2.out T3.out).mono ?_; rintro e w1 ⟨rfl, hd⟩; have HD := Lib.hid hd; clear hd) | (refine (narrow_any _ _ (fun h => absurd h (by decide +kernel))).mono ?_; rintro e w' ⟨ρ, q, rfl, rfl⟩))
    go_ret
    exact ⟨_, rfl, (cls_rep' (nn_fconv _ _ _ (nn_cls _ _)) _).trans (by rw [HL.out]; decide +kernel), rep_lt (wfc_fconv' _ _ _ (nn_cls _ _)) _, by repeat (first | exact ((Drew.refl _).drewN _).trans HD.out | exact HD.out | exact Drew.refl _ | refine Drew.drewN ?_ _ | refine Drew.drew ?_)⟩
  · have HL := Lib.hid hl
    have T1 := Lib.hid (show (ford .f64 (cls .f64 (conv .f32 .f64 b)) (cls .f64 (conv .f32 .f64 b)) != some .eq) = false by rw [e2]; rfl)
    have T2 := Lib.hid (show (ford .f64 (cls .f64 (conv .f32 .f64 b)) (cls .f64 0) == some .lt) = true by rw [z2]; rfl)
    have hconv : ∀ τ, rep .f64 (fconv .f32 .f64 (cls .f32 b)) τ = conv .f32 .f64 b := fun τ => by rw [hc]; rfl
    clear hl z z2 e1 e2 hc
    generalize conv .f32 .f64 b = Y at *
    go_enter Try.func57, Try.ntmps57
    go_wp2_with (first | (refine wpList_conv rfl _ _ _ rfl .f32 .f64 _ rfl (by decide) (by kernel_rfl) Try.underlying28 (noOver_widen _) ?_; intro τ q; rw [hconv τ]) | (refine (logWide_neg _ _ T1.out T2.out).mono ?_; rintro e w1 ⟨rfl, hd⟩; have HD := Lib.hid hd; clear hd) | (refine (narrow_any _ _ (fun h => absurd h (by decide +kernel))).mono ?_; rintro e w' ⟨ρ, q, rfl, rfl⟩))
    go_ret
    exact ⟨_, rfl, (cls_rep' (nn_fconv _ _ _ (nn_cls _ _)) _).trans (by rw [HL.out]; decide +kernel), rep_lt (wfc_fconv' _ _ _ (nn_cls _ _)) _, by repeat (first | exact ((Drew.refl _).drewN _).trans HD.out | exact HD.out | exact Drew.refl _ | refine Drew.drewN ?_ _ | refine Drew.drew ?_)⟩
  · have hconv : ∀ τ, rep .f64 (fconv .f32 .f64 (cls .f32 2139095040)) τ = 9218868437227405312 := fun τ => by
      rw [show fconv .f32 .f64 (cls .f32 2139095040) = some 9218868437227405312 by decide +kernel, rep_some]
    go_enter Try.func57, Try.ntmps57
    go_wp2_with (first | (refine wpList_conv rfl _ _ _ rfl .f32 .f64 _ rfl (by decide) (by kernel_rfl) Try.underlying28 (noOver_widen _) ?_; intro τ q; rw [hconv τ]) | (refine (logWide_inf _).mono ?_; rintro e w1 ⟨rfl, hd⟩; have HD := Lib.hid hd; clear hd) | (refine (narrow_any _ _ (fun h => absurd h (by decide +kernel))).mono ?_; rintro e w' ⟨ρ, q, rfl, rfl⟩))
    go_ret
    exact ⟨_, rfl, (cls_rep' (nn_fconv _ _ _ (nn_cls _ _)) _).trans (by rw [log_inf]; decide +kernel), rep_lt (wfc_fconv' _ _ _ (nn_cls _ _)) _, by repeat (first | exact ((Drew.refl _).drewN _).trans HD.out | exact HD.out | exact Drew.refl _ | refine Drew.drewN ?_ _ | refine Drew.drew ?_)⟩
  · have HL := Lib.hid hl
    have hconv : ∀ τ, rep .f64 (fconv .f32 .f64 (cls .f32 b)) τ = conv .f32 .f64 b := fun τ => by rw [hc]; rfl
    have HY := Lib.hid (And.intro y1 y2)
    clear hl z z2 e1 e2 hc y1 y2 hf
    generalize conv .f32 .f64 b = Y at *
    go_enter Try.func57, Try.ntmps57
    go_wp2_with (first | (refine wpList_conv rfl _ _ _ rfl .f32 .f64 _ rfl (by decide) (by kernel_rfl) Try.underlying28 (noOver_widen _) ?_; intro τ q; rw [hconv τ]) | (refine (ln_s _ _ HY.out.1 HY.out.2).mono ?_; rintro e w1 ⟨r, rfl, hr, hbd, hd⟩; have HR := Lib.hid hr; have HD := Lib.hid hd; have ho := noOver_41 hbd; clear hr hbd hd) | (refine (narrow_any _ _ ho).mono ?_; rintro e w' ⟨ρ, q, rfl, rfl⟩))
    go_ret
    exact ⟨_, rfl, (cls_rep' (nn_fconv _ _ _ (nn_cls _ _)) _).trans (by rw [HL.out, HR.out]), rep_lt (wfc_fconv' _ _ _ (nn_cls _ _)) _, by repeat (first | exact ((Drew.refl _).drewN _).trans HD.out | exact HD.out | exact Drew.refl _ | refine Drew.drewN ?_ _ | refine Drew.drew ?_)⟩
theorem logS (b : Nat) (w : World) (hb : b < 4294967296) :
    Calls Try.prog 33 #[.float .f32 b] w fun e w' => ∃ r, e = .returned (.float .f32 r) ∧ cls .f32 r = logC b ∧ r < 4294967296 ∧ Drew w w' := by
  go_enter Try.func33, Try.ntmps33
  go_wp2_with (first | (refine (l01Log_any b _ hb).mono ?_; rintro e w1 ⟨r, rfl, hr, hlt, hd⟩; have HR := Lib.hid hr; have HD := Lib.hid hd; clear hr hd))
  go_ret
  exact ⟨r, rfl, HR.out, hlt, HD.out⟩
end Go.Proofs.Ytcjkelnhikhbhaa
