/- The point of the unit circle at some turns, as the program reckons it. -/
import Derived.Test.YtmpeogpmlgnmfaaPhaP
namespace Go.Proofs.Ytmpeogpmlgnmfaa
open Go.RowKit Flt
set_option maxRecDepth 100000 in
set_option maxHeartbeats 4000000 in
theorem phaI (b : Nat) (w : World) (hb : b < 18446744073709551616) :
    Calls Try.prog 16 #[.float .f64 b] w fun e w' => ∃ re im, e = .returned (.complex .f32 re im) ∧ Pha b re im ∧ Drew w w' := by
  cases hf : finC .f64 (cls .f64 b)
  · have HP := Lib.hid (show ∀ re im, cls .f32 re = none ∧ cls .f32 im = none → Pha b re im from fun re im h => by unfold Pha; rw [hf]; exact h)
    have h1 : (ford .f64 (fop .sub .f64 (cls .f64 b) (cls .f64 b)) (cls .f64 0) == some .eq) = false := by
      have := fin_test (nn_cls .f64 b)
      rw [hf] at this
      exact this
    clear hf
    go_enter Try.func16, Try.ntmps16
    go_wp2_with (first | (go_at_call 35; refine (isFinite64_any _ _).mono ?_; rintro e w1 ⟨n0, rfl, rfl⟩) | (refine (nan_any _).mono ?_; rintro e w1 ⟨rfl, rfl⟩) | (refine wpList_conv rfl _ _ _ rfl .f64 .f32 _ rfl (by decide) (by kernel_rfl) Try.underlying34 (fun h => absurd h (by decide +kernel)) ?_; intro τ n))
    go_ret
    exact ⟨_, _, rfl, HP.out _ _ ⟨(cls_rep' (nn_fconv _ _ _ (nn_cls _ _)) _).trans (by decide +kernel), (cls_rep' (nn_fconv _ _ _ (nn_cls _ _)) _).trans (by decide +kernel)⟩, by repeat (first | exact Drew.refl _ | refine Drew.drewN ?_ _ | refine Drew.drew ?_)⟩
  have hw : rung FloatKind.f64.format b < FloatKind.f64.format.infRung := by
    unfold cls at hf
    split at hf
    · simpa [finC] using hf
    · cases hf
  have h1 : (ford .f64 (fop .sub .f64 (cls .f64 b) (cls .f64 b)) (cls .f64 0) == some .eq) = true := by
    have := fin_test (nn_cls .f64 b)
    rw [hf] at this
    exact this
  have hg := great_tests hw
  by_cases hge : 4841369599423283200 ≤ rung FloatKind.f64.format b
  · rw [decide_eq_true hge] at hg
    have HP := Lib.hid (show ∀ re im, cls .f32 re = some 1065353216 ∧ cls .f32 im = some 0 → Pha b re im from fun re im h => by unfold Pha; rw [if_pos hf, if_pos hge]; exact h)
    clear hf hw hge
    go_enter Try.func16, Try.ntmps16
    go_wp2_with (first | (go_at_call 35; refine (isFinite64_any _ _).mono ?_; rintro e w1 ⟨n0, rfl, rfl⟩) | (go_at_call 37; refine (abs_any _ _ hb).mono ?_; rintro e w' ⟨rfl, rfl⟩))
    go_ret
    exact ⟨_, _, rfl, HP.out _ _ ⟨by decide +kernel, by decide +kernel⟩, by repeat (first | exact Drew.refl _ | refine Drew.drewN ?_ _ | refine Drew.drew ?_)⟩
  · rw [decide_eq_false hge] at hg
    obtain ⟨n, hn, hbd, hsm⟩ := whole_some (b := b) (by omega)
    have HPH := Lib.hid (show ∀ j re im, Stops (fr1 (fr0 b n)) j → cls .f32 re = phRe j (phC (fr1 (fr0 b n)) j) (phS (fr1 (fr0 b n)) j) ∧ cls .f32 im = phIm j (phC (fr1 (fr0 b n)) j) (phS (fr1 (fr0 b n)) j) → Pha b re im from fun j re im h1 h2 => by unfold Pha; rw [if_pos hf, if_neg hge, hn]; exact ⟨j, h1, h2⟩)
    have hq8 : ∀ r, cls .f64 r = fr1 (fr0 b n) → rung FloatKind.f64.format r ≤ qW 8 := fr_small hbd hsm
    have HQ8 := Lib.hid hq8
    have HN := Lib.hid hn
    clear hf hw hge hn hbd hsm hq8
    go_enter Try.func16, Try.ntmps16
    go_wp2_with (first | (go_at_call 35; refine (isFinite64_any _ _).mono ?_; rintro e w1 ⟨n0, rfl, rfl⟩) | (go_at_call 37; refine (abs_any _ _ hb).mono ?_; rintro e w' ⟨rfl, rfl⟩) | (refine (fraction_any b n _ HN.out).mono ?_; rintro e w1 ⟨r, rfl, hr, _, hd⟩; have HFX0 := Lib.hid hr; have HW0' := Lib.hid hd; clear hr hd))
    have HR0 := Lib.hid (HQ8.out r HFX0.out)
    have HW0 := Lib.hid (Drew.trans ((Drew.refl w).drewN _) HW0'.out)
    generalize fr1 (fr0 b n) = c at *
    have HFX := Lib.hid (show cls .f64 r = phF c 0 from HFX0.out)
    clear h1 hg HW0'
    go_loopg [4, 5] 8 (fun gk f q wr => ∃ (fb j : Nat), gk + j = 8 ∧ f = .float .f64 fb ∧ q = .int .i64 (j : Int) ∧ cls .f64 fb = phF c j ∧ (∀ i < j, qtr (phF c i) = true) ∧ rung FloatKind.f64.format fb ≤ qW gk ∧ Drew w wr)
    case atStart => exact ⟨_, 0, rfl, rfl, rfl, HFX.out, fun i hi => absurd hi (Nat.not_lt_zero i), HR0.out, by repeat (first | exact HW0.out | exact Drew.refl _ | refine Drew.drewN ?_ _ | refine Drew.drew ?_)⟩
    case round =>
      obtain ⟨fb, j, hj, rfl, rfl, hf, hi, hrg, hwr⟩ := hrel
      have HF1 := Lib.hid hf
      have HW1 := Lib.hid hwr
      clear hwr
      cases ht : qtr (cls .f64 fb)
      · have HST := Lib.hid (show Stops c j from ⟨hi, by rw [← hf]; exact ht⟩)
        have hsm : rung FloatKind.f64.format fb ≤ pw 1 := Nat.le_trans hrg (qW_small gk (by omega))
        have hfin : cls .f64 fb = some fb := cls_of_le (Nat.le_of_lt (Nat.lt_of_le_of_lt hsm (by decide +kernel)))
        have HFL := Lib.hid (show rung FloatKind.f64.format fb < 4841369599423283200 from Nat.lt_of_le_of_lt hsm (by decide +kernel))
        obtain ⟨v, hu, hvl⟩ := quarter_rest hsm
        have hv : ∀ τ, rep .f64 (fop .sub .f64 (cls .f64 4598175219545276416) (cls .f64 fb)) τ = v := fun τ => by rw [hu, rep_some]
        have HVL := Lib.hid hvl
        obtain ⟨_, _, _, hbc⟩ := sinW_of hvl
        have HBC := Lib.hid hbc
        obtain ⟨_, _, _, hbs⟩ := sinW_of HFL.out
        have HBS := Lib.hid hbs
        have eS : phS c j = sinW fb := by unfold phS; rw [← hf, hfin]; rfl
        have eC : phC c j = sinW v := by unfold phC; rw [← hf, hu]; rfl
        unfold qtr at ht
        rcases (by omega : j = 1 ∨ j = 2 ∨ j = 3 ∨ (j ≠ 1 ∧ j ≠ 2 ∧ j ≠ 3)) with rfl | rfl | rfl | ⟨n1, n2, n3⟩
        · have HRI := Lib.hid (show phRe 1 (phC c 1) (phS c 1) = fconv .f64 .f32 (fop .sub .f64 (cls .f64 0) (sinW fb)) ∧ phIm 1 (phC c 1) (phS c 1) = fconv .f64 .f32 (sinW v) from ⟨by rw [eC, eS]; rfl, by rw [eC, eS]; rfl⟩)
          clear hf hi hrg hj hsm hfin hu hvl eS eC hbc hbs
          go_wp2_with (first | (refine wpList_fop rfl .sub _ _ _ _ rfl rfl .f64 _ _ rfl rfl ?_; intro τ q; first | rw [hv τ] | skip))
          refine (sinI v _ HVL.out).mono ?_
          rintro e w2 ⟨rc, rfl, hrc, hdc⟩
          have HC1 := Lib.hid hrc
          have HW2 := Lib.hid hdc
          clear hrc hdc
          go_wp2_with fail
          refine (sinI fb _ HFL.out).mono ?_
          rintro e w3 ⟨rs, rfl, hrs, hds⟩
          have HS1 := Lib.hid hrs
          have HW3 := Lib.hid hds
          clear hrs hds
          go_wp2_with (first | (refine wpList_fop rfl .sub _ _ _ _ rfl rfl .f64 _ _ rfl rfl ?_; intro τ q) | (refine wpList_conv rfl _ _ _ rfl .f64 .f32 _ rfl (by decide) (by kernel_rfl) Try.underlying34 (noOver_119 (by first | (rw [HC1.out]; exact HBC.out.mono (by decide +kernel)) | (rw [HS1.out]; exact HBS.out.mono (by decide +kernel)) | (rw [cls_rep' (nn_fop _ _ _ _), HC1.out]; exact bd_zero_less HBC.out) | (rw [cls_rep' (nn_fop _ _ _ _), HS1.out]; exact bd_zero_less HBS.out))) ?_; intro ρ q))
          go_ret
          refine ⟨_, _, rfl, ?_, by repeat (first | exact HW1.out | exact Drew.trans (by repeat (first | exact HW1.out | exact Drew.trans (by repeat (first | exact HW1.out | refine Drew.drewN ?_ _)) HW2.out | refine Drew.drewN ?_ _)) HW3.out | refine Drew.drewN ?_ _ | refine Drew.drew ?_)⟩
          exact HPH.out 1 _ _ HST.out ⟨by rw [HRI.out.1]; exact (cls_rep' (nn_fconv _ _ _ (nn_fop _ _ _ _)) _).trans (by rw [HS1.out]), by rw [HRI.out.2]; exact (cls_rep' (nn_fconv _ _ _ (nn_cls _ _)) _).trans (by rw [HC1.out])⟩
        · have HRI := Lib.hid (show phRe 2 (phC c 2) (phS c 2) = fconv .f64 .f32 (fop .sub .f64 (cls .f64 0) (sinW v)) ∧ phIm 2 (phC c 2) (phS c 2) = fconv .f64 .f32 (fop .sub .f64 (cls .f64 0) (sinW fb)) from ⟨by rw [eC, eS]; rfl, by rw [eC, eS]; rfl⟩)
          clear hf hi hrg hj hsm hfin hu hvl eS eC hbc hbs
          go_wp2_with (first | (refine wpList_fop rfl .sub _ _ _ _ rfl rfl .f64 _ _ rfl rfl ?_; intro τ q; first | rw [hv τ] | skip))
          refine (sinI v _ HVL.out).mono ?_
          rintro e w2 ⟨rc, rfl, hrc, hdc⟩
          have HC1 := Lib.hid hrc
          have HW2 := Lib.hid hdc
          clear hrc hdc
          go_wp2_with fail
          refine (sinI fb _ HFL.out).mono ?_
          rintro e w3 ⟨rs, rfl, hrs, hds⟩
          have HS1 := Lib.hid hrs
          have HW3 := Lib.hid hds
          clear hrs hds
          go_wp2_with (first | (refine wpList_fop rfl .sub _ _ _ _ rfl rfl .f64 _ _ rfl rfl ?_; intro τ q) | (refine wpList_conv rfl _ _ _ rfl .f64 .f32 _ rfl (by decide) (by kernel_rfl) Try.underlying34 (noOver_119 (by first | (rw [HC1.out]; exact HBC.out.mono (by decide +kernel)) | (rw [HS1.out]; exact HBS.out.mono (by decide +kernel)) | (rw [cls_rep' (nn_fop _ _ _ _), HC1.out]; exact bd_zero_less HBC.out) | (rw [cls_rep' (nn_fop _ _ _ _), HS1.out]; exact bd_zero_less HBS.out))) ?_; intro ρ q))
          go_ret
          refine ⟨_, _, rfl, ?_, by repeat (first | exact HW1.out | exact Drew.trans (by repeat (first | exact HW1.out | exact Drew.trans (by repeat (first | exact HW1.out | refine Drew.drewN ?_ _)) HW2.out | refine Drew.drewN ?_ _)) HW3.out | refine Drew.drewN ?_ _ | refine Drew.drew ?_)⟩
          exact HPH.out 2 _ _ HST.out ⟨by rw [HRI.out.1]; exact (cls_rep' (nn_fconv _ _ _ (nn_fop _ _ _ _)) _).trans (by rw [HC1.out]), by rw [HRI.out.2]; exact (cls_rep' (nn_fconv _ _ _ (nn_fop _ _ _ _)) _).trans (by rw [HS1.out])⟩
        · have HRI := Lib.hid (show phRe 3 (phC c 3) (phS c 3) = fconv .f64 .f32 (sinW fb) ∧ phIm 3 (phC c 3) (phS c 3) = fconv .f64 .f32 (fop .sub .f64 (cls .f64 0) (sinW v)) from ⟨by rw [eC, eS]; rfl, by rw [eC, eS]; rfl⟩)
          clear hf hi hrg hj hsm hfin hu hvl eS eC hbc hbs
          go_wp2_with (first | (refine wpList_fop rfl .sub _ _ _ _ rfl rfl .f64 _ _ rfl rfl ?_; intro τ q; first | rw [hv τ] | skip))
          refine (sinI v _ HVL.out).mono ?_
          rintro e w2 ⟨rc, rfl, hrc, hdc⟩
          have HC1 := Lib.hid hrc
          have HW2 := Lib.hid hdc
          clear hrc hdc
          go_wp2_with fail
          refine (sinI fb _ HFL.out).mono ?_
          rintro e w3 ⟨rs, rfl, hrs, hds⟩
          have HS1 := Lib.hid hrs
          have HW3 := Lib.hid hds
          clear hrs hds
          go_wp2_with (first | (refine wpList_fop rfl .sub _ _ _ _ rfl rfl .f64 _ _ rfl rfl ?_; intro τ q) | (refine wpList_conv rfl _ _ _ rfl .f64 .f32 _ rfl (by decide) (by kernel_rfl) Try.underlying34 (noOver_119 (by first | (rw [HC1.out]; exact HBC.out.mono (by decide +kernel)) | (rw [HS1.out]; exact HBS.out.mono (by decide +kernel)) | (rw [cls_rep' (nn_fop _ _ _ _), HC1.out]; exact bd_zero_less HBC.out) | (rw [cls_rep' (nn_fop _ _ _ _), HS1.out]; exact bd_zero_less HBS.out))) ?_; intro ρ q))
          go_ret
          refine ⟨_, _, rfl, ?_, by repeat (first | exact HW1.out | exact Drew.trans (by repeat (first | exact HW1.out | exact Drew.trans (by repeat (first | exact HW1.out | refine Drew.drewN ?_ _)) HW2.out | refine Drew.drewN ?_ _)) HW3.out | refine Drew.drewN ?_ _ | refine Drew.drew ?_)⟩
          exact HPH.out 3 _ _ HST.out ⟨by rw [HRI.out.1]; exact (cls_rep' (nn_fconv _ _ _ (nn_cls _ _)) _).trans (by rw [HS1.out]), by rw [HRI.out.2]; exact (cls_rep' (nn_fconv _ _ _ (nn_fop _ _ _ _)) _).trans (by rw [HC1.out])⟩
        · have HRI := Lib.hid (show phRe j (phC c j) (phS c j) = fconv .f64 .f32 (sinW v) ∧ phIm j (phC c j) (phS c j) = fconv .f64 .f32 (sinW fb) from ⟨by rw [eC, eS]; unfold phRe; rw [if_neg n1, if_neg n2, if_neg n3], by rw [eC, eS]; unfold phIm; rw [if_neg n1, if_neg n2, if_neg n3]⟩)
          have m1 : ¬ (j : Int) = 1 := by omega
          have m2 : ¬ (j : Int) = 2 := by omega
          have m3 : ¬ (j : Int) = 3 := by omega
          clear n1 n2 n3
          clear hf hi hrg hj hsm hfin hu hvl eS eC hbc hbs
          go_wp2_with (first | (refine wpList_fop rfl .sub _ _ _ _ rfl rfl .f64 _ _ rfl rfl ?_; intro τ q; first | rw [hv τ] | skip))
          refine (sinI v _ HVL.out).mono ?_
          rintro e w2 ⟨rc, rfl, hrc, hdc⟩
          have HC1 := Lib.hid hrc
          have HW2 := Lib.hid hdc
          clear hrc hdc
          go_wp2_with fail
          refine (sinI fb _ HFL.out).mono ?_
          rintro e w3 ⟨rs, rfl, hrs, hds⟩
          have HS1 := Lib.hid hrs
          have HW3 := Lib.hid hds
          clear hrs hds
          go_wp2_with (first | (refine wpList_fop rfl .sub _ _ _ _ rfl rfl .f64 _ _ rfl rfl ?_; intro τ q) | (refine wpList_conv rfl _ _ _ rfl .f64 .f32 _ rfl (by decide) (by kernel_rfl) Try.underlying34 (noOver_119 (by first | (rw [HC1.out]; exact HBC.out.mono (by decide +kernel)) | (rw [HS1.out]; exact HBS.out.mono (by decide +kernel)) | (rw [cls_rep' (nn_fop _ _ _ _), HC1.out]; exact bd_zero_less HBC.out) | (rw [cls_rep' (nn_fop _ _ _ _), HS1.out]; exact bd_zero_less HBS.out))) ?_; intro ρ q))
          go_ret
          refine ⟨_, _, rfl, ?_, by repeat (first | exact HW1.out | exact Drew.trans (by repeat (first | exact HW1.out | exact Drew.trans (by repeat (first | exact HW1.out | refine Drew.drewN ?_ _)) HW2.out | refine Drew.drewN ?_ _)) HW3.out | refine Drew.drewN ?_ _ | refine Drew.drew ?_)⟩
          exact HPH.out j _ _ HST.out ⟨by rw [HRI.out.1]; exact (cls_rep' (nn_fconv _ _ _ (nn_cls _ _)) _).trans (by rw [HC1.out]), by rw [HRI.out.2]; exact (cls_rep' (nn_fconv _ _ _ (nn_cls _ _)) _).trans (by rw [HS1.out])⟩
      · have hq := quarter_less (by omega) ht hrg
        have HQ := Lib.hid hq
        have HI := Lib.hid (show ∀ i < j + 1, qtr (phF c i) = true from fun i h => by rcases (by omega : i < j ∨ i = j) with h1 | h1; exact hi i h1; rw [h1, ← hf]; exact ht)
        have hjb : (j : Int) < 9 := by omega
        have hj0 : (0 : Int) ≤ (j : Int) := by omega
        have hw : wrap64 ((j : Int) + 1) = ((j + 1 : Nat) : Int) := by unfold wrap64; omega
        have HJ := Lib.hid hj
        have HWR := Lib.hid hw
        unfold qtr at ht
        clear hf hi hrg hj hq hjb hj0 hw
        go_wp2_with (first | (refine wpList_fop rfl .sub _ _ _ _ rfl rfl .f64 _ _ rfl rfl ?_; intro τ q))
        go_roundg (gk - 1)
        case measure => have := HQ.out.1; omega
        case rel =>
          obtain ⟨g1, u, hu, hub⟩ := HQ.out
          exact ⟨_, j + 1, by have := HJ.out; omega, rfl, congrArg _ HWR.out, (cls_rep' (nn_fop _ _ _ _) _).trans (by rw [HF1.out]; rfl), HI.out, by rw [hu, rep_some]; exact hub, by repeat (first | exact HW1.out | refine Drew.drewN ?_ _ | refine Drew.drew ?_)⟩
end Go.Proofs.Ytmpeogpmlgnmfaa
