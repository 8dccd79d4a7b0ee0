/- The power at the numbers that FnPowers reaches, and the absolute difference of two numbers. -/
import Derived.Test.YtcjkelnhikhbhaaPow
import Derived.Test.YtcjkelnhikhbhaaBytes
namespace Go.Proofs.Ytcjkelnhikhbhaa
open Go.RowKit Flt

theorem bd_all {c : Option Nat} {C : Nat} (h : c.all (fun b => decide (rung FloatKind.f64.format b ≤ C)) = true) : Bd .f64 C c := fun b hb => by
  subst hb
  simpa using h
set_option maxRecDepth 100000 in
set_option maxHeartbeats 2000000 in
theorem expI_at (s : Nat) (hs : s < 129) (w : World) :
    Calls Try.prog 22 #[.float .f32 (powW s)] w fun e w' => e = .returned (.float .f32 (powE s)) ∧ Drew w w' := by
  obtain ⟨t1, t2⟩ := pow_fits s hs
  obtain ⟨v1, v2⟩ := pow_val s hs
  have HV := Lib.hid (And.intro v1 v2)
  clear v1 v2 hs
  generalize powW s = b at *
  generalize powE s = r at *
  go_enter Try.func22, Try.ntmps22
  go_wp2_with (first | (refine wpList_conv rfl _ _ _ rfl .f32 .f64 _ rfl (by decide) (by kernel_rfl) Try.underlying28 (noOver_widen _) ?_; intro τ q) | (refine wpList_fop rfl .quo _ _ _ _ rfl rfl .f64 _ _ rfl rfl ?_; intro τ q))
  go_loopg [4, 5] 12 (fun gk p k wr => ∃ (j pb kb : Nat), gk + j = 12 ∧ p = .float .f64 pb ∧ k = .float .f64 kb ∧ cls .f64 kb = expK j ∧ cls .f64 pb = expP (fop .quo .f64 (fconv .f32 .f64 (cls .f32 b)) (cls .f64 4643211215818981376)) j ∧ Drew w wr)
  case atStart => exact ⟨0, _, _, rfl, rfl, rfl, expK_zero, rfl, by repeat (first | exact Drew.refl _ | refine Drew.drewN ?_ _ | refine Drew.drew ?_)⟩
  case round =>
    obtain ⟨j, pb, kb, hj, rfl, rfl, hk, hp, hwr⟩ := hrel
    have HP := Lib.hid hp
    have HW := Lib.hid hwr
    have HK := Lib.hid hk
    clear hp hwr
    by_cases hlt : j < 12
    · have ht := expK_test j hlt
      rw [← hk] at ht
      have HN := Lib.hid (expK_next j hlt)
      have HJ := Lib.hid hj
      have HL := Lib.hid hlt
      clear hj hlt hk
      go_wp2_with (first | (refine wpList_fop rfl .sub _ _ _ _ rfl rfl .f64 _ _ rfl rfl ?_; intro τ q) | (refine wpList_fop rfl .mul _ _ _ _ rfl rfl .f64 _ _ rfl rfl ?_; intro τ q) | (refine wpList_fop rfl .add _ _ _ _ rfl rfl .f64 _ _ rfl rfl ?_; intro τ q) | (refine wpList_fop rfl .quo _ _ _ _ rfl rfl .f64 _ _ rfl rfl ?_; intro τ q))
      go_roundg (gk - 1)
      case measure => have := HJ.out; have := HL.out; omega
      case rel => exact ⟨j + 1, _, _, by have := HJ.out; have := HL.out; omega, rfl, rfl, (cls_rep' (nn_fop _ _ _ _) _).trans (by rw [HK.out]; exact HN.out), (cls_rep' (nn_fop _ _ _ _) _).trans (by rw [expP, ← HK.out, ← HP.out]), by repeat (first | exact HW.out | refine Drew.drewN ?_ _ | refine Drew.drew ?_)⟩
    · obtain rfl : j = 12 := by omega
      have ht := expK_stop
      rw [← hk] at ht
      clear hlt hj hk
      go_wp2
      go_loopw [4, 27] (fun p i wr => ∃ (j pb : Nat), j ≤ 8 ∧ i = .int .i64 j ∧ p = .float .f64 pb ∧ cls .f64 pb = expQ (expP (fop .quo .f64 (fconv .f32 .f64 (cls .f32 b)) (cls .f64 4643211215818981376)) 12) j ∧ Drew w wr) (fun _ i _ => 8 - (intOf i).toNat)
      case atStart => exact ⟨0, _, by omega, rfl, rfl, HP.out, HW.out⟩
      case round =>
        obtain ⟨j, qb, hj, rfl, rfl, hq, hwr⟩ := hrel
        have HQ := Lib.hid hq
        have HX := Lib.hid hwr
        clear hq hwr
        by_cases hlt : j < 8
        · have hlt' : (j : Int) < 8 := by omega
          go_wp2_with (first | (refine wpList_fop rfl .mul _ _ _ _ rfl rfl .f64 _ _ rfl rfl ?_; intro τ q))
          go_roundw
          case rel => exact ⟨j + 1, _, by omega, by go_num, rfl, (cls_rep' (nn_fop _ _ _ _) _).trans (by rw [expQ, ← HQ.out]), HX.out.drewN _⟩
          case measure => simp [intOf]; omega
        · obtain rfl : j = 8 := by omega
          clear hlt hj
          have hno : NoOver .f64 .f32 qb := noOver_bd (by rw [HQ.out]; exact bd_all HV.out.1) (by decide +kernel) (by decide +kernel)
          have hcv : ∀ τ, rep .f32 (fconv .f64 .f32 (cls .f64 qb)) τ = r := fun τ => by
            have h2 := HV.out.2
            have hq := HQ.out
            unfold expW at h2
            rw [hq, h2]; rfl
          go_wp2_with (first | (refine wpList_conv rfl _ _ _ rfl .f64 .f32 _ rfl (by decide) (by kernel_rfl) Try.underlying23 hno ?_; intro ρ q; rw [hcv ρ]))
          go_ret
          exact ⟨rfl, by repeat (first | exact HX.out | refine Drew.drewN ?_ _ | refine Drew.drew ?_)⟩
theorem b10Gap_any (x y : Nat) (w : World) :
    Calls Try.prog 27 #[.float .f64 x, .float .f64 y] w fun e w' => ∃ r, e = .returned (.float .f64 r) ∧ cls .f64 r = gapC (cls .f64 x) (cls .f64 y) ∧ Drew w w' := by
  cases h : (ford .f64 (cls .f64 x) (cls .f64 y) == some .lt)
  · have H := Lib.hid h
    go_enter Try.func27, Try.ntmps27
    go_wp2_with (first | (refine wpList_fop rfl .sub _ _ _ _ rfl rfl .f64 _ _ rfl rfl ?_; intro τ q))
    go_ret
    exact ⟨_, rfl, (cls_rep' (nn_fop _ _ _ _) _).trans (by unfold gapC; rw [if_neg (by rw [H.out]; decide)]), by repeat (first | exact Drew.refl _ | refine Drew.drewN ?_ _ | refine Drew.drew ?_)⟩
  · have H := Lib.hid h
    go_enter Try.func27, Try.ntmps27
    go_wp2_with (first | (refine wpList_fop rfl .sub _ _ _ _ rfl rfl .f64 _ _ rfl rfl ?_; intro τ q))
    go_ret
    exact ⟨_, rfl, (cls_rep' (nn_fop _ _ _ _) _).trans (by unfold gapC; rw [if_pos H.out]), by repeat (first | exact Drew.refl _ | refine Drew.drewN ?_ _ | refine Drew.drew ?_)⟩
end Go.Proofs.Ytcjkelnhikhbhaa
