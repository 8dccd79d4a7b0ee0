/- The angle of a point, as the program reckons it, and both texts' ways ahead of it. -/
import Derived.Test.YtmpeogpmlgnmfaaAngS
namespace Go.Proofs.Ytmpeogpmlgnmfaa
open Go.RowKit Flt
theorem bd_of_eq {k : FloatKind} {C : Nat} {c d : Option Nat} (h : c = d) (hd : Bd k C d) : Bd k C c := h ▸ hd
set_option maxRecDepth 100000 in
set_option maxHeartbeats 8000000 in
theorem angI_core (a b y x : Nat) (w : World) (ly : y < 18446744073709551616) (lx : x < 18446744073709551616)
    (hcy : ∀ τ, rep .f64 (fconv .f32 .f64 (cls .f32 a)) τ = y) (hcx : ∀ τ, rep .f64 (fconv .f32 .f64 (cls .f32 b)) τ = x)
    (fy : finB (cls .f32 a) = true) (fx : finB (cls .f32 b) = true)
    (hL : (ford .f64 (cls .f64 x) (cls .f64 0) == some .lt) = (ford .f32 (cls .f32 b) (cls .f32 0) == some .lt))
    (hD : (ford .f64 (cls .f64 y) (cls .f64 0) == some .lt) = (ford .f32 (cls .f32 a) (cls .f32 0) == some .lt))
    (hb : Bd .f64 (pw 82) (angW y x))
    (hz : (ford .f32 (cls .f32 b) (cls .f32 0) == some .eq) = false ∨ ((ford .f32 (cls .f32 b) (cls .f32 0) == some .eq) = true ∧ (ford .f32 (cls .f32 a) (cls .f32 0) == some .eq) = false)) :
    Calls Try.prog 40 #[.float .f32 a, .float .f32 b] w fun e w' => ∃ r, e = .returned (.float .f32 r) ∧ cls .f32 r = fconv .f64 .f32 (angW y x) ∧ Drew w w' := by
  have HG := (show angW y x = angE (ford .f64 (cls .f64 (rung FloatKind.f64.format y)) (cls .f64 (rung FloatKind.f64.format x)) == some .gt) (ford .f64 (cls .f64 x) (cls .f64 0) == some .lt) (ford .f64 (cls .f64 y) (cls .f64 0) == some .lt) (angQ (angT (angR (rung FloatKind.f64.format y) (rung FloatKind.f64.format x)) 3)) from rfl)
  have HR := (show angR (rung FloatKind.f64.format y) (rung FloatKind.f64.format x) = if (ford .f64 (cls .f64 (rung FloatKind.f64.format y)) (cls .f64 (rung FloatKind.f64.format x)) == some .gt) = true then fop .quo .f64 (cls .f64 (rung FloatKind.f64.format x)) (cls .f64 (rung FloatKind.f64.format y)) else fop .quo .f64 (cls .f64 (rung FloatKind.f64.format y)) (cls .f64 (rung FloatKind.f64.format x)) from rfl)
  generalize angR (rung FloatKind.f64.format y) (rung FloatKind.f64.format x) = R at *
  generalize angW y x = W at *
  have HB := Lib.hid hb
  rw [hL, hD] at HG
  clear hb hL hD
  cases ho : (ford .f64 (cls .f64 (rung FloatKind.f64.format y)) (cls .f64 (rung FloatKind.f64.format x)) == some .gt) <;> cases hl : (ford .f32 (cls .f32 b) (cls .f32 0) == some .lt) <;> cases hd : (ford .f32 (cls .f32 a) (cls .f32 0) == some .lt) <;> rcases hz with hz | ⟨hz, hz2⟩
  all_goals
    rw [ho, hl, hd] at HG
    rw [ho] at HR
    simp only [angE, if_true, Bool.false_eq_true, if_false] at HG HR
    replace HG := Lib.hid HG
    replace HR := Lib.hid HR
    go_enter Try.func40, Try.ntmps40
    go_wp2_with (first | (refine wpList_fop rfl .sub _ _ _ _ rfl rfl .f64 _ _ rfl rfl ?_; intro τ q) | (refine wpList_fop rfl .mul _ _ _ _ rfl rfl .f64 _ _ rfl rfl ?_; intro τ q) | (refine wpList_fop rfl .add _ _ _ _ rfl rfl .f64 _ _ rfl rfl ?_; intro τ q) | (refine wpList_fop rfl .quo _ _ _ _ rfl rfl .f64 _ _ rfl rfl ?_; intro τ q) | (refine wpList_conv rfl _ _ _ rfl .f32 .f64 _ rfl (by decide) (by kernel_rfl) Try.underlying39 (noOver_widen _) ?_; intro τ q; first | rw [hcy τ] | rw [hcx τ]) | (go_at_call 43; refine (isFinite_any _ _).mono ?_; rintro e w1 ⟨n, rfl, rfl⟩) | (go_at_call 37; refine (abs_any _ _ (by assumption)).mono ?_; rintro e w' ⟨rfl, rfl⟩))
    clear fy fx hz
    go_loopw [7, 43] (fun t i wr => ∃ (n tb : Nat), n ≤ 3 ∧ t = .float .f64 tb ∧ i = .int .i64 (n : Int) ∧ cls .f64 tb = angT R n ∧ Drew w wr) (fun _ i _ => 3 - (intOf i).toNat)
    case atStart => exact ⟨0, _, by omega, rfl, rfl, (cls_rep' (nn_fop _ _ _ _) _).trans HR.out.symm, by repeat (first | exact Drew.refl _ | refine Drew.drewN ?_ _ | refine Drew.drew ?_)⟩
    case round =>
      obtain ⟨n, tb, hn, rfl, rfl, htb, hwr⟩ := hrel
      have HT := Lib.hid htb
      have HW0 := Lib.hid hwr
      clear htb hwr
      by_cases hlt : n < 3
      · have hi : (n : Int) < 3 := by omega
        have hi0 : (0 : Int) ≤ (n : Int) := by omega
        go_wp2_with (first | (refine wpList_fop rfl .sub _ _ _ _ rfl rfl .f64 _ _ rfl rfl ?_; intro τ q) | (refine wpList_fop rfl .mul _ _ _ _ rfl rfl .f64 _ _ rfl rfl ?_; intro τ q) | (refine wpList_fop rfl .add _ _ _ _ rfl rfl .f64 _ _ rfl rfl ?_; intro τ q) | (refine wpList_fop rfl .quo _ _ _ _ rfl rfl .f64 _ _ rfl rfl ?_; intro τ q) | (refine (root_any _ _).mono ?_; rintro e w' ⟨σ, m, rfl, rfl⟩))
        go_roundw
        case rel => exact ⟨n + 1, _, by omega, rfl, by go_num, (cls_rep' (nn_fop _ _ _ _) _).trans (by rw [angT, angD, ← HT.out]), by repeat (first | exact HW0.out | refine Drew.drewN ?_ _ | refine Drew.drew ?_)⟩
        case measure => simp [intOf]; omega
      · obtain rfl : n = 3 := by omega
        clear hn hlt
        go_wp2_with (first | (refine wpList_fop rfl .sub _ _ _ _ rfl rfl .f64 _ _ rfl rfl ?_; intro τ q) | (refine wpList_fop rfl .mul _ _ _ _ rfl rfl .f64 _ _ rfl rfl ?_; intro τ q) | (refine wpList_fop rfl .add _ _ _ _ rfl rfl .f64 _ _ rfl rfl ?_; intro τ q) | (refine wpList_fop rfl .quo _ _ _ _ rfl rfl .f64 _ _ rfl rfl ?_; intro τ q))
        go_loopg [9, 10] 8 (fun gk p k wr => ∃ (j pb kb : Nat), gk + j = 8 ∧ p = .float .f64 pb ∧ k = .float .f64 kb ∧ cls .f64 kb = angK j ∧ cls .f64 pb = angP (fop .mul .f64 (cls .f64 tb) (cls .f64 tb)) j ∧ Drew w wr)
        case atStart => exact ⟨0, _, _, rfl, rfl, rfl, angK_zero, rfl, by repeat (first | exact HW0.out | refine Drew.drewN ?_ _ | refine Drew.drew ?_)⟩
        case round =>
          obtain ⟨j, pb, kb, hj, rfl, rfl, hk, hp, hwr⟩ := hrel
          have HK := Lib.hid hk
          have HP := Lib.hid hp
          have HW1 := Lib.hid hwr
          clear hp hwr
          by_cases hlt : j < 8
          · have ht := angK_test j hlt
            rw [← hk] at ht
            have HN := Lib.hid (angK_next j hlt)
            clear hk
            have HJ := Lib.hid hj
            have HL := Lib.hid hlt
            clear hj hlt
            go_wp2_with (first | (refine wpList_fop rfl .sub _ _ _ _ rfl rfl .f64 _ _ rfl rfl ?_; intro τ q) | (refine wpList_fop rfl .mul _ _ _ _ rfl rfl .f64 _ _ rfl rfl ?_; intro τ q) | (refine wpList_fop rfl .add _ _ _ _ rfl rfl .f64 _ _ rfl rfl ?_; intro τ q) | (refine wpList_fop rfl .quo _ _ _ _ rfl rfl .f64 _ _ rfl rfl ?_; intro τ q))
            go_roundg (gk - 1)
            case measure => have := HJ.out; have := HL.out; omega
            case rel => exact ⟨j + 1, _, _, by have := HJ.out; have := HL.out; omega, rfl, rfl, (cls_rep' (nn_fop _ _ _ _) _).trans (by rw [HK.out]; exact HN.out), (cls_rep' (nn_fop _ _ _ _) _).trans (by rw [angP, ← HK.out, ← HP.out]), by repeat (first | exact HW1.out | refine Drew.drewN ?_ _ | refine Drew.drew ?_)⟩
          · obtain rfl : j = 8 := by omega
            have ht := angK_stop
            rw [← hk] at ht
            clear hk
            clear hlt hj
            go_wp2_with (first | (refine wpList_fop rfl .sub _ _ _ _ rfl rfl .f64 _ _ rfl rfl ?_; intro τ q) | (refine wpList_fop rfl .mul _ _ _ _ rfl rfl .f64 _ _ rfl rfl ?_; intro τ q) | (refine wpList_fop rfl .add _ _ _ _ rfl rfl .f64 _ _ rfl rfl ?_; intro τ q) | (refine wpList_fop rfl .quo _ _ _ _ rfl rfl .f64 _ _ rfl rfl ?_; intro τ q) | (refine wpList_conv rfl _ _ _ rfl .f64 .f32 _ rfl (by decide) (by kernel_rfl) Try.underlying34 (noOver_82 (bd_of_eq (by first | exact (cls_rep' (nn_fop _ _ _ _) _).trans (by rw [HG.out]; unfold angQ; rw [← HT.out, ← HP.out]) | exact (cls_neg (rep_lt (wfc_fop _ _ _ _) _)).trans (by rw [cls_rep' (nn_fop _ _ _ _), HG.out]; unfold angQ; rw [← HT.out, ← HP.out])) HB.out)) ?_; intro ρ q))
            go_ret
            first
              | exact ⟨_, rfl, (cls_rep' (nn_fconv _ _ _ (nn_fop _ _ _ _)) _).trans (by rw [HG.out]; unfold angQ; rw [← HT.out, ← HP.out]), by repeat (first | exact HW1.out | refine Drew.drewN ?_ _ | refine Drew.drew ?_)⟩
              | exact ⟨_, rfl, (cls_rep' (nn_fconv _ _ _ (nn_cls _ _)) _).trans (congrArg _ ((cls_neg (rep_lt (wfc_fop _ _ _ _) _)).trans (by rw [cls_rep' (nn_fop _ _ _ _), HG.out]; unfold angQ; rw [← HT.out, ← HP.out]))), by repeat (first | exact HW1.out | refine Drew.drewN ?_ _ | refine Drew.drew ?_)⟩
end Go.Proofs.Ytmpeogpmlgnmfaa
