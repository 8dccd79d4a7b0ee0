/- The angle of a point, as the reference reckons it. -/
import Derived.Test.YtcjkelnhikhbhaaAng
namespace Go.Proofs.Ytcjkelnhikhbhaa
open Go.RowKit Flt
theorem ang_two (j : Nat) (h : j < 8) : wrap64 (15 - 2 * (j : Int) - 2) = 15 - 2 * (j : Int) - 2 := by unfold wrap64; omega
set_option maxRecDepth 100000 in
set_option maxHeartbeats 8000000 in
theorem angWide_any (y x : Nat) (w : World) (ly : y < 18446744073709551616) (lx : x < 18446744073709551616)
    (fy : (ford .f64 (fop .sub .f64 (cls .f64 y) (cls .f64 y)) (cls .f64 0) != some .eq) = false)
    (fx : (ford .f64 (fop .sub .f64 (cls .f64 x) (cls .f64 x)) (cls .f64 0) != some .eq) = false)
    (hz : (ford .f64 (cls .f64 x) (cls .f64 0) == some .eq) = false ∨ ((ford .f64 (cls .f64 x) (cls .f64 0) == some .eq) = true ∧ (ford .f64 (cls .f64 y) (cls .f64 0) == some .eq) = false)) :
    Calls Try.prog 75 #[.float .f64 y, .float .f64 x] w fun e w' => ∃ r, e = .returned (.float .f64 r) ∧ cls .f64 r = angW y x ∧ r < 18446744073709551616 ∧ Drew w w' := by
  have HG := (show angW y x = angE (ford .f64 (cls .f64 (rung FloatKind.f64.format y)) (cls .f64 (rung FloatKind.f64.format x)) == some .gt) (ford .f64 (cls .f64 x) (cls .f64 0) == some .lt) (ford .f64 (cls .f64 y) (cls .f64 0) == some .lt) (angQ (angT (angR (rung FloatKind.f64.format y) (rung FloatKind.f64.format x)) 3)) from rfl)
  have HR := (show angR (rung FloatKind.f64.format y) (rung FloatKind.f64.format x) = if (ford .f64 (cls .f64 (rung FloatKind.f64.format y)) (cls .f64 (rung FloatKind.f64.format x)) == some .gt) = true then fop .quo .f64 (cls .f64 (rung FloatKind.f64.format x)) (cls .f64 (rung FloatKind.f64.format y)) else fop .quo .f64 (cls .f64 (rung FloatKind.f64.format y)) (cls .f64 (rung FloatKind.f64.format x)) from rfl)
  generalize angR (rung FloatKind.f64.format y) (rung FloatKind.f64.format x) = R at *
  cases ho : (ford .f64 (cls .f64 (rung FloatKind.f64.format y)) (cls .f64 (rung FloatKind.f64.format x)) == some .gt) <;> cases hl : (ford .f64 (cls .f64 x) (cls .f64 0) == some .lt) <;> cases hd : (ford .f64 (cls .f64 y) (cls .f64 0) == some .lt) <;> rcases hz with hz | ⟨hz, hz2⟩
  all_goals
    rw [ho, hl, hd] at HG
    rw [ho] at HR
    simp only [angE, if_true, Bool.false_eq_true, if_false] at HG HR
    replace HG := Lib.hid HG
    replace HR := Lib.hid HR
    go_enter Try.func75, Try.ntmps75
    go_wp2_with (first | (refine wpList_fop rfl .sub _ _ _ _ rfl rfl .f64 _ _ rfl rfl ?_; intro τ q) | (refine wpList_fop rfl .mul _ _ _ _ rfl rfl .f64 _ _ rfl rfl ?_; intro τ q) | (refine wpList_fop rfl .add _ _ _ _ rfl rfl .f64 _ _ rfl rfl ?_; intro τ q) | (refine wpList_fop rfl .quo _ _ _ _ rfl rfl .f64 _ _ rfl rfl ?_; intro τ q) | (refine wpList_fop_g rfl .sub _ _ _ _ rfl rfl .f64 _ _ rfl rfl ?_; intro τ q) | (go_at_call 53; refine (abs_any _ _ (by assumption)).mono ?_; rintro e w' ⟨rfl, rfl⟩))
    clear fy fx hz
    go_loopw [8, 9] (fun t i wr => ∃ (n tb : Nat), n ≤ 3 ∧ t = .float .f64 tb ∧ i = .int .i64 (n : Int) ∧ cls .f64 tb = angT R n ∧ Drew w wr) (fun _ i _ => 3 - (intOf i).toNat)
    case atStart => exact ⟨0, _, by omega, rfl, rfl, (cls_rep' (nn_fop _ _ _ _) _).trans HR.out.symm, by repeat (first | exact Drew.refl _ | refine Drew.drewN ?_ _ | refine Drew.drew ?_)⟩
    case round =>
      obtain ⟨n, tb, hn, rfl, rfl, htb, hwr⟩ := hrel
      have HT := Lib.hid htb
      have HW0 := Lib.hid hwr
      clear htb hwr
      by_cases hlt : n < 3
      · have hi : (n : Int) < 3 := by omega
        have hi0 : (0 : Int) ≤ (n : Int) := by omega
        go_wp2_with (first | (refine wpList_fop rfl .sub _ _ _ _ rfl rfl .f64 _ _ rfl rfl ?_; intro τ q) | (refine wpList_fop rfl .mul _ _ _ _ rfl rfl .f64 _ _ rfl rfl ?_; intro τ q) | (refine wpList_fop rfl .add _ _ _ _ rfl rfl .f64 _ _ rfl rfl ?_; intro τ q) | (refine wpList_fop rfl .quo _ _ _ _ rfl rfl .f64 _ _ rfl rfl ?_; intro τ q) | (refine (root_any _ _).mono ?_; rintro e w' ⟨σ, m, rfl, rfl⟩))
        go_roundw
        case rel => exact ⟨n + 1, _, by omega, rfl, by go_num, (cls_rep' (nn_fop _ _ _ _) _).trans (by rw [angT, angD, ← HT.out]), by repeat (first | exact HW0.out | refine Drew.drewN ?_ _ | refine Drew.drew ?_)⟩
        case measure => simp [intOf]; omega
      · obtain rfl : n = 3 := by omega
        clear hn hlt
        go_wp2_with (first | (refine wpList_fop rfl .sub _ _ _ _ rfl rfl .f64 _ _ rfl rfl ?_; intro τ q) | (refine wpList_fop rfl .mul _ _ _ _ rfl rfl .f64 _ _ rfl rfl ?_; intro τ q) | (refine wpList_fop rfl .add _ _ _ _ rfl rfl .f64 _ _ rfl rfl ?_; intro τ q) | (refine wpList_fop rfl .quo _ _ _ _ rfl rfl .f64 _ _ rfl rfl ?_; intro τ q))
        go_loopg [11, 12] 8 (fun gk p k wr => ∃ (j pb : Nat), gk + j = 8 ∧ p = .float .f64 pb ∧ k = .int .i64 (15 - 2 * (j : Int)) ∧ cls .f64 pb = angP (fop .mul .f64 (cls .f64 tb) (cls .f64 tb)) j ∧ Drew w wr)
        case atStart => exact ⟨0, _, rfl, rfl, rfl, rfl, by repeat (first | exact HW0.out | refine Drew.drewN ?_ _ | refine Drew.drew ?_)⟩
        case round =>
          obtain ⟨j, pb, hj, rfl, rfl, hp, hwr⟩ := hrel
          have HP := Lib.hid hp
          have HW1 := Lib.hid hwr
          clear hp hwr
          by_cases hlt : j < 8
          · have ht : (1 : Int) ≤ 15 - 2 * (j : Int) := by omega
            have hw := ang_two j hlt
            have HJ := Lib.hid hj
            have HL := Lib.hid hlt
            clear hj hlt
            go_wp2_with (first | (refine wpList_fop rfl .sub _ _ _ _ rfl rfl .f64 _ _ rfl rfl ?_; intro τ q) | (refine wpList_fop rfl .mul _ _ _ _ rfl rfl .f64 _ _ rfl rfl ?_; intro τ q) | (refine wpList_fop rfl .add _ _ _ _ rfl rfl .f64 _ _ rfl rfl ?_; intro τ q) | (refine wpList_fop rfl .quo _ _ _ _ rfl rfl .f64 _ _ rfl rfl ?_; intro τ q))
            go_roundg (gk - 1)
            case measure => have := HJ.out; have := HL.out; omega
            case rel => exact ⟨j + 1, _, by have := HJ.out; have := HL.out; omega, rfl, by rw [show (15 - 2 * ((j + 1 : Nat) : Int)) = 15 - 2 * (j : Int) - 2 by omega], (cls_rep' (nn_fop _ _ _ _) _).trans (by rw [angP, ← HP.out]; rfl), by repeat (first | exact HW1.out | refine Drew.drewN ?_ _ | refine Drew.drew ?_)⟩
          · obtain rfl : j = 8 := by omega
            clear hlt hj
            go_wp2_with (first | (refine wpList_fop rfl .sub _ _ _ _ rfl rfl .f64 _ _ rfl rfl ?_; intro τ q) | (refine wpList_fop rfl .mul _ _ _ _ rfl rfl .f64 _ _ rfl rfl ?_; intro τ q) | (refine wpList_fop rfl .add _ _ _ _ rfl rfl .f64 _ _ rfl rfl ?_; intro τ q) | (refine wpList_fop rfl .quo _ _ _ _ rfl rfl .f64 _ _ rfl rfl ?_; intro τ q))
            go_ret
            first
              | exact ⟨_, rfl, (cls_rep' (nn_fop _ _ _ _) _).trans (by rw [HG.out]; unfold angQ; rw [← HT.out, ← HP.out]), rep_lt (wfc_fop _ _ _ _) _, by repeat (first | exact HW1.out | refine Drew.drewN ?_ _ | refine Drew.drew ?_)⟩
              | exact ⟨_, rfl, (cls_neg (rep_lt (wfc_fop _ _ _ _) _)).trans (by rw [cls_rep' (nn_fop _ _ _ _), HG.out]; unfold angQ; rw [← HT.out, ← HP.out]), neg_lt (rep_lt (wfc_fop _ _ _ _) _), by repeat (first | exact HW1.out | refine Drew.drewN ?_ _ | refine Drew.drew ?_)⟩
end Go.Proofs.Ytcjkelnhikhbhaa
