/- Contracts of the sines: the part of turns behind whole ones, and the sine of it, as both texts reckon them. -/
import Derived.Test.YtmpeogpmlgnmfaaNum
import Derived.Deep.LoopGhost
namespace Go.Proofs.Ytmpeogpmlgnmfaa
open Go.RowKit Flt

/-- a number of turns less whole ones -/
def fr0 (b : Nat) (n : Int) : Option Nat := fop .sub .f64 (cls .f64 b) (cls .f64 (floatOfInt .f64 n))
def ltz (c : Option Nat) : Bool := ford .f64 c (cls .f64 0) == some .lt
def fr1 (c : Option Nat) : Option Nat := if ltz c = true then fop .add .f64 c (cls .f64 4607182418800017408) else c
def geh (c : Option Nat) : Bool := ford .f64 c (cls .f64 4602678819172646912) == some .gt || ford .f64 c (cls .f64 4602678819172646912) == some .eq
def fr2 (c : Option Nat) : Option Nat := if geh c = true then fop .sub .f64 c (cls .f64 4602678819172646912) else c
def gtq (c : Option Nat) : Bool := ford .f64 c (cls .f64 4598175219545276416) == some .gt
def fr3 (c : Option Nat) : Option Nat := if gtq c = true then fop .sub .f64 (cls .f64 4602678819172646912) c else c
/-- the sum after some rounds, k from 8 down -/
def sinP (u : Option Nat) : Nat → Option Nat
  | 0 => cls .f64 4607182418800017408
  | j + 1 => fop .sub .f64 (cls .f64 4607182418800017408) (fop .quo .f64 (fop .mul .f64 u (sinP u j)) (cls .f64 (floatOfInt .f64 (2 * ((8 - j : Nat) : Int) * (2 * ((8 - j : Nat) : Int) + 1)))))
def sinV (f : Option Nat) : Option Nat :=
  fop .mul .f64 (fop .mul .f64 f (cls .f64 4618760256179416344)) (sinP (fop .mul .f64 (fop .mul .f64 f (cls .f64 4618760256179416344)) (fop .mul .f64 f (cls .f64 4618760256179416344))) 8)
/-- the sine of a fraction of turns -/
def sinF (f : Option Nat) : Option Nat := if geh f = true then fneg .f64 (sinV (fr3 (fr2 f))) else sinV (fr3 (fr2 f))

theorem fraction_any (b : Nat) (n : Int) (w : World) (h : floatToIntVal .f64 b .i64 = some n) :
    Calls Try.prog 38 #[.float .f64 b] w fun e w' => ∃ r, e = .returned (.float .f64 r) ∧ cls .f64 r = fr1 (fr0 b n) ∧ r < 18446744073709551616 ∧ Drew w w' := by
  have hcv := fun w => run_convert_float_int (P := Try.prog) w 39 2 .f64 .i64 b n (by kernel_rfl) Try.underlying2 h
  have HN := Lib.hid h
  clear h
  cases hz : ltz (fr0 b n)
  · have H1 := Lib.hid (show fr1 (fr0 b n) = fr0 b n by unfold fr1; rw [hz]; rfl)
    unfold ltz fr0 at hz
    go_enter Try.func38, Try.ntmps38
    go_wp2_with (first | (refine wpList_fop rfl .sub _ _ _ _ rfl rfl .f64 _ _ rfl rfl ?_; intro τ q))
    go_ret
    exact ⟨_, rfl, (cls_rep' (nn_fop _ _ _ _) _).trans H1.out.symm, rep_lt (wfc_fop _ _ _ _) _, (Drew.refl _).drewN _⟩
  · have H1 := Lib.hid (show fr1 (fr0 b n) = fop .add .f64 (fr0 b n) (cls .f64 4607182418800017408) by unfold fr1; rw [hz]; rfl)
    unfold ltz fr0 at hz
    go_enter Try.func38, Try.ntmps38
    go_wp2_with (first | (refine wpList_fop rfl .sub _ _ _ _ rfl rfl .f64 _ _ rfl rfl ?_; intro τ q) | (refine wpList_fop rfl .add _ _ _ _ rfl rfl .f64 _ _ rfl rfl ?_; intro τ q))
    go_ret
    exact ⟨_, rfl, (by rw [cls_rep' (nn_fop _ _ _ _), H1.out]; first | rfl | rw [cls_rep' (nn_fop _ _ _ _)]; rfl), rep_lt (wfc_fop _ _ _ _) _, (Drew.refl _).drewN _⟩
/-- the counter in the sine, as a number -/
def sinK (j : Nat) : Option Nat := cls .f64 (floatOfInt .f64 ((8 - j : Nat) : Int))
def onec : Option Nat := cls .f64 4607182418800017408
def sinT (c : Option Nat) : Bool := ford .f64 c (cls .f64 4607182418800017408) == some .gt || ford .f64 c (cls .f64 4607182418800017408) == some .eq
theorem sinK_test : ∀ j : Nat, j < 8 → sinT (sinK j) = true := by decide +kernel
theorem sinK_stop : sinT (sinK 8) = false := by decide +kernel
theorem sinK_next : ∀ j : Nat, j < 8 → fop .sub .f64 (sinK j) (cls .f64 4607182418800017408) = sinK (j + 1) := by decide +kernel
theorem sinK_den : ∀ j : Nat, j < 8 → fop .mul .f64 (fop .mul .f64 (cls .f64 4611686018427387904) (sinK j)) (fop .add .f64 (fop .mul .f64 (cls .f64 4611686018427387904) (sinK j)) (cls .f64 4607182418800017408)) = cls .f64 (floatOfInt .f64 (2 * ((8 - j : Nat) : Int) * (2 * ((8 - j : Nat) : Int) + 1))) := by decide +kernel
theorem sinK_zero : cls .f64 4620693217682128896 = sinK 0 := by decide +kernel
theorem wrap_mm : ∀ m : Nat, m ≤ 8 → wrap64 (2 * (m : Int) * (2 * (m : Int) + 1)) = 2 * (m : Int) * (2 * (m : Int) + 1) := by decide +kernel
theorem sinP_succ' (u : Option Nat) (j m : Nat) (h : m + j = 8) : sinP u (j + 1) = fop .sub .f64 (cls .f64 4607182418800017408) (fop .quo .f64 (fop .mul .f64 u (sinP u j)) (cls .f64 (floatOfInt .f64 (2 * (m : Int) * (2 * (m : Int) + 1))))) := by
  obtain rfl : m = 8 - j := by omega
  rfl
theorem sinP_succ (u : Option Nat) (j : Nat) : sinP u (j + 1) = fop .sub .f64 (cls .f64 4607182418800017408) (fop .quo .f64 (fop .mul .f64 u (sinP u j)) (cls .f64 (floatOfInt .f64 (2 * ((8 - j : Nat) : Int) * (2 * ((8 - j : Nat) : Int) + 1))))) := rfl

set_option maxRecDepth 100000 in
set_option maxHeartbeats 2000000 in
theorem sine_any (b : Nat) (n : Int) (w : World) (h : floatToIntVal .f64 b .i64 = some n) :
    Calls Try.prog 39 #[.float .f64 b] w fun e w' => ∃ r, e = .returned (.float .f64 r) ∧ cls .f64 r = sinF (fr1 (fr0 b n)) ∧ r < 18446744073709551616 ∧ Drew w w' := by
  go_enter Try.func39, Try.ntmps39
  go_wp2_with fail
  refine (fraction_any b n w h).mono ?_
  rintro e w1 ⟨r, rfl, hr, hlt, hd⟩
  have Hr := Lib.hid hr
  have Hd := Lib.hid hd
  clear hr hd h
  cases h1 : geh (cls .f64 r)
  · cases h2 : gtq (cls .f64 r)
    · have HF := Lib.hid (show sinF (cls .f64 r) = fop .mul .f64 (fop .mul .f64 (cls .f64 r) (cls .f64 4618760256179416344)) (sinP (fop .mul .f64 (fop .mul .f64 (cls .f64 r) (cls .f64 4618760256179416344)) (fop .mul .f64 (cls .f64 r) (cls .f64 4618760256179416344))) 8) by unfold sinF fr2; rw [h1]; simp only [Bool.false_eq_true, if_false]; unfold fr3; rw [h2]; rfl)
      unfold geh at h1
      unfold gtq at h2
      go_wp2_with (first | (refine wpList_fop rfl .sub _ _ _ _ rfl rfl .f64 _ _ rfl rfl ?_; intro τ q) | (refine wpList_fop rfl .mul _ _ _ _ rfl rfl .f64 _ _ rfl rfl ?_; intro τ q) | (refine wpList_fop rfl .add _ _ _ _ rfl rfl .f64 _ _ rfl rfl ?_; intro τ q) | (refine wpList_fop rfl .quo _ _ _ _ rfl rfl .f64 _ _ rfl rfl ?_; intro τ q))
      go_loopg [7, 8] 8 (fun gk p k wr => ∃ (j pb kb : Nat), gk + j = 8 ∧ p = .float .f64 pb ∧ k = .float .f64 kb ∧ cls .f64 kb = sinK j ∧ cls .f64 pb = sinP (fop .mul .f64 (fop .mul .f64 (cls .f64 r) (cls .f64 4618760256179416344)) (fop .mul .f64 (cls .f64 r) (cls .f64 4618760256179416344))) j ∧ Drew w wr)
      case atStart => exact ⟨0, _, _, rfl, rfl, rfl, sinK_zero, rfl, by repeat (first | exact Hd.out | refine Drew.drewN ?_ _ | refine Drew.drew ?_)⟩
      case round =>
        obtain ⟨j, pb, kb, hj, rfl, rfl, hk, hp, hwr⟩ := hrel
        have HP := Lib.hid hp
        have HW := Lib.hid hwr
        clear hp hwr
        by_cases hlt : j < 8
        · have ht := sinK_test j hlt
          have HN := Lib.hid (sinK_next j hlt)
          have HD := Lib.hid (sinK_den j hlt)
          unfold sinT at ht
          have HJ := Lib.hid hj
          have HL := Lib.hid hlt
          clear hj hlt
          go_wp2_with (first | (refine wpList_fop rfl .sub _ _ _ _ rfl rfl .f64 _ _ rfl rfl ?_; intro τ q) | (refine wpList_fop rfl .mul _ _ _ _ rfl rfl .f64 _ _ rfl rfl ?_; intro τ q) | (refine wpList_fop rfl .add _ _ _ _ rfl rfl .f64 _ _ rfl rfl ?_; intro τ q) | (refine wpList_fop rfl .quo _ _ _ _ rfl rfl .f64 _ _ rfl rfl ?_; intro τ q))
          go_roundg (gk - 1)
          case measure => have := HJ.out; have := HL.out; omega
          case rel => exact ⟨j + 1, _, _, by have := HJ.out; have := HL.out; omega, rfl, rfl, (cls_rep' (nn_fop _ _ _ _) _).trans HN.out, (cls_rep' (nn_fop _ _ _ _) _).trans (by rw [sinP_succ, ← HD.out, HP.out]), by repeat (first | exact HW.out | refine Drew.drewN ?_ _ | refine Drew.drew ?_)⟩
        · obtain rfl : j = 8 := by omega
          have ht := sinK_stop
          unfold sinT at ht
          clear hlt hj
          go_wp2_with (first | (refine wpList_fop rfl .sub _ _ _ _ rfl rfl .f64 _ _ rfl rfl ?_; intro τ q) | (refine wpList_fop rfl .mul _ _ _ _ rfl rfl .f64 _ _ rfl rfl ?_; intro τ q) | (refine wpList_fop rfl .add _ _ _ _ rfl rfl .f64 _ _ rfl rfl ?_; intro τ q) | (refine wpList_fop rfl .quo _ _ _ _ rfl rfl .f64 _ _ rfl rfl ?_; intro τ q))
          go_ret
          exact ⟨_, rfl, (cls_rep' (nn_fop _ _ _ _) _).trans (by rw [HP.out, ← HF.out, Hr.out]), rep_lt (wfc_fop _ _ _ _) _, by repeat (first | exact HW.out | refine Drew.drewN ?_ _ | refine Drew.drew ?_)⟩
    · have HF := Lib.hid (show sinF (cls .f64 r) = fop .mul .f64 (fop .mul .f64 (fop .sub .f64 (cls .f64 4602678819172646912) (cls .f64 r)) (cls .f64 4618760256179416344)) (sinP (fop .mul .f64 (fop .mul .f64 (fop .sub .f64 (cls .f64 4602678819172646912) (cls .f64 r)) (cls .f64 4618760256179416344)) (fop .mul .f64 (fop .sub .f64 (cls .f64 4602678819172646912) (cls .f64 r)) (cls .f64 4618760256179416344))) 8) by unfold sinF fr2; rw [h1]; simp only [Bool.false_eq_true, if_false]; unfold fr3; rw [h2]; rfl)
      unfold geh at h1
      unfold gtq at h2
      go_wp2_with (first | (refine wpList_fop rfl .sub _ _ _ _ rfl rfl .f64 _ _ rfl rfl ?_; intro τ q) | (refine wpList_fop rfl .mul _ _ _ _ rfl rfl .f64 _ _ rfl rfl ?_; intro τ q) | (refine wpList_fop rfl .add _ _ _ _ rfl rfl .f64 _ _ rfl rfl ?_; intro τ q) | (refine wpList_fop rfl .quo _ _ _ _ rfl rfl .f64 _ _ rfl rfl ?_; intro τ q))
      go_loopg [7, 8] 8 (fun gk p k wr => ∃ (j pb kb : Nat), gk + j = 8 ∧ p = .float .f64 pb ∧ k = .float .f64 kb ∧ cls .f64 kb = sinK j ∧ cls .f64 pb = sinP (fop .mul .f64 (fop .mul .f64 (fop .sub .f64 (cls .f64 4602678819172646912) (cls .f64 r)) (cls .f64 4618760256179416344)) (fop .mul .f64 (fop .sub .f64 (cls .f64 4602678819172646912) (cls .f64 r)) (cls .f64 4618760256179416344))) j ∧ Drew w wr)
      case atStart => exact ⟨0, _, _, rfl, rfl, rfl, sinK_zero, rfl, by repeat (first | exact Hd.out | refine Drew.drewN ?_ _ | refine Drew.drew ?_)⟩
      case round =>
        obtain ⟨j, pb, kb, hj, rfl, rfl, hk, hp, hwr⟩ := hrel
        have HP := Lib.hid hp
        have HW := Lib.hid hwr
        clear hp hwr
        by_cases hlt : j < 8
        · have ht := sinK_test j hlt
          have HN := Lib.hid (sinK_next j hlt)
          have HD := Lib.hid (sinK_den j hlt)
          unfold sinT at ht
          have HJ := Lib.hid hj
          have HL := Lib.hid hlt
          clear hj hlt
          go_wp2_with (first | (refine wpList_fop rfl .sub _ _ _ _ rfl rfl .f64 _ _ rfl rfl ?_; intro τ q) | (refine wpList_fop rfl .mul _ _ _ _ rfl rfl .f64 _ _ rfl rfl ?_; intro τ q) | (refine wpList_fop rfl .add _ _ _ _ rfl rfl .f64 _ _ rfl rfl ?_; intro τ q) | (refine wpList_fop rfl .quo _ _ _ _ rfl rfl .f64 _ _ rfl rfl ?_; intro τ q))
          go_roundg (gk - 1)
          case measure => have := HJ.out; have := HL.out; omega
          case rel => exact ⟨j + 1, _, _, by have := HJ.out; have := HL.out; omega, rfl, rfl, (cls_rep' (nn_fop _ _ _ _) _).trans HN.out, (cls_rep' (nn_fop _ _ _ _) _).trans (by rw [sinP_succ, ← HD.out, HP.out]), by repeat (first | exact HW.out | refine Drew.drewN ?_ _ | refine Drew.drew ?_)⟩
        · obtain rfl : j = 8 := by omega
          have ht := sinK_stop
          unfold sinT at ht
          clear hlt hj
          go_wp2_with (first | (refine wpList_fop rfl .sub _ _ _ _ rfl rfl .f64 _ _ rfl rfl ?_; intro τ q) | (refine wpList_fop rfl .mul _ _ _ _ rfl rfl .f64 _ _ rfl rfl ?_; intro τ q) | (refine wpList_fop rfl .add _ _ _ _ rfl rfl .f64 _ _ rfl rfl ?_; intro τ q) | (refine wpList_fop rfl .quo _ _ _ _ rfl rfl .f64 _ _ rfl rfl ?_; intro τ q))
          go_ret
          exact ⟨_, rfl, (cls_rep' (nn_fop _ _ _ _) _).trans (by rw [HP.out, ← HF.out, Hr.out]), rep_lt (wfc_fop _ _ _ _) _, by repeat (first | exact HW.out | refine Drew.drewN ?_ _ | refine Drew.drew ?_)⟩
  · cases h2 : gtq (fop .sub .f64 (cls .f64 r) (cls .f64 4602678819172646912))
    · have HF := Lib.hid (show sinF (cls .f64 r) = fneg .f64 (fop .mul .f64 (fop .mul .f64 (fop .sub .f64 (cls .f64 r) (cls .f64 4602678819172646912)) (cls .f64 4618760256179416344)) (sinP (fop .mul .f64 (fop .mul .f64 (fop .sub .f64 (cls .f64 r) (cls .f64 4602678819172646912)) (cls .f64 4618760256179416344)) (fop .mul .f64 (fop .sub .f64 (cls .f64 r) (cls .f64 4602678819172646912)) (cls .f64 4618760256179416344))) 8)) by unfold sinF fr2; rw [h1]; simp only [if_true]; unfold fr3; rw [h2]; rfl)
      unfold geh at h1
      unfold gtq at h2
      go_wp2_with (first | (refine wpList_fop rfl .sub _ _ _ _ rfl rfl .f64 _ _ rfl rfl ?_; intro τ q) | (refine wpList_fop rfl .mul _ _ _ _ rfl rfl .f64 _ _ rfl rfl ?_; intro τ q) | (refine wpList_fop rfl .add _ _ _ _ rfl rfl .f64 _ _ rfl rfl ?_; intro τ q) | (refine wpList_fop rfl .quo _ _ _ _ rfl rfl .f64 _ _ rfl rfl ?_; intro τ q))
      go_loopg [7, 8] 8 (fun gk p k wr => ∃ (j pb kb : Nat), gk + j = 8 ∧ p = .float .f64 pb ∧ k = .float .f64 kb ∧ cls .f64 kb = sinK j ∧ cls .f64 pb = sinP (fop .mul .f64 (fop .mul .f64 (fop .sub .f64 (cls .f64 r) (cls .f64 4602678819172646912)) (cls .f64 4618760256179416344)) (fop .mul .f64 (fop .sub .f64 (cls .f64 r) (cls .f64 4602678819172646912)) (cls .f64 4618760256179416344))) j ∧ Drew w wr)
      case atStart => exact ⟨0, _, _, rfl, rfl, rfl, sinK_zero, rfl, by repeat (first | exact Hd.out | refine Drew.drewN ?_ _ | refine Drew.drew ?_)⟩
      case round =>
        obtain ⟨j, pb, kb, hj, rfl, rfl, hk, hp, hwr⟩ := hrel
        have HP := Lib.hid hp
        have HW := Lib.hid hwr
        clear hp hwr
        by_cases hlt : j < 8
        · have ht := sinK_test j hlt
          have HN := Lib.hid (sinK_next j hlt)
          have HD := Lib.hid (sinK_den j hlt)
          unfold sinT at ht
          have HJ := Lib.hid hj
          have HL := Lib.hid hlt
          clear hj hlt
          go_wp2_with (first | (refine wpList_fop rfl .sub _ _ _ _ rfl rfl .f64 _ _ rfl rfl ?_; intro τ q) | (refine wpList_fop rfl .mul _ _ _ _ rfl rfl .f64 _ _ rfl rfl ?_; intro τ q) | (refine wpList_fop rfl .add _ _ _ _ rfl rfl .f64 _ _ rfl rfl ?_; intro τ q) | (refine wpList_fop rfl .quo _ _ _ _ rfl rfl .f64 _ _ rfl rfl ?_; intro τ q))
          go_roundg (gk - 1)
          case measure => have := HJ.out; have := HL.out; omega
          case rel => exact ⟨j + 1, _, _, by have := HJ.out; have := HL.out; omega, rfl, rfl, (cls_rep' (nn_fop _ _ _ _) _).trans HN.out, (cls_rep' (nn_fop _ _ _ _) _).trans (by rw [sinP_succ, ← HD.out, HP.out]), by repeat (first | exact HW.out | refine Drew.drewN ?_ _ | refine Drew.drew ?_)⟩
        · obtain rfl : j = 8 := by omega
          have ht := sinK_stop
          unfold sinT at ht
          clear hlt hj
          go_wp2_with (first | (refine wpList_fop rfl .sub _ _ _ _ rfl rfl .f64 _ _ rfl rfl ?_; intro τ q) | (refine wpList_fop rfl .mul _ _ _ _ rfl rfl .f64 _ _ rfl rfl ?_; intro τ q) | (refine wpList_fop rfl .add _ _ _ _ rfl rfl .f64 _ _ rfl rfl ?_; intro τ q) | (refine wpList_fop rfl .quo _ _ _ _ rfl rfl .f64 _ _ rfl rfl ?_; intro τ q))
          go_ret
          exact ⟨_, rfl, (cls_neg (rep_lt (wfc_fop _ _ _ _) _)).trans (by rw [cls_rep' (nn_fop _ _ _ _), HP.out, ← HF.out, Hr.out]), neg_lt (rep_lt (wfc_fop _ _ _ _) _), by repeat (first | exact HW.out | refine Drew.drewN ?_ _ | refine Drew.drew ?_)⟩
    · have HF := Lib.hid (show sinF (cls .f64 r) = fneg .f64 (fop .mul .f64 (fop .mul .f64 (fop .sub .f64 (cls .f64 4602678819172646912) (fop .sub .f64 (cls .f64 r) (cls .f64 4602678819172646912))) (cls .f64 4618760256179416344)) (sinP (fop .mul .f64 (fop .mul .f64 (fop .sub .f64 (cls .f64 4602678819172646912) (fop .sub .f64 (cls .f64 r) (cls .f64 4602678819172646912))) (cls .f64 4618760256179416344)) (fop .mul .f64 (fop .sub .f64 (cls .f64 4602678819172646912) (fop .sub .f64 (cls .f64 r) (cls .f64 4602678819172646912))) (cls .f64 4618760256179416344))) 8)) by unfold sinF fr2; rw [h1]; simp only [if_true]; unfold fr3; rw [h2]; rfl)
      unfold geh at h1
      unfold gtq at h2
      go_wp2_with (first | (refine wpList_fop rfl .sub _ _ _ _ rfl rfl .f64 _ _ rfl rfl ?_; intro τ q) | (refine wpList_fop rfl .mul _ _ _ _ rfl rfl .f64 _ _ rfl rfl ?_; intro τ q) | (refine wpList_fop rfl .add _ _ _ _ rfl rfl .f64 _ _ rfl rfl ?_; intro τ q) | (refine wpList_fop rfl .quo _ _ _ _ rfl rfl .f64 _ _ rfl rfl ?_; intro τ q))
      go_loopg [7, 8] 8 (fun gk p k wr => ∃ (j pb kb : Nat), gk + j = 8 ∧ p = .float .f64 pb ∧ k = .float .f64 kb ∧ cls .f64 kb = sinK j ∧ cls .f64 pb = sinP (fop .mul .f64 (fop .mul .f64 (fop .sub .f64 (cls .f64 4602678819172646912) (fop .sub .f64 (cls .f64 r) (cls .f64 4602678819172646912))) (cls .f64 4618760256179416344)) (fop .mul .f64 (fop .sub .f64 (cls .f64 4602678819172646912) (fop .sub .f64 (cls .f64 r) (cls .f64 4602678819172646912))) (cls .f64 4618760256179416344))) j ∧ Drew w wr)
      case atStart => exact ⟨0, _, _, rfl, rfl, rfl, sinK_zero, rfl, by repeat (first | exact Hd.out | refine Drew.drewN ?_ _ | refine Drew.drew ?_)⟩
      case round =>
        obtain ⟨j, pb, kb, hj, rfl, rfl, hk, hp, hwr⟩ := hrel
        have HP := Lib.hid hp
        have HW := Lib.hid hwr
        clear hp hwr
        by_cases hlt : j < 8
        · have ht := sinK_test j hlt
          have HN := Lib.hid (sinK_next j hlt)
          have HD := Lib.hid (sinK_den j hlt)
          unfold sinT at ht
          have HJ := Lib.hid hj
          have HL := Lib.hid hlt
          clear hj hlt
          go_wp2_with (first | (refine wpList_fop rfl .sub _ _ _ _ rfl rfl .f64 _ _ rfl rfl ?_; intro τ q) | (refine wpList_fop rfl .mul _ _ _ _ rfl rfl .f64 _ _ rfl rfl ?_; intro τ q) | (refine wpList_fop rfl .add _ _ _ _ rfl rfl .f64 _ _ rfl rfl ?_; intro τ q) | (refine wpList_fop rfl .quo _ _ _ _ rfl rfl .f64 _ _ rfl rfl ?_; intro τ q))
          go_roundg (gk - 1)
          case measure => have := HJ.out; have := HL.out; omega
          case rel => exact ⟨j + 1, _, _, by have := HJ.out; have := HL.out; omega, rfl, rfl, (cls_rep' (nn_fop _ _ _ _) _).trans HN.out, (cls_rep' (nn_fop _ _ _ _) _).trans (by rw [sinP_succ, ← HD.out, HP.out]), by repeat (first | exact HW.out | refine Drew.drewN ?_ _ | refine Drew.drew ?_)⟩
        · obtain rfl : j = 8 := by omega
          have ht := sinK_stop
          unfold sinT at ht
          clear hlt hj
          go_wp2_with (first | (refine wpList_fop rfl .sub _ _ _ _ rfl rfl .f64 _ _ rfl rfl ?_; intro τ q) | (refine wpList_fop rfl .mul _ _ _ _ rfl rfl .f64 _ _ rfl rfl ?_; intro τ q) | (refine wpList_fop rfl .add _ _ _ _ rfl rfl .f64 _ _ rfl rfl ?_; intro τ q) | (refine wpList_fop rfl .quo _ _ _ _ rfl rfl .f64 _ _ rfl rfl ?_; intro τ q))
          go_ret
          exact ⟨_, rfl, (cls_neg (rep_lt (wfc_fop _ _ _ _) _)).trans (by rw [cls_rep' (nn_fop _ _ _ _), HP.out, ← HF.out, Hr.out]), neg_lt (rep_lt (wfc_fop _ _ _ _) _), by repeat (first | exact HW.out | refine Drew.drewN ?_ _ | refine Drew.drew ?_)⟩
end Go.Proofs.Ytmpeogpmlgnmfaa
