/- Contracts of the small functions on numbers, of the program and of the reference: what each returns, as a function of its arguments' classes. -/
import Derived.Test.YtmpeogpmlgnmfaaGreatDoorBase
import Derived.Test.YtmpeogpmlgnmfaaGreatDoorNumL
namespace Go.Proofs.YtmpeogpmlgnmfaaGreatDoor
set_option maxRecDepth 100000
open Go.RowKit Flt

theorem isFinite_any (b : Nat) (w : World) :
    Calls Tryz.prog 61 #[.float .f32 b] w fun e w' => ∃ n, e = .returned (.bool (finB (cls .f32 b))) ∧ w' = w.drewN n := by
  go_enter Tryz.func61, Tryz.ntmps61
  go_wp2_with (first | (refine wpList_fop rfl .sub _ _ _ _ rfl rfl .f32 _ _ rfl rfl ?_; intro τ n))
  go_ret
  exact ⟨_, rfl, rfl⟩
theorem l01Finite_any (b : Nat) (w : World) :
    Calls Tryz.prog 62 #[.float .f32 b] w fun e w' => ∃ n, e = .returned (.bool (finB (cls .f32 b))) ∧ w' = w.drewN n := by
  go_enter Tryz.func62, Tryz.ntmps62
  go_wp2_with (first | (refine wpList_fop rfl .sub _ _ _ _ rfl rfl .f32 _ _ rfl rfl ?_; intro τ n))
  go_ret
  exact ⟨_, rfl, rfl⟩
theorem sIsFinite_any (b : Nat) (w : World) :
    Calls Tryz.prog 27 #[.float .f32 b] w fun e w' => ∃ n, e = .returned (.bool (finB (cls .f32 b))) ∧ w' = w.drewN n := by
  go_enter Tryz.func27, Tryz.ntmps27
  go_wp2_with (first | (go_at_call 62; refine (l01Finite_any _ _).mono ?_; rintro e w' ⟨n, rfl, rfl⟩))
  go_ret
  exact ⟨_, rfl, rfl⟩
theorem l01Bits_any (b : Nat) (w : World) (hb : b < 4294967296) :
    Calls Tryz.prog 69 #[.float .f32 b] w fun e w' => e = .returned (.int .i64 (bitsZ (cls .f32 b))) ∧ w = w' := by
  rcases cls_cases .f32 b with ⟨hc, _⟩ | ⟨hc, h1⟩
  · have ho : ford .f32 none none = none := rfl
    go_enter Tryz.func69, Tryz.ntmps69
    go_wp2
    go_ret
    exact ⟨by rw [hc]; rfl, rfl⟩
  · have ho := ford_self h1
    go_enter Tryz.func69, Tryz.ntmps69
    go_wp2
    go_ret
    exact ⟨by rw [hc]; rfl, rfl⟩
theorem bitsOf_any (b : Nat) (w : World) (hb : b < 4294967296) :
    Calls Tryz.prog 21 #[.float .f32 b] w fun e w' => e = .returned (.int .i64 (bitsZ (cls .f32 b))) ∧ w = w' := by
  rcases cls_cases .f32 b with ⟨hc, _⟩ | ⟨hc, h1⟩
  · have ho : ford .f32 none none = none := rfl
    go_enter Tryz.func21, Tryz.ntmps21
    go_wp2
    go_ret
    exact ⟨by rw [hc]; rfl, rfl⟩
  · have ho := ford_self h1
    go_enter Tryz.func21, Tryz.ntmps21
    go_wp2
    go_ret
    exact ⟨by rw [hc]; rfl, rfl⟩
theorem within_any (n lo hi : Int) (w : World) :
    Calls Tryz.prog 54 #[.int .i64 n, .int .i64 lo, .int .i64 hi] w fun e w' => e = .returned (.bool (inB n lo hi)) ∧ w = w' := by
  by_cases h : lo ≤ n
  · go_enter Tryz.func54, Tryz.ntmps54
    go_wp2
    go_ret
    exact ⟨by unfold inB; rw [decide_eq_true h]; rfl, rfl⟩
  · have hd : decide (lo ≤ n) = false := by simpa using h
    go_enter Tryz.func54, Tryz.ntmps54
    go_wp2
    go_ret
    exact ⟨by unfold inB; rw [hd]; rfl, rfl⟩
theorem signbit_any (b : Nat) (w : World) (hb : b < 18446744073709551616) :
    Calls Tryz.prog 80 #[.float .f64 b] w fun e w' => e = .returned (.bool (sgn FloatKind.f64.format b)) ∧ w = w' := by
  go_enter Tryz.func80, Tryz.ntmps80
  go_wp2
  go_ret
  exact ⟨by rw [← sgn64 b hb]; rfl, rfl⟩
theorem abs_any (b : Nat) (w : World) (hb : b < 18446744073709551616) :
    Calls Tryz.prog 65 #[.float .f64 b] w fun e w' => e = .returned (.float .f64 (rung FloatKind.f64.format b)) ∧ w = w' := by
  go_enter Tryz.func65, Tryz.ntmps65
  go_wp2
  go_ret
  exact ⟨congrArg (fun n => Ending.returned (.float .f64 n)) (toNat_andNot b hb), rfl⟩
theorem copysign0_any (b : Nat) (w : World) (hb : b < 18446744073709551616) :
    Calls Tryz.prog 63 #[.float .f64 0, .float .f64 b] w fun e w' => e = .returned (.float .f64 (FloatKind.f64.format.word (sgn FloatKind.f64.format b) 0)) ∧ w = w' := by
  go_enter Tryz.func63, Tryz.ntmps63
  go_wp2
  go_ret
  exact ⟨congrArg (fun n => Ending.returned (.float .f64 n)) (toNat_copysign0 b hb), rfl⟩
theorem l01From_any (n : Int) (w : World) (h0 : 0 ≤ n) (h1 : n ≤ 4294967295) :
    Calls Tryz.prog 52 #[.int .i64 n] w fun e w' => e = .returned (.float .f32 n.toNat) ∧ w = w' := by
  go_enter Tryz.func52, Tryz.ntmps52
  go_wp2
  go_ret
  exact ⟨rfl, rfl⟩
theorem isSubnormal_any (b : Nat) (w : World) :
    Calls Tryz.prog 33 #[.float .f32 b] w fun e w' => ∃ n, e = .returned (.bool (nzB (cls .f32 b) && lowB (cls .f32 b))) ∧ w' = w.drewN n := by
  cases hz : nzB (cls .f32 b)
  · unfold nzB at hz
    go_enter Tryz.func33, Tryz.ntmps33
    go_wp2
    go_ret
    exact ⟨0, rfl, rfl⟩
  · unfold nzB at hz
    go_enter Tryz.func33, Tryz.ntmps33
    go_wp2_with (first | (refine wpList_conv_g rfl _ _ _ rfl .f32 .f64 _ rfl (by decide) (by kernel_rfl) Tryz.underlying46 (noOver_widen _) ?_; intro τ n) | (go_at_call 65; refine (abs_any _ _ (wide_lt _ (nn_cls _ _) _)).mono ?_; rintro e w' ⟨rfl, rfl⟩))
    go_ret
    exact ⟨_, congrArg (fun x => Ending.returned (.bool x)) (abs_low b τ), rfl⟩
theorem flushNumber_any (b : Nat) (w : World) (hb : b < 4294967296) :
    Calls Tryz.prog 28 #[.float .f32 b] w fun e w' => ∃ r n, e = .returned (.float .f32 r) ∧ w' = w.drewN n ∧ cls .f32 r = flushC (cls .f32 b) ∧ r < 4294967296 := by
  cases hs : (nzB (cls .f32 b) && lowB (cls .f32 b))
  · have Hs := Lib.hid hs
    go_enter Tryz.func28, Tryz.ntmps28
    go_wp2_with (first | (go_at_call 33; refine (isSubnormal_any _ _).mono ?_; rintro e w' ⟨m, rfl, rfl⟩))
    go_ret
    exact ⟨_, _, rfl, rfl, flush_not Hs.out, hb⟩
  · have Hs := Lib.hid hs
    go_enter Tryz.func28, Tryz.ntmps28
    go_wp2_with (first | (go_at_call 33; refine (isSubnormal_any _ _).mono ?_; rintro e w' ⟨m, rfl, rfl⟩) | (refine wpList_conv rfl _ _ _ rfl .f32 .f64 _ rfl (by decide) (by kernel_rfl) Tryz.underlying46 (noOver_widen _) ?_; intro τ n) | (go_at_call 63; refine (copysign0_any _ _ (wide_lt _ (nn_cls _ _) _)).mono ?_; rintro e w' ⟨rfl, rfl⟩) | (refine wpList_conv rfl _ _ _ rfl .f64 .f32 _ rfl (by decide) (by kernel_rfl) Tryz.underlying28 (noOver_word0 _) ?_; intro ρ k))
    go_ret
    exact ⟨_, _, rfl, rfl, (cls_rep' (nn_fconv _ _ _ (nn_cls _ _)) _).trans (flush_sub hb _ Hs.out), narrow_lt _ (nn_cls _ _) _⟩
theorem l01Same_any (a b : Nat) (w : World) (ha : a < 4294967296) (hb : b < 4294967296) :
    Calls Tryz.prog 43 #[.float .f32 a, .float .f32 b] w fun e w' => e = .returned (.bool (sameB (cls .f32 a) (cls .f32 b))) ∧ w = w' := by
  go_enter Tryz.func43, Tryz.ntmps43
  go_wp2_with (first | (go_at_call 69; refine (l01Bits_any _ _ (by assumption)).mono ?_; rintro e w' ⟨rfl, rfl⟩))
  go_ret
  exact ⟨congrArg (fun x => Ending.returned (.bool x)) bitsZ_same, rfl⟩
theorem sSameNumber_any (a b : Nat) (w : World) (ha : a < 4294967296) (hb : b < 4294967296) :
    Calls Tryz.prog 10 #[.float .f32 a, .float .f32 b] w fun e w' => e = .returned (.bool (sameB (cls .f32 a) (cls .f32 b))) ∧ w = w' := by
  go_enter Tryz.func10, Tryz.ntmps10
  go_wp2_with (first | (go_at_call 43; refine (l01Same_any _ _ _ (by assumption) (by assumption)).mono ?_; rintro e w' ⟨rfl, rfl⟩))
  go_ret
  exact ⟨rfl, rfl⟩
theorem sameNumber_any (a b : Nat) (w : World) (ha : a < 4294967296) (hb : b < 4294967296) :
    Calls Tryz.prog 60 #[.float .f32 a, .float .f32 b] w fun e w' => ∃ n, e = .returned (.bool (sameB (cls .f32 a) (cls .f32 b))) ∧ w' = w.drewN n := by
  rcases cls_cases .f32 a with ⟨hca, _⟩ | ⟨hca, h1⟩ <;> rcases cls_cases .f32 b with ⟨hcb, _⟩ | ⟨hcb, h2⟩
  · have ho : ford .f32 none none = none := rfl
    go_enter Tryz.func60, Tryz.ntmps60
    go_wp2
    go_ret
    exact ⟨0, by rw [hca, hcb]; rfl, rfl⟩
  · have ho : ford .f32 none none = none := rfl
    have hs := ford_self h2
    go_enter Tryz.func60, Tryz.ntmps60
    go_wp2
    go_ret
    exact ⟨0, by rw [hca, hcb]; rfl, rfl⟩
  · have ho : ford .f32 none none = none := rfl
    have hs := ford_self h1
    go_enter Tryz.func60, Tryz.ntmps60
    go_wp2
    go_ret
    exact ⟨0, by rw [hca, hcb]; rfl, rfl⟩
  · have hs1 := ford_self h1
    have hs2 := ford_self h2
    have hw := same_words (k := .f32) ha hb h1 h2
    have hab : sameB (cls .f32 a) (cls .f32 b) = decide (a = b) := by rw [hca, hcb]; unfold sameB; simp
    have W1 := fun τ => wide_sgn τ h1
    have W2 := fun τ => wide_sgn τ h2
    cases ho : (ford .f32 (some a) (some b) == some .eq)
    · rw [ho] at hw
      have Hw := Lib.hid (hab.trans hw.symm)
      clear hw hab W1 W2
      go_enter Tryz.func60, Tryz.ntmps60
      go_wp2
      go_ret
      exact ⟨0, by rw [Hw.out]; rfl, rfl⟩
    · rw [ho] at hw
      have Hw := Lib.hid (hab.trans hw.symm)
      have X1 := Lib.hid W1
      have X2 := Lib.hid W2
      have L1 := fun τ => wide_lt (some a) (hca ▸ nn_cls .f32 a) τ
      have L2 := fun τ => wide_lt (some b) (hcb ▸ nn_cls .f32 b) τ
      clear hw hab W1 W2
      go_enter Tryz.func60, Tryz.ntmps60
      go_wp2_with (first | (refine wpList_conv_g rfl _ _ _ rfl .f32 .f64 _ rfl (by decide) (by kernel_rfl) Tryz.underlying46 (noOver_widen _) ?_; simp only [hca, hcb]; intro τ n) | (go_at_call 80; refine (signbit_any _ _ (by first | exact L1 _ | exact L2 _)).mono ?_; rintro e w' ⟨rfl, rfl⟩))
      go_ret
      refine ⟨_, ?_, rfl⟩
      show Ending.returned (.bool (sgn FloatKind.f64.format _ == sgn FloatKind.f64.format _)) = _
      rw [X1.out, X2.out, Hw.out]
      rfl
end Go.Proofs.YtmpeogpmlgnmfaaGreatDoor
