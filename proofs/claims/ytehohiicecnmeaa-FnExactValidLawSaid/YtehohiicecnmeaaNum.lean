/- Contracts of the small functions on numbers, of the program and of the reference: what each returns, as a function of its arguments' classes. -/
import Derived.Test.YtehohiicecnmeaaBase
import Derived.Test.YtehohiicecnmeaaNumL
namespace Go.Proofs.Ytehohiicecnmeaa
open Go.RowKit Flt

theorem isFinite_any (b : Nat) (w : World) :
    Calls Try.prog 16 #[.float .f32 b] w fun e w' => ∃ n, e = .returned (.bool (finB (cls .f32 b))) ∧ w' = w.drewN n := by
  go_enter Try.func16, Try.ntmps16
  go_wp2_with (first | (refine wpList_fop rfl .sub _ _ _ _ rfl rfl .f32 _ _ rfl rfl ?_; intro τ n))
  go_ret
  exact ⟨_, rfl, rfl⟩
theorem l01Finite_any (b : Nat) (w : World) :
    Calls Try.prog 39 #[.float .f32 b] w fun e w' => ∃ n, e = .returned (.bool (finB (cls .f32 b))) ∧ w' = w.drewN n := by
  go_enter Try.func39, Try.ntmps39
  go_wp2_with (first | (refine wpList_fop rfl .sub _ _ _ _ rfl rfl .f32 _ _ rfl rfl ?_; intro τ n))
  go_ret
  exact ⟨_, rfl, rfl⟩
theorem sIsFinite_any (b : Nat) (w : World) :
    Calls Try.prog 15 #[.float .f32 b] w fun e w' => ∃ n, e = .returned (.bool (finB (cls .f32 b))) ∧ w' = w.drewN n := by
  go_enter Try.func15, Try.ntmps15
  go_wp2_with (first | (go_at_call 39; refine (l01Finite_any _ _).mono ?_; rintro e w' ⟨n, rfl, rfl⟩))
  go_ret
  exact ⟨_, rfl, rfl⟩
theorem l01Bits_any (b : Nat) (w : World) (hb : b < 4294967296) :
    Calls Try.prog 41 #[.float .f32 b] w fun e w' => e = .returned (.int .i64 (bitsZ (cls .f32 b))) ∧ w = w' := by
  rcases cls_cases .f32 b with ⟨hc, _⟩ | ⟨hc, h1⟩
  · have ho : ford .f32 none none = none := rfl
    go_enter Try.func41, Try.ntmps41
    go_wp2
    go_ret
    exact ⟨by rw [hc]; rfl, rfl⟩
  · have ho := ford_self h1
    go_enter Try.func41, Try.ntmps41
    go_wp2
    go_ret
    exact ⟨by rw [hc]; rfl, rfl⟩
theorem bitsOf_any (b : Nat) (w : World) (hb : b < 4294967296) :
    Calls Try.prog 21 #[.float .f32 b] w fun e w' => e = .returned (.int .i64 (bitsZ (cls .f32 b))) ∧ w = w' := by
  rcases cls_cases .f32 b with ⟨hc, _⟩ | ⟨hc, h1⟩
  · have ho : ford .f32 none none = none := rfl
    go_enter Try.func21, Try.ntmps21
    go_wp2
    go_ret
    exact ⟨by rw [hc]; rfl, rfl⟩
  · have ho := ford_self h1
    go_enter Try.func21, Try.ntmps21
    go_wp2
    go_ret
    exact ⟨by rw [hc]; rfl, rfl⟩
theorem sBitsOf_any (b : Nat) (w : World) (hb : b < 4294967296) :
    Calls Try.prog 20 #[.float .f32 b] w fun e w' => e = .returned (.int .i64 (bitsZ (cls .f32 b))) ∧ w = w' := by
  go_enter Try.func20, Try.ntmps20
  go_wp2_with (first | (go_at_call 41; refine (l01Bits_any _ _ (by assumption)).mono ?_; rintro e w' ⟨rfl, rfl⟩))
  go_ret
  exact ⟨rfl, rfl⟩
/-- the laws' test of two numbers: of one class they are the same -/
theorem sameFloat_same (a b : Nat) (w : World) (h : cls .f64 a = cls .f64 b) :
    Calls Try.prog 19 #[.float .f64 a, .float .f64 b] w fun e w' => ∃ n, e = .returned (.bool true) ∧ w' = w.drewN n := by
  rcases cls_cases .f64 b with ⟨hc, _⟩ | ⟨hc, h1⟩
  · rw [hc] at h
    have ho : ford .f64 none none = none := rfl
    go_enter Try.func19, Try.ntmps19
    go_wp2
    go_ret
    exact ⟨0, rfl, rfl⟩
  · rw [hc] at h
    obtain ⟨rfl, _⟩ := cls_some h
    clear h
    have ho := ford_self h1
    by_cases hz : (ford .f64 (some b) (cls .f64 0) == some .eq) = true
    · go_enter Try.func19, Try.ntmps19
      go_wp2_with (first | (refine wpList_fop rfl .quo _ _ _ _ rfl rfl .f64 _ _ rfl rfl ?_; intro τ n))
      go_ret
      exact ⟨_, rfl, rfl⟩
    · have hz' : (ford .f64 (some b) (cls .f64 0) == some .eq) = false := by simpa using hz
      clear hz
      go_enter Try.func19, Try.ntmps19
      go_wp2
      go_ret
      exact ⟨0, rfl, rfl⟩
theorem within_any (n lo hi : Int) (w : World) :
    Calls Try.prog 44 #[.int .i64 n, .int .i64 lo, .int .i64 hi] w fun e w' => e = .returned (.bool (inB n lo hi)) ∧ w = w' := by
  by_cases h : lo ≤ n
  · go_enter Try.func44, Try.ntmps44
    go_wp2
    go_ret
    exact ⟨by unfold inB; rw [decide_eq_true h]; rfl, rfl⟩
  · have hd : decide (lo ≤ n) = false := by simpa using h
    go_enter Try.func44, Try.ntmps44
    go_wp2
    go_ret
    exact ⟨by unfold inB; rw [hd]; rfl, rfl⟩
theorem l00In_any (n lo hi : Int) (w : World) :
    Calls Try.prog 48 #[.int .i64 n, .int .i64 lo, .int .i64 hi] w fun e w' => e = .returned (.bool (inB n lo hi)) ∧ w = w' := by
  by_cases h : lo ≤ n
  · go_enter Try.func48, Try.ntmps48
    go_wp2
    go_ret
    exact ⟨by unfold inB; rw [decide_eq_true h]; rfl, rfl⟩
  · have hd : decide (lo ≤ n) = false := by simpa using h
    go_enter Try.func48, Try.ntmps48
    go_wp2
    go_ret
    exact ⟨by unfold inB; rw [hd]; rfl, rfl⟩
theorem signbit_any (b : Nat) (w : World) (hb : b < 18446744073709551616) :
    Calls Try.prog 47 #[.float .f64 b] w fun e w' => e = .returned (.bool (sgn FloatKind.f64.format b)) ∧ w = w' := by
  go_enter Try.func47, Try.ntmps47
  go_wp2
  go_ret
  exact ⟨by rw [← sgn64 b hb]; rfl, rfl⟩
theorem abs_any (b : Nat) (w : World) (hb : b < 18446744073709551616) :
    Calls Try.prog 45 #[.float .f64 b] w fun e w' => e = .returned (.float .f64 (rung FloatKind.f64.format b)) ∧ w = w' := by
  go_enter Try.func45, Try.ntmps45
  go_wp2
  go_ret
  exact ⟨congrArg (fun n => Ending.returned (.float .f64 n)) (toNat_andNot b hb), rfl⟩
theorem copysign0_any (b : Nat) (w : World) (hb : b < 18446744073709551616) :
    Calls Try.prog 54 #[.float .f64 0, .float .f64 b] w fun e w' => e = .returned (.float .f64 (FloatKind.f64.format.word (sgn FloatKind.f64.format b) 0)) ∧ w = w' := by
  go_enter Try.func54, Try.ntmps54
  go_wp2
  go_ret
  exact ⟨congrArg (fun n => Ending.returned (.float .f64 n)) (toNat_copysign0 b hb), rfl⟩
theorem l01From_any (n : Int) (w : World) (h0 : 0 ≤ n) (h1 : n ≤ 4294967295) :
    Calls Try.prog 50 #[.int .i64 n] w fun e w' => e = .returned (.float .f32 n.toNat) ∧ w = w' := by
  go_enter Try.func50, Try.ntmps50
  go_wp2
  go_ret
  exact ⟨rfl, rfl⟩
theorem isSubnormal_any (b : Nat) (w : World) :
    Calls Try.prog 28 #[.float .f32 b] w fun e w' => ∃ n, e = .returned (.bool (nzB (cls .f32 b) && lowB (cls .f32 b))) ∧ w' = w.drewN n := by
  cases hz : nzB (cls .f32 b)
  · unfold nzB at hz
    go_enter Try.func28, Try.ntmps28
    go_wp2
    go_ret
    exact ⟨0, rfl, rfl⟩
  · unfold nzB at hz
    go_enter Try.func28, Try.ntmps28
    go_wp2_with (first | (refine wpList_conv_g rfl _ _ _ rfl .f32 .f64 _ rfl (by decide) (by kernel_rfl) Try.underlying25 (noOver_widen _) ?_; intro τ n) | (go_at_call 45; refine (abs_any _ _ (wide_lt _ (nn_cls _ _) _)).mono ?_; rintro e w' ⟨rfl, rfl⟩))
    go_ret
    exact ⟨_, congrArg (fun x => Ending.returned (.bool x)) (abs_low b τ), rfl⟩
theorem sIsSubnormal_any (b : Nat) (w : World) (hb : b < 4294967296) :
    Calls Try.prog 27 #[.float .f32 b] w fun e w' => e = .returned (.bool (nzB (cls .f32 b) && lowB (cls .f32 b))) ∧ w = w' := by
  cases hz : nzB (cls .f32 b)
  · unfold nzB at hz
    go_enter Try.func27, Try.ntmps27
    go_wp2
    go_ret
    exact ⟨rfl, rfl⟩
  · unfold nzB at hz
    go_enter Try.func27, Try.ntmps27
    go_wp2_with (first | (go_at_call 41; refine (l01Bits_any _ _ (by assumption)).mono ?_; rintro e w' ⟨rfl, rfl⟩))
    go_ret
    exact ⟨congrArg (fun x => Ending.returned (.bool x)) (bitsZ_mask (wfc_cls hb)), rfl⟩
theorem flushNumber_any (b : Nat) (w : World) (hb : b < 4294967296) :
    Calls Try.prog 38 #[.float .f32 b] w fun e w' => ∃ r n, e = .returned (.float .f32 r) ∧ w' = w.drewN n ∧ cls .f32 r = flushC (cls .f32 b) ∧ r < 4294967296 := by
  cases hs : (nzB (cls .f32 b) && lowB (cls .f32 b))
  · have Hs := Lib.hid hs
    go_enter Try.func38, Try.ntmps38
    go_wp2_with (first | (go_at_call 28; refine (isSubnormal_any _ _).mono ?_; rintro e w' ⟨m, rfl, rfl⟩))
    go_ret
    exact ⟨_, _, rfl, rfl, flush_not Hs.out, hb⟩
  · have Hs := Lib.hid hs
    go_enter Try.func38, Try.ntmps38
    go_wp2_with (first | (go_at_call 28; refine (isSubnormal_any _ _).mono ?_; rintro e w' ⟨m, rfl, rfl⟩) | (refine wpList_conv rfl _ _ _ rfl .f32 .f64 _ rfl (by decide) (by kernel_rfl) Try.underlying25 (noOver_widen _) ?_; intro τ n) | (go_at_call 54; refine (copysign0_any _ _ (wide_lt _ (nn_cls _ _) _)).mono ?_; rintro e w' ⟨rfl, rfl⟩) | (refine wpList_conv rfl _ _ _ rfl .f64 .f32 _ rfl (by decide) (by kernel_rfl) Try.underlying23 (noOver_word0 _) ?_; intro ρ k))
    go_ret
    exact ⟨_, _, rfl, rfl, (cls_rep' (nn_fconv _ _ _ (nn_cls _ _)) _).trans (flush_sub hb _ Hs.out), narrow_lt _ (nn_cls _ _) _⟩
theorem l01Flush_any (b : Nat) (w : World) (hb : b < 4294967296) :
    Calls Try.prog 53 #[.float .f32 b] w fun e w' => ∃ r n, e = .returned (.float .f32 r) ∧ w' = w.drewN n ∧ cls .f32 r = flushC (cls .f32 b) ∧ r < 4294967296 := by
  have hm := bitsZ_mask (wfc_cls (k := .f32) hb)
  cases hs : lowB (cls .f32 b)
  · rw [hs] at hm
    have Hs := Lib.hid hs
    clear hs
    go_enter Try.func53, Try.ntmps53
    go_wp2_with (first | (go_at_call 41; refine (l01Bits_any _ _ (by assumption)).mono ?_; rintro e w' ⟨rfl, rfl⟩))
    go_ret
    exact ⟨_, 0, rfl, rfl, flush_spec_not Hs.out, hb⟩
  · rw [hs] at hm
    obtain ⟨h1, h2, h3, h4⟩ := flush_spec hb hs
    have H3 := Lib.hid h3
    clear hs h3
    go_enter Try.func53, Try.ntmps53
    go_wp2_with (first | (go_at_call 41; refine (l01Bits_any _ _ (by assumption)).mono ?_; rintro e w' ⟨rfl, rfl⟩) | (go_at_call 50; refine (l01From_any _ _ (by assumption) (by assumption)).mono ?_; rintro e w' ⟨rfl, rfl⟩))
    go_ret
    exact ⟨_, 0, rfl, rfl, H3.out, h4⟩
theorem l01Same_any (a b : Nat) (w : World) (ha : a < 4294967296) (hb : b < 4294967296) :
    Calls Try.prog 46 #[.float .f32 a, .float .f32 b] w fun e w' => e = .returned (.bool (sameB (cls .f32 a) (cls .f32 b))) ∧ w = w' := by
  go_enter Try.func46, Try.ntmps46
  go_wp2_with (first | (go_at_call 41; refine (l01Bits_any _ _ (by assumption)).mono ?_; rintro e w' ⟨rfl, rfl⟩))
  go_ret
  exact ⟨congrArg (fun x => Ending.returned (.bool x)) bitsZ_same, rfl⟩
theorem sSameNumber_any (a b : Nat) (w : World) (ha : a < 4294967296) (hb : b < 4294967296) :
    Calls Try.prog 29 #[.float .f32 a, .float .f32 b] w fun e w' => e = .returned (.bool (sameB (cls .f32 a) (cls .f32 b))) ∧ w = w' := by
  go_enter Try.func29, Try.ntmps29
  go_wp2_with (first | (go_at_call 46; refine (l01Same_any _ _ _ (by assumption) (by assumption)).mono ?_; rintro e w' ⟨rfl, rfl⟩))
  go_ret
  exact ⟨rfl, rfl⟩
theorem sameNumber_any (a b : Nat) (w : World) (ha : a < 4294967296) (hb : b < 4294967296) :
    Calls Try.prog 30 #[.float .f32 a, .float .f32 b] w fun e w' => ∃ n, e = .returned (.bool (sameB (cls .f32 a) (cls .f32 b))) ∧ w' = w.drewN n := by
  rcases cls_cases .f32 a with ⟨hca, _⟩ | ⟨hca, h1⟩ <;> rcases cls_cases .f32 b with ⟨hcb, _⟩ | ⟨hcb, h2⟩
  · have ho : ford .f32 none none = none := rfl
    go_enter Try.func30, Try.ntmps30
    go_wp2
    go_ret
    exact ⟨0, by rw [hca, hcb]; rfl, rfl⟩
  · have ho : ford .f32 none none = none := rfl
    have hs := ford_self h2
    go_enter Try.func30, Try.ntmps30
    go_wp2
    go_ret
    exact ⟨0, by rw [hca, hcb]; rfl, rfl⟩
  · have ho : ford .f32 none none = none := rfl
    have hs := ford_self h1
    go_enter Try.func30, Try.ntmps30
    go_wp2
    go_ret
    exact ⟨0, by rw [hca, hcb]; rfl, rfl⟩
  · have hs1 := ford_self h1
    have hs2 := ford_self h2
    have hw := same_words (k := .f32) ha hb h1 h2
    have hab : sameB (cls .f32 a) (cls .f32 b) = decide (a = b) := by rw [hca, hcb]; unfold sameB; simp
    have W1 := fun τ => wide_sgn τ h1
    have W2 := fun τ => wide_sgn τ h2
    cases ho : (ford .f32 (some a) (some b) == some .eq)
    · rw [ho] at hw
      have Hw := Lib.hid (hab.trans hw.symm)
      clear hw hab W1 W2
      go_enter Try.func30, Try.ntmps30
      go_wp2
      go_ret
      exact ⟨0, by rw [Hw.out]; rfl, rfl⟩
    · rw [ho] at hw
      have Hw := Lib.hid (hab.trans hw.symm)
      have X1 := Lib.hid W1
      have X2 := Lib.hid W2
      have L1 := fun τ => wide_lt (some a) (hca ▸ nn_cls .f32 a) τ
      have L2 := fun τ => wide_lt (some b) (hcb ▸ nn_cls .f32 b) τ
      clear hw hab W1 W2
      go_enter Try.func30, Try.ntmps30
      go_wp2_with (first | (refine wpList_conv_g rfl _ _ _ rfl .f32 .f64 _ rfl (by decide) (by kernel_rfl) Try.underlying25 (noOver_widen _) ?_; simp only [hca, hcb]; intro τ n) | (go_at_call 47; refine (signbit_any _ _ (by first | exact L1 _ | exact L2 _)).mono ?_; rintro e w' ⟨rfl, rfl⟩))
      go_ret
      refine ⟨_, ?_, rfl⟩
      show Ending.returned (.bool (sgn FloatKind.f64.format _ == sgn FloatKind.f64.format _)) = _
      rw [X1.out, X2.out, Hw.out]
      rfl
end Go.Proofs.Ytehohiicecnmeaa
