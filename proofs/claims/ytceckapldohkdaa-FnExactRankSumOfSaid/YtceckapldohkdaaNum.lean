/- Contracts of the small functions on numbers, of the program and of the reference: what each returns, as a function of its arguments' classes. -/
import Derived.Test.YtceckapldohkdaaBase
import Derived.Test.YtceckapldohkdaaNumL
namespace Go.Proofs.Ytceckapldohkdaa
open Go.RowKit Flt

theorem isFinite_any (b : Nat) (w : World) :
    Calls Try.prog 85 #[.float .f32 b] w fun e w' => ∃ n, e = .returned (.bool (finB (cls .f32 b))) ∧ w' = w.drewN n := by
  go_enter Try.func85, Try.ntmps85
  go_wp2_with (first | (refine wpList_fop rfl .sub _ _ _ _ rfl rfl .f32 _ _ rfl rfl ?_; intro τ n))
  go_ret
  exact ⟨_, rfl, rfl⟩
theorem l01Finite_any (b : Nat) (w : World) :
    Calls Try.prog 88 #[.float .f32 b] w fun e w' => ∃ n, e = .returned (.bool (finB (cls .f32 b))) ∧ w' = w.drewN n := by
  go_enter Try.func88, Try.ntmps88
  go_wp2_with (first | (refine wpList_fop rfl .sub _ _ _ _ rfl rfl .f32 _ _ rfl rfl ?_; intro τ n))
  go_ret
  exact ⟨_, rfl, rfl⟩
theorem l01Bits_any (b : Nat) (w : World) (hb : b < 4294967296) :
    Calls Try.prog 106 #[.float .f32 b] w fun e w' => e = .returned (.int .i64 (bitsZ (cls .f32 b))) ∧ w = w' := by
  rcases cls_cases .f32 b with ⟨hc, _⟩ | ⟨hc, h1⟩
  · have ho : ford .f32 none none = none := rfl
    go_enter Try.func106, Try.ntmps106
    go_wp2
    go_ret
    exact ⟨by rw [hc]; rfl, rfl⟩
  · have ho := ford_self h1
    go_enter Try.func106, Try.ntmps106
    go_wp2
    go_ret
    exact ⟨by rw [hc]; rfl, rfl⟩
/-- the laws' test of two numbers: of one class they are the same -/
theorem sameFloat_same (a b : Nat) (w : World) (h : cls .f64 a = cls .f64 b) :
    Calls Try.prog 25 #[.float .f64 a, .float .f64 b] w fun e w' => ∃ n, e = .returned (.bool true) ∧ w' = w.drewN n := by
  rcases cls_cases .f64 b with ⟨hc, _⟩ | ⟨hc, h1⟩
  · rw [hc] at h
    have ho : ford .f64 none none = none := rfl
    go_enter Try.func25, Try.ntmps25
    go_wp2
    go_ret
    exact ⟨0, rfl, rfl⟩
  · rw [hc] at h
    obtain ⟨rfl, _⟩ := cls_some h
    clear h
    have ho := ford_self h1
    by_cases hz : (ford .f64 (some b) (cls .f64 0) == some .eq) = true
    · go_enter Try.func25, Try.ntmps25
      go_wp2_with (first | (refine wpList_fop rfl .quo _ _ _ _ rfl rfl .f64 _ _ rfl rfl ?_; intro τ n))
      go_ret
      exact ⟨_, rfl, rfl⟩
    · have hz' : (ford .f64 (some b) (cls .f64 0) == some .eq) = false := by simpa using hz
      clear hz
      go_enter Try.func25, Try.ntmps25
      go_wp2
      go_ret
      exact ⟨0, rfl, rfl⟩
theorem within_any (n lo hi : Int) (w : World) :
    Calls Try.prog 67 #[.int .i64 n, .int .i64 lo, .int .i64 hi] w fun e w' => e = .returned (.bool (inB n lo hi)) ∧ w = w' := by
  by_cases h : lo ≤ n
  · go_enter Try.func67, Try.ntmps67
    go_wp2
    go_ret
    exact ⟨by unfold inB; rw [decide_eq_true h]; rfl, rfl⟩
  · have hd : decide (lo ≤ n) = false := by simpa using h
    go_enter Try.func67, Try.ntmps67
    go_wp2
    go_ret
    exact ⟨by unfold inB; rw [hd]; rfl, rfl⟩
theorem l00In_any (n lo hi : Int) (w : World) :
    Calls Try.prog 65 #[.int .i64 n, .int .i64 lo, .int .i64 hi] w fun e w' => e = .returned (.bool (inB n lo hi)) ∧ w = w' := by
  by_cases h : lo ≤ n
  · go_enter Try.func65, Try.ntmps65
    go_wp2
    go_ret
    exact ⟨by unfold inB; rw [decide_eq_true h]; rfl, rfl⟩
  · have hd : decide (lo ≤ n) = false := by simpa using h
    go_enter Try.func65, Try.ntmps65
    go_wp2
    go_ret
    exact ⟨by unfold inB; rw [hd]; rfl, rfl⟩
theorem signbit_any (b : Nat) (w : World) (hb : b < 18446744073709551616) :
    Calls Try.prog 87 #[.float .f64 b] w fun e w' => e = .returned (.bool (sgn FloatKind.f64.format b)) ∧ w = w' := by
  go_enter Try.func87, Try.ntmps87
  go_wp2
  go_ret
  exact ⟨by rw [← sgn64 b hb]; rfl, rfl⟩
theorem abs_any (b : Nat) (w : World) (hb : b < 18446744073709551616) :
    Calls Try.prog 109 #[.float .f64 b] w fun e w' => e = .returned (.float .f64 (rung FloatKind.f64.format b)) ∧ w = w' := by
  go_enter Try.func109, Try.ntmps109
  go_wp2
  go_ret
  exact ⟨congrArg (fun n => Ending.returned (.float .f64 n)) (toNat_andNot b hb), rfl⟩
theorem l01Same_any (a b : Nat) (w : World) (ha : a < 4294967296) (hb : b < 4294967296) :
    Calls Try.prog 99 #[.float .f32 a, .float .f32 b] w fun e w' => e = .returned (.bool (sameB (cls .f32 a) (cls .f32 b))) ∧ w = w' := by
  go_enter Try.func99, Try.ntmps99
  go_wp2_with (first | (go_at_call 106; refine (l01Bits_any _ _ (by assumption)).mono ?_; rintro e w' ⟨rfl, rfl⟩))
  go_ret
  exact ⟨congrArg (fun x => Ending.returned (.bool x)) bitsZ_same, rfl⟩
theorem sameNumber_any (a b : Nat) (w : World) (ha : a < 4294967296) (hb : b < 4294967296) :
    Calls Try.prog 55 #[.float .f32 a, .float .f32 b] w fun e w' => ∃ n, e = .returned (.bool (sameB (cls .f32 a) (cls .f32 b))) ∧ w' = w.drewN n := by
  rcases cls_cases .f32 a with ⟨hca, _⟩ | ⟨hca, h1⟩ <;> rcases cls_cases .f32 b with ⟨hcb, _⟩ | ⟨hcb, h2⟩
  · have ho : ford .f32 none none = none := rfl
    go_enter Try.func55, Try.ntmps55
    go_wp2
    go_ret
    exact ⟨0, by rw [hca, hcb]; rfl, rfl⟩
  · have ho : ford .f32 none none = none := rfl
    have hs := ford_self h2
    go_enter Try.func55, Try.ntmps55
    go_wp2
    go_ret
    exact ⟨0, by rw [hca, hcb]; rfl, rfl⟩
  · have ho : ford .f32 none none = none := rfl
    have hs := ford_self h1
    go_enter Try.func55, Try.ntmps55
    go_wp2
    go_ret
    exact ⟨0, by rw [hca, hcb]; rfl, rfl⟩
  · have hs1 := ford_self h1
    have hs2 := ford_self h2
    have hw := same_words (k := .f32) ha hb h1 h2
    have hab : sameB (cls .f32 a) (cls .f32 b) = decide (a = b) := by rw [hca, hcb]; unfold sameB; simp
    have W1 := fun τ => wide_sgn τ h1
    have W2 := fun τ => wide_sgn τ h2
    cases ho : (ford .f32 (some a) (some b) == some .eq)
    · rw [ho] at hw
      have Hw := Lib.hid (hab.trans hw.symm)
      clear hw hab W1 W2
      go_enter Try.func55, Try.ntmps55
      go_wp2
      go_ret
      exact ⟨0, by rw [Hw.out]; rfl, rfl⟩
    · rw [ho] at hw
      have Hw := Lib.hid (hab.trans hw.symm)
      have X1 := Lib.hid W1
      have X2 := Lib.hid W2
      have L1 := fun τ => wide_lt (some a) (hca ▸ nn_cls .f32 a) τ
      have L2 := fun τ => wide_lt (some b) (hcb ▸ nn_cls .f32 b) τ
      clear hw hab W1 W2
      go_enter Try.func55, Try.ntmps55
      go_wp2_with (first | (refine wpList_conv_g rfl _ _ _ rfl .f32 .f64 _ rfl (by decide) (by kernel_rfl) Try.underlying36 (noOver_widen _) ?_; simp only [hca, hcb]; intro τ n) | (go_at_call 87; refine (signbit_any _ _ (by first | exact L1 _ | exact L2 _)).mono ?_; rintro e w' ⟨rfl, rfl⟩))
      go_ret
      refine ⟨_, ?_, rfl⟩
      show Ending.returned (.bool (sgn FloatKind.f64.format _ == sgn FloatKind.f64.format _)) = _
      rw [X1.out, X2.out, Hw.out]
      rfl
end Go.Proofs.Ytceckapldohkdaa
