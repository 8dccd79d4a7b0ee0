/- Contracts of the small functions on numbers, of the program and of the reference: what each returns, as a function of its arguments' classes. -/
import Derived.Test.YtehohiicecnmeaaBase
namespace Go.Proofs.Ytehohiicecnmeaa
open Go.RowKit Flt

theorem isFinite_any (b : Nat) (w : World) :
    Calls Try.prog 16 #[.float .f32 b] w fun e w' => ∃ n, e = .returned (.bool (finB (cls .f32 b))) ∧ w' = w.drewN n := by
  go_enter Try.func16, Try.ntmps16
  go_wp2_with (first | (refine wpList_fop rfl .sub _ _ _ _ rfl rfl .f32 _ _ rfl rfl ?_; intro τ n))
  go_ret
  exact ⟨_, rfl, rfl⟩
theorem l01Finite_any (b : Nat) (w : World) :
    Calls Try.prog 39 #[.float .f32 b] w fun e w' => ∃ n, e = .returned (.bool (finB (cls .f32 b))) ∧ w' = w.drewN n := by
  go_enter Try.func39, Try.ntmps39
  go_wp2_with (first | (refine wpList_fop rfl .sub _ _ _ _ rfl rfl .f32 _ _ rfl rfl ?_; intro τ n))
  go_ret
  exact ⟨_, rfl, rfl⟩
theorem sIsFinite_any (b : Nat) (w : World) :
    Calls Try.prog 15 #[.float .f32 b] w fun e w' => ∃ n, e = .returned (.bool (finB (cls .f32 b))) ∧ w' = w.drewN n := by
  go_enter Try.func15, Try.ntmps15
  go_wp2_with (first | (go_at_call 39; refine (l01Finite_any _ _).mono ?_; rintro e w' ⟨n, rfl, rfl⟩))
  go_ret
  exact ⟨_, rfl, rfl⟩
theorem l01Bits_any (b : Nat) (w : World) (hb : b < 4294967296) :
    Calls Try.prog 41 #[.float .f32 b] w fun e w' => e = .returned (.int .i64 (bitsZ (cls .f32 b))) ∧ w = w' := by
  rcases cls_cases .f32 b with ⟨hc, _⟩ | ⟨hc, h1⟩
  · have ho : ford .f32 none none = none := rfl
    go_enter Try.func41, Try.ntmps41
    go_wp2
    go_ret
    exact ⟨by rw [hc]; rfl, rfl⟩
  · have ho := ford_self h1
    go_enter Try.func41, Try.ntmps41
    go_wp2
    go_ret
    exact ⟨by rw [hc]; rfl, rfl⟩
theorem bitsOf_any (b : Nat) (w : World) (hb : b < 4294967296) :
    Calls Try.prog 21 #[.float .f32 b] w fun e w' => e = .returned (.int .i64 (bitsZ (cls .f32 b))) ∧ w = w' := by
  rcases cls_cases .f32 b with ⟨hc, _⟩ | ⟨hc, h1⟩
  · have ho : ford .f32 none none = none := rfl
    go_enter Try.func21, Try.ntmps21
    go_wp2
    go_ret
    exact ⟨by rw [hc]; rfl, rfl⟩
  · have ho := ford_self h1
    go_enter Try.func21, Try.ntmps21
    go_wp2
    go_ret
    exact ⟨by rw [hc]; rfl, rfl⟩
theorem sBitsOf_any (b : Nat) (w : World) (hb : b < 4294967296) :
    Calls Try.prog 20 #[.float .f32 b] w fun e w' => e = .returned (.int .i64 (bitsZ (cls .f32 b))) ∧ w = w' := by
  go_enter Try.func20, Try.ntmps20
  go_wp2_with (first | (go_at_call 41; refine (l01Bits_any _ _ (by assumption)).mono ?_; rintro e w' ⟨rfl, rfl⟩))
  go_ret
  exact ⟨rfl, rfl⟩
/-- the laws' test of two numbers: of one class they are the same -/
theorem sameFloat_same (a b : Nat) (w : World) (h : cls .f64 a = cls .f64 b) :
    Calls Try.prog 19 #[.float .f64 a, .float .f64 b] w fun e w' => ∃ n, e = .returned (.bool true) ∧ w' = w.drewN n := by
  rcases cls_cases .f64 b with ⟨hc, _⟩ | ⟨hc, h1⟩
  · rw [hc] at h
    have ho : ford .f64 none none = none := rfl
    go_enter Try.func19, Try.ntmps19
    go_wp2
    go_ret
    exact ⟨0, rfl, rfl⟩
  · rw [hc] at h
    obtain ⟨rfl, _⟩ := cls_some h
    clear h
    have ho := ford_self h1
    by_cases hz : (ford .f64 (some b) (cls .f64 0) == some .eq) = true
    · go_enter Try.func19, Try.ntmps19
      go_wp2_with (first | (refine wpList_fop rfl .quo _ _ _ _ rfl rfl .f64 _ _ rfl rfl ?_; intro τ n))
      go_ret
      exact ⟨_, rfl, rfl⟩
    · have hz' : (ford .f64 (some b) (cls .f64 0) == some .eq) = false := by simpa using hz
      clear hz
      go_enter Try.func19, Try.ntmps19
      go_wp2
      go_ret
      exact ⟨0, rfl, rfl⟩
end Go.Proofs.Ytehohiicecnmeaa
