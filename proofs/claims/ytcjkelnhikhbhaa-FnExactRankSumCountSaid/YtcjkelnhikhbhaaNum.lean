/- Contracts of the small functions on numbers, of the program and of the reference: what each returns, as a function of its arguments' classes. -/
import Derived.Test.YtcjkelnhikhbhaaBase
import Derived.Test.YtcjkelnhikhbhaaNumL
namespace Go.Proofs.Ytcjkelnhikhbhaa
open Go.RowKit Flt

theorem isFinite_any (b : Nat) (w : World) :
    Calls Try.prog 50 #[.float .f32 b] w fun e w' => ∃ n, e = .returned (.bool (finB (cls .f32 b))) ∧ w' = w.drewN n := by
  go_enter Try.func50, Try.ntmps50
  go_wp2_with (first | (refine wpList_fop rfl .sub _ _ _ _ rfl rfl .f32 _ _ rfl rfl ?_; intro τ n))
  go_ret
  exact ⟨_, rfl, rfl⟩
theorem l01Finite_any (b : Nat) (w : World) :
    Calls Try.prog 61 #[.float .f32 b] w fun e w' => ∃ n, e = .returned (.bool (finB (cls .f32 b))) ∧ w' = w.drewN n := by
  go_enter Try.func61, Try.ntmps61
  go_wp2_with (first | (refine wpList_fop rfl .sub _ _ _ _ rfl rfl .f32 _ _ rfl rfl ?_; intro τ n))
  go_ret
  exact ⟨_, rfl, rfl⟩
/-- the laws' test of two numbers: of one class they are the same -/
theorem sameFloat_same (a b : Nat) (w : World) (h : cls .f64 a = cls .f64 b) :
    Calls Try.prog 17 #[.float .f64 a, .float .f64 b] w fun e w' => ∃ n, e = .returned (.bool true) ∧ w' = w.drewN n := by
  rcases cls_cases .f64 b with ⟨hc, _⟩ | ⟨hc, h1⟩
  · rw [hc] at h
    have ho : ford .f64 none none = none := rfl
    go_enter Try.func17, Try.ntmps17
    go_wp2
    go_ret
    exact ⟨0, rfl, rfl⟩
  · rw [hc] at h
    obtain ⟨rfl, _⟩ := cls_some h
    clear h
    have ho := ford_self h1
    by_cases hz : (ford .f64 (some b) (cls .f64 0) == some .eq) = true
    · go_enter Try.func17, Try.ntmps17
      go_wp2_with (first | (refine wpList_fop rfl .quo _ _ _ _ rfl rfl .f64 _ _ rfl rfl ?_; intro τ n))
      go_ret
      exact ⟨_, rfl, rfl⟩
    · have hz' : (ford .f64 (some b) (cls .f64 0) == some .eq) = false := by simpa using hz
      clear hz
      go_enter Try.func17, Try.ntmps17
      go_wp2
      go_ret
      exact ⟨0, rfl, rfl⟩
theorem within_any (n lo hi : Int) (w : World) :
    Calls Try.prog 47 #[.int .i64 n, .int .i64 lo, .int .i64 hi] w fun e w' => e = .returned (.bool (inB n lo hi)) ∧ w = w' := by
  by_cases h : lo ≤ n
  · go_enter Try.func47, Try.ntmps47
    go_wp2
    go_ret
    exact ⟨by unfold inB; rw [decide_eq_true h]; rfl, rfl⟩
  · have hd : decide (lo ≤ n) = false := by simpa using h
    go_enter Try.func47, Try.ntmps47
    go_wp2
    go_ret
    exact ⟨by unfold inB; rw [hd]; rfl, rfl⟩
theorem l00In_any (n lo hi : Int) (w : World) :
    Calls Try.prog 46 #[.int .i64 n, .int .i64 lo, .int .i64 hi] w fun e w' => e = .returned (.bool (inB n lo hi)) ∧ w = w' := by
  by_cases h : lo ≤ n
  · go_enter Try.func46, Try.ntmps46
    go_wp2
    go_ret
    exact ⟨by unfold inB; rw [decide_eq_true h]; rfl, rfl⟩
  · have hd : decide (lo ≤ n) = false := by simpa using h
    go_enter Try.func46, Try.ntmps46
    go_wp2
    go_ret
    exact ⟨by unfold inB; rw [hd]; rfl, rfl⟩
theorem abs_any (b : Nat) (w : World) (hb : b < 18446744073709551616) :
    Calls Try.prog 53 #[.float .f64 b] w fun e w' => e = .returned (.float .f64 (rung FloatKind.f64.format b)) ∧ w = w' := by
  go_enter Try.func53, Try.ntmps53
  go_wp2
  go_ret
  exact ⟨congrArg (fun n => Ending.returned (.float .f64 n)) (toNat_andNot b hb), rfl⟩
theorem copysign0_any (b : Nat) (w : World) (hb : b < 18446744073709551616) :
    Calls Try.prog 81 #[.float .f64 0, .float .f64 b] w fun e w' => e = .returned (.float .f64 (FloatKind.f64.format.word (sgn FloatKind.f64.format b) 0)) ∧ w = w' := by
  go_enter Try.func81, Try.ntmps81
  go_wp2
  go_ret
  exact ⟨congrArg (fun n => Ending.returned (.float .f64 n)) (toNat_copysign0 b hb), rfl⟩
theorem l01From_any (n : Int) (w : World) (h0 : 0 ≤ n) (h1 : n ≤ 4294967295) :
    Calls Try.prog 72 #[.int .i64 n] w fun e w' => e = .returned (.float .f32 n.toNat) ∧ w = w' := by
  go_enter Try.func72, Try.ntmps72
  go_wp2
  go_ret
  exact ⟨rfl, rfl⟩
end Go.Proofs.Ytcjkelnhikhbhaa
