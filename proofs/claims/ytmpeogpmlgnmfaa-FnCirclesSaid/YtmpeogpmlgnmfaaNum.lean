/- Contracts of the small functions on numbers, of the program and of the reference: what each returns, as a function of its arguments' classes. -/
import Derived.Test.YtmpeogpmlgnmfaaBase
import Derived.Test.YtmpeogpmlgnmfaaNumL
namespace Go.Proofs.Ytmpeogpmlgnmfaa
open Go.RowKit Flt

theorem isFinite_any (b : Nat) (w : World) :
    Calls Try.prog 43 #[.float .f32 b] w fun e w' => ∃ n, e = .returned (.bool (finB (cls .f32 b))) ∧ w' = w.drewN n := by
  go_enter Try.func43, Try.ntmps43
  go_wp2_with (first | (refine wpList_fop rfl .sub _ _ _ _ rfl rfl .f32 _ _ rfl rfl ?_; intro τ n))
  go_ret
  exact ⟨_, rfl, rfl⟩
theorem l01Bits_any (b : Nat) (w : World) (hb : b < 4294967296) :
    Calls Try.prog 59 #[.float .f32 b] w fun e w' => e = .returned (.int .i64 (bitsZ (cls .f32 b))) ∧ w = w' := by
  rcases cls_cases .f32 b with ⟨hc, _⟩ | ⟨hc, h1⟩
  · have ho : ford .f32 none none = none := rfl
    go_enter Try.func59, Try.ntmps59
    go_wp2
    go_ret
    exact ⟨by rw [hc]; rfl, rfl⟩
  · have ho := ford_self h1
    go_enter Try.func59, Try.ntmps59
    go_wp2
    go_ret
    exact ⟨by rw [hc]; rfl, rfl⟩
theorem abs_any (b : Nat) (w : World) (hb : b < 18446744073709551616) :
    Calls Try.prog 37 #[.float .f64 b] w fun e w' => e = .returned (.float .f64 (rung FloatKind.f64.format b)) ∧ w = w' := by
  go_enter Try.func37, Try.ntmps37
  go_wp2
  go_ret
  exact ⟨congrArg (fun n => Ending.returned (.float .f64 n)) (toNat_andNot b hb), rfl⟩
theorem copysign0_any (b : Nat) (w : World) (hb : b < 18446744073709551616) :
    Calls Try.prog 71 #[.float .f64 0, .float .f64 b] w fun e w' => e = .returned (.float .f64 (FloatKind.f64.format.word (sgn FloatKind.f64.format b) 0)) ∧ w = w' := by
  go_enter Try.func71, Try.ntmps71
  go_wp2
  go_ret
  exact ⟨congrArg (fun n => Ending.returned (.float .f64 n)) (toNat_copysign0 b hb), rfl⟩
theorem l01From_any (n : Int) (w : World) (h0 : 0 ≤ n) (h1 : n ≤ 4294967295) :
    Calls Try.prog 68 #[.int .i64 n] w fun e w' => e = .returned (.float .f32 n.toNat) ∧ w = w' := by
  go_enter Try.func68, Try.ntmps68
  go_wp2
  go_ret
  exact ⟨rfl, rfl⟩
theorem l01Same_any (a b : Nat) (w : World) (ha : a < 4294967296) (hb : b < 4294967296) :
    Calls Try.prog 46 #[.float .f32 a, .float .f32 b] w fun e w' => e = .returned (.bool (sameB (cls .f32 a) (cls .f32 b))) ∧ w = w' := by
  go_enter Try.func46, Try.ntmps46
  go_wp2_with (first | (go_at_call 59; refine (l01Bits_any _ _ (by assumption)).mono ?_; rintro e w' ⟨rfl, rfl⟩))
  go_ret
  exact ⟨congrArg (fun x => Ending.returned (.bool x)) bitsZ_same, rfl⟩
theorem sSameNumber_any (a b : Nat) (w : World) (ha : a < 4294967296) (hb : b < 4294967296) :
    Calls Try.prog 23 #[.float .f32 a, .float .f32 b] w fun e w' => e = .returned (.bool (sameB (cls .f32 a) (cls .f32 b))) ∧ w = w' := by
  go_enter Try.func23, Try.ntmps23
  go_wp2_with (first | (go_at_call 46; refine (l01Same_any _ _ _ (by assumption) (by assumption)).mono ?_; rintro e w' ⟨rfl, rfl⟩))
  go_ret
  exact ⟨rfl, rfl⟩
end Go.Proofs.Ytmpeogpmlgnmfaa
