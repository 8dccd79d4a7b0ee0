/- Contracts of the small functions on numbers, of the program and of the reference: what each returns, as a function of its arguments' classes. -/
import Derived.Test.YtmpeogpmlgnmfaaDoorBase
import Derived.Test.YtmpeogpmlgnmfaaDoorNumL
namespace Go.Proofs.YtmpeogpmlgnmfaaDoor
open Go.RowKit Flt

theorem l01Bits_any (b : Nat) (w : World) (hb : b < 4294967296) :
    Calls Tryd.prog 68 #[.float .f32 b] w fun e w' => e = .returned (.int .i64 (bitsZ (cls .f32 b))) ∧ w = w' := by
  rcases cls_cases .f32 b with ⟨hc, _⟩ | ⟨hc, h1⟩
  · have ho : ford .f32 none none = none := rfl
    go_enter Tryd.func68, Tryd.ntmps68
    go_wp2
    go_ret
    exact ⟨by rw [hc]; rfl, rfl⟩
  · have ho := ford_self h1
    go_enter Tryd.func68, Tryd.ntmps68
    go_wp2
    go_ret
    exact ⟨by rw [hc]; rfl, rfl⟩
theorem bitsOf_any (b : Nat) (w : World) (hb : b < 4294967296) :
    Calls Tryd.prog 60 #[.float .f32 b] w fun e w' => e = .returned (.int .i64 (bitsZ (cls .f32 b))) ∧ w = w' := by
  rcases cls_cases .f32 b with ⟨hc, _⟩ | ⟨hc, h1⟩
  · have ho : ford .f32 none none = none := rfl
    go_enter Tryd.func60, Tryd.ntmps60
    go_wp2
    go_ret
    exact ⟨by rw [hc]; rfl, rfl⟩
  · have ho := ford_self h1
    go_enter Tryd.func60, Tryd.ntmps60
    go_wp2
    go_ret
    exact ⟨by rw [hc]; rfl, rfl⟩
/-- the laws' test of two numbers: of one class they are the same -/
theorem sameFloat_same (a b : Nat) (w : World) (h : cls .f64 a = cls .f64 b) :
    Calls Tryd.prog 45 #[.float .f64 a, .float .f64 b] w fun e w' => ∃ n, e = .returned (.bool true) ∧ w' = w.drewN n := by
  rcases cls_cases .f64 b with ⟨hc, _⟩ | ⟨hc, h1⟩
  · rw [hc] at h
    have ho : ford .f64 none none = none := rfl
    go_enter Tryd.func45, Tryd.ntmps45
    go_wp2
    go_ret
    exact ⟨0, rfl, rfl⟩
  · rw [hc] at h
    obtain ⟨rfl, _⟩ := cls_some h
    clear h
    have ho := ford_self h1
    by_cases hz : (ford .f64 (some b) (cls .f64 0) == some .eq) = true
    · go_enter Tryd.func45, Tryd.ntmps45
      go_wp2_with (first | (refine wpList_fop rfl .quo _ _ _ _ rfl rfl .f64 _ _ rfl rfl ?_; intro τ n))
      go_ret
      exact ⟨_, rfl, rfl⟩
    · have hz' : (ford .f64 (some b) (cls .f64 0) == some .eq) = false := by simpa using hz
      clear hz
      go_enter Tryd.func45, Tryd.ntmps45
      go_wp2
      go_ret
      exact ⟨0, rfl, rfl⟩
theorem within_any (n lo hi : Int) (w : World) :
    Calls Tryd.prog 65 #[.int .i64 n, .int .i64 lo, .int .i64 hi] w fun e w' => e = .returned (.bool (inB n lo hi)) ∧ w = w' := by
  by_cases h : lo ≤ n
  · go_enter Tryd.func65, Tryd.ntmps65
    go_wp2
    go_ret
    exact ⟨by unfold inB; rw [decide_eq_true h]; rfl, rfl⟩
  · have hd : decide (lo ≤ n) = false := by simpa using h
    go_enter Tryd.func65, Tryd.ntmps65
    go_wp2
    go_ret
    exact ⟨by unfold inB; rw [hd]; rfl, rfl⟩
theorem l00In_any (n lo hi : Int) (w : World) :
    Calls Tryd.prog 58 #[.int .i64 n, .int .i64 lo, .int .i64 hi] w fun e w' => e = .returned (.bool (inB n lo hi)) ∧ w = w' := by
  by_cases h : lo ≤ n
  · go_enter Tryd.func58, Tryd.ntmps58
    go_wp2
    go_ret
    exact ⟨by unfold inB; rw [decide_eq_true h]; rfl, rfl⟩
  · have hd : decide (lo ≤ n) = false := by simpa using h
    go_enter Tryd.func58, Tryd.ntmps58
    go_wp2
    go_ret
    exact ⟨by unfold inB; rw [hd]; rfl, rfl⟩
theorem l01From_any (n : Int) (w : World) (h0 : 0 ≤ n) (h1 : n ≤ 4294967295) :
    Calls Tryd.prog 67 #[.int .i64 n] w fun e w' => e = .returned (.float .f32 n.toNat) ∧ w = w' := by
  go_enter Tryd.func67, Tryd.ntmps67
  go_wp2
  go_ret
  exact ⟨rfl, rfl⟩
end Go.Proofs.YtmpeogpmlgnmfaaDoor
