/- The program's angle of a point alone. -/
import Derived.Test.YtmpeogpmlgnmfaaAngI
namespace Go.Proofs.Ytmpeogpmlgnmfaa.AngX
open Go.ChangeShapes Go.WideShapes Go.ChangeAt Go.RowKit Go.Deep Flt

/-- whether a float32 is a finite number, by its bits -/
def fin (b : Nat) : Bool := finC .f32 (cls .f32 b)
def zer (b : Nat) : Bool := ford .f32 (cls .f32 b) (cls .f32 0) == some .eq
/-- the angle of a point, as a class -/
def angC (a b : Nat) : Option Nat :=
  if fin a = true then if fin b = true then if zer b = true then if zer a = true then some 0 else fconv .f64 .f32 (angW (conv .f32 .f64 a) (conv .f32 .f64 b)) else fconv .f64 .f32 (angW (conv .f32 .f64 a) (conv .f32 .f64 b)) else none else none

theorem fin_some {b : Nat} (h : fin b = true) : cls .f32 b = some b ∧ rung FloatKind.f32.format b < FloatKind.f32.format.infRung := by
  unfold fin cls at *
  split
  · rename_i h1; rw [if_pos h1] at h; exact ⟨rfl, by simpa [finC] using h⟩
  · rename_i h1; rw [if_neg h1] at h; cases h
theorem fin_wide {b : Nat} (h : fin b = true) : rung FloatKind.f64.format (conv .f32 .f64 b) < 9218868437227405312 := by
  rw [conv_rung (fin_some h).2]; exact noOver_widen b (fin_some h).2
theorem zer_not {b : Nat} (h : fin b = true) (hz : zer b = false) : rung FloatKind.f64.format (conv .f32 .f64 b) ≠ 0 := by
  intro h0
  have h1 := (wide_rung_zero (Nat.le_of_lt (fin_some h).2)).1 h0
  unfold zer at hz
  rw [zero_cmp32 (Nat.le_of_lt (fin_some h).2), if_pos h1] at hz
  cases hz
/-- the core's facts -/
structure Core (a b y x : Nat) : Prop where
  ly : y < 18446744073709551616
  lx : x < 18446744073709551616
  cy : ∀ τ, rep .f64 (fconv .f32 .f64 (cls .f32 a)) τ = y
  cx : ∀ τ, rep .f64 (fconv .f32 .f64 (cls .f32 b)) τ = x
  L : (ford .f64 (cls .f64 x) (cls .f64 0) == some .lt) = (ford .f32 (cls .f32 b) (cls .f32 0) == some .lt)
  D : (ford .f64 (cls .f64 y) (cls .f64 0) == some .lt) = (ford .f32 (cls .f32 a) (cls .f32 0) == some .lt)
  zx : (ford .f64 (cls .f64 x) (cls .f64 0) == some .eq) = zer b
  zy : (ford .f64 (cls .f64 y) (cls .f64 0) == some .eq) = zer a
  fy : (ford .f64 (fop .sub .f64 (cls .f64 y) (cls .f64 y)) (cls .f64 0) != some .eq) = false
  fx : (ford .f64 (fop .sub .f64 (cls .f64 x) (cls .f64 x)) (cls .f64 0) != some .eq) = false
theorem fin_test64 {b : Nat} (h : fin b = true) : (ford .f64 (fop .sub .f64 (cls .f64 (conv .f32 .f64 b)) (cls .f64 (conv .f32 .f64 b))) (cls .f64 0) != some .eq) = false := by
  have := fin_test (nn_cls .f64 (conv .f32 .f64 b))
  have h2 : finC .f64 (cls .f64 (conv .f32 .f64 b)) = true := by
    have hw := fin_wide h
    rw [cls_of_le (Nat.le_of_lt hw)]; exact decide_eq_true hw
  rw [h2] at this
  unfold bne; rw [this]; rfl
theorem core {a b : Nat} (ha : fin a = true) (hb : fin b = true) : Core a b (conv .f32 .f64 a) (conv .f32 .f64 b) where
  ly := conv_lt _ _ _
  lx := conv_lt _ _ _
  cy := fun τ => by rw [(fin_some ha).1]; rfl
  cx := fun τ => by rw [(fin_some hb).1]; rfl
  L := by rw [wide_cmp (Nat.le_of_lt (fin_some hb).2)]
  D := by rw [wide_cmp (Nat.le_of_lt (fin_some ha).2)]
  zx := by rw [wide_cmp (Nat.le_of_lt (fin_some hb).2)]; rfl
  zy := by rw [wide_cmp (Nat.le_of_lt (fin_some ha).2)]; rfl
  fy := fin_test64 ha
  fx := fin_test64 hb

set_option maxHeartbeats 2000000 in
theorem angI (a b : Nat) (w : World) :
    Calls Try.prog 40 #[.float .f32 a, .float .f32 b] w fun e w' => ∃ r, e = .returned (.float .f32 r) ∧ cls .f32 r = angC a b ∧ Drew w w' := by
  cases hb : fin b
  · have HC := Lib.hid (show angC a b = none by unfold angC; rw [hb]; split <;> rfl)
    have h1 : finB (cls .f32 b) = false := (finB_eq (nn_cls _ _)).trans hb
    clear hb
    go_enter Try.func40, Try.ntmps40
    go_wp2_with (first | (go_at_call 43; refine (isFinite_any _ _).mono ?_; rintro e w1 ⟨n, rfl, rfl⟩) | (refine (nan_any _).mono ?_; rintro e w1 ⟨rfl, rfl⟩) | (refine wpList_conv rfl _ _ _ rfl .f64 .f32 _ rfl (by decide) (by kernel_rfl) Try.underlying34 (fun h => absurd h (by decide +kernel)) ?_; intro τ n))
    go_ret
    exact ⟨_, rfl, (cls_rep' (nn_fconv _ _ _ (nn_cls _ _)) _).trans (by rw [HC.out]; decide +kernel), by repeat (first | exact Drew.refl _ | refine Drew.drewN ?_ _ | refine Drew.drew ?_)⟩
  cases ha : fin a
  · have HC := Lib.hid (show angC a b = none by unfold angC; rw [ha]; rfl)
    have h1 : finB (cls .f32 b) = true := (finB_eq (nn_cls _ _)).trans hb
    have h2 : finB (cls .f32 a) = false := (finB_eq (nn_cls _ _)).trans ha
    clear ha hb
    go_enter Try.func40, Try.ntmps40
    go_wp2_with (first | (go_at_call 43; refine (isFinite_any _ _).mono ?_; rintro e w1 ⟨n, rfl, rfl⟩) | (refine (nan_any _).mono ?_; rintro e w1 ⟨rfl, rfl⟩) | (refine wpList_conv rfl _ _ _ rfl .f64 .f32 _ rfl (by decide) (by kernel_rfl) Try.underlying34 (fun h => absurd h (by decide +kernel)) ?_; intro τ n))
    go_ret
    exact ⟨_, rfl, (cls_rep' (nn_fconv _ _ _ (nn_cls _ _)) _).trans (by rw [HC.out]; decide +kernel), by repeat (first | exact Drew.refl _ | refine Drew.drewN ?_ _ | refine Drew.drew ?_)⟩
  have h1 : finB (cls .f32 b) = true := (finB_eq (nn_cls _ _)).trans hb
  have h2 : finB (cls .f32 a) = true := (finB_eq (nn_cls _ _)).trans ha
  have K := core ha hb
  have wa := fin_wide ha
  have wb := fin_wide hb
  cases hzb : zer b
  · have HC := (show angC a b = fconv .f64 .f32 (angW (conv .f32 .f64 a) (conv .f32 .f64 b)) by unfold angC; rw [ha, hb, hzb]; rfl)
    rw [HC]
    exact angI_core a b _ _ w K.ly K.lx K.cy K.cx h2 h1 K.L K.D (bd_angW wa wb (.inr (zer_not hb hzb))) (.inl hzb)
  cases hza : zer a
  · have HC := (show angC a b = fconv .f64 .f32 (angW (conv .f32 .f64 a) (conv .f32 .f64 b)) by unfold angC; rw [ha, hb, hzb, hza]; rfl)
    rw [HC]
    exact angI_core a b _ _ w K.ly K.lx K.cy K.cx h2 h1 K.L K.D (bd_angW wa wb (.inl (zer_not ha hza))) (.inr ⟨hzb, hza⟩)
  have HC := Lib.hid (show angC a b = some 0 by unfold angC; rw [ha, hb, hzb, hza]; rfl)
  unfold zer at hza hzb
  clear ha hb K wa wb
  go_enter Try.func40, Try.ntmps40
  go_wp2_with (first | (go_at_call 43; refine (isFinite_any _ _).mono ?_; rintro e w1 ⟨n, rfl, rfl⟩))
  go_ret
  exact ⟨_, rfl, by rw [HC.out]; decide +kernel, by repeat (first | exact Drew.refl _ | refine Drew.drewN ?_ _ | refine Drew.drew ?_)⟩
end Go.Proofs.Ytmpeogpmlgnmfaa.AngX
