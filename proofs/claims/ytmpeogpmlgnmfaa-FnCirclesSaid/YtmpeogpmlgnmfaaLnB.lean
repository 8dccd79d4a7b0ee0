/- The natural logarithm of a positive float32: its bound, and the tests ahead of it. -/
import Derived.Test.YtmpeogpmlgnmfaaLn
namespace Flt
open Go Ieee
set_option exponentiation.threshold 3000
theorem lo_plus_one {Y : Nat} (h1 : 4604930618986332160 ≤ Y) (h2 : Y < 4609434218613702656) : Lo .f64 4610560118520545280 (fop .add .f64 (cls .f64 Y) (cls .f64 4607182418800017408)) := fun r hr => by
  have c1 := cls_pos (b := Y) (by omega)
  have c2 := cls_pos (b := 4607182418800017408) (by omega)
  rw [c1.1, c2.1] at hr
  have e : FloatKind.f64.format.add Y 4607182418800017408 = some r := hr
  rw [add_fin (by rw [c1.2]; show Y < 9218868437227405312; omega) (by decide +kernel)] at e
  cases e
  rw [word_rung _ (Nat.lt_of_le_of_lt (rungOf_le_inf _ _) inf_lt_sw)]
  have s1 : sval FloatKind.f64.format Y = (rval FloatKind.f64.format Y : Int) := by unfold sval; rw [sgn_pos (by omega), c1.2]; rfl
  have s2 : sval FloatKind.f64.format 4607182418800017408 = (rval FloatKind.f64.format 4607182418800017408 : Int) := by unfold sval; rw [sgn_pos (by omega), c2.2]; rfl
  have e1 : (sval FloatKind.f64.format Y + sval FloatKind.f64.format 4607182418800017408).natAbs = rval FloatKind.f64.format Y + rval FloatKind.f64.format 4607182418800017408 := by rw [s1, s2]; omega
  rw [e1]
  have g : rval FloatKind.f64.format 4604930618986332160 ≤ rval FloatKind.f64.format Y := rval_le (show Y ≤ 9218868437227405312 by omega) h1
  exact Nat.le_trans (show 4610560118520545280 ≤ rungOf FloatKind.f64.format (rval FloatKind.f64.format 4604930618986332160 + rval FloatKind.f64.format 4607182418800017408) FloatKind.f64.format.leastPlace by decide +kernel) (rungOf_mono (Nat.add_le_add_right g _) _)

/-- a positive float32, widened -/
theorem wide_pos {b : Nat} (h1 : 1 ≤ b) (h2 : b ≤ 2139095039) : 3936146074321813504 ≤ conv .f32 .f64 b ∧ conv .f32 .f64 b ≤ 5183643171103440896 := by
  have hr : rung FloatKind.f32.format b = b := Nat.mod_eq_of_lt (show b < 2147483648 by omega)
  have hs : sgn FloatKind.f32.format b = false := by
    have : b / FloatKind.f32.format.signWeight = 0 := Nat.div_eq_of_lt (show b < 2147483648 by omega)
    unfold sgn; rw [this]; rfl
  have hlt : rung FloatKind.f32.format b < FloatKind.f32.format.infRung := by rw [hr]; show b < 2139095040; omega
  have e := conv_rung (k := .f64) hlt
  have es := conv_sgn (k := .f64) (Nat.le_of_lt hlt)
  have hw := word_of (f := FloatKind.f64.format) (conv_lt .f32 .f64 b)
  rw [es, hs] at hw
  have hb : conv .f32 .f64 b = rung FloatKind.f64.format (conv .f32 .f64 b) := hw.symm
  rw [hb, e, hr]
  constructor
  · exact Nat.le_trans (by decide +kernel) (rungOf_mono (rval_le (f := FloatKind.f32.format) (r1 := 1) (show b ≤ 2139095040 by omega) h1) _)
  · exact Nat.le_trans (rungOf_mono (rval_le (f := FloatKind.f32.format) (r2 := 2139095039) (by decide) h2) _) (by decide +kernel)
theorem wide_rung_zero {b : Nat} (h : rung FloatKind.f32.format b ≤ FloatKind.f32.format.infRung) : rung FloatKind.f64.format (conv .f32 .f64 b) = 0 ↔ rung FloatKind.f32.format b = 0 := by
  rcases Nat.lt_or_eq_of_le h with h1 | h1
  · rw [conv_rung h1]
    constructor
    · intro h0
      rcases Nat.eq_zero_or_pos (rung FloatKind.f32.format b) with h2 | h2
      · exact h2
      · have := rungOf_mono (f := FloatKind.f64.format) (rval_le (f := FloatKind.f32.format) (r1 := 1) h h2) FloatKind.f32.format.leastPlace
        have e : 3936146074321813504 ≤ rungOf FloatKind.f64.format (rval FloatKind.f32.format 1) FloatKind.f32.format.leastPlace := by decide +kernel
        omega
    · intro h0; rw [h0]; decide +kernel
  · rw [conv_inf h1, h1]; decide
/-- how a float32 stands to zero, and how it stands widened -/
theorem zero_cmp32 {b : Nat} (h : rung FloatKind.f32.format b ≤ FloatKind.f32.format.infRung) : ford .f32 (cls .f32 b) (cls .f32 0) = some (if rung FloatKind.f32.format b = 0 then .eq else if sgn FloatKind.f32.format b then .lt else .gt) := by
  rw [cls_of_le h, cls_of_le (k := .f32) (b := 0) (by decide), ford_some h (by decide)]
  have s0 : srung FloatKind.f32.format 0 = 0 := by decide
  have s1 : srung FloatKind.f32.format b = if sgn FloatKind.f32.format b then -(rung FloatKind.f32.format b : Int) else (rung FloatKind.f32.format b : Int) := rfl
  rw [s0, s1]
  generalize rung FloatKind.f32.format b = r
  congr 1
  by_cases hr : r = 0
  · rw [if_pos hr, Int.compare_eq_eq]; subst hr; split <;> rfl
  · rw [if_neg hr]; split
    · rw [Int.compare_eq_lt]; omega
    · rw [Int.compare_eq_gt]; omega
theorem zero_cmp64 {b : Nat} (h : rung FloatKind.f64.format b ≤ FloatKind.f64.format.infRung) : ford .f64 (cls .f64 b) (cls .f64 0) = some (if rung FloatKind.f64.format b = 0 then .eq else if sgn FloatKind.f64.format b then .lt else .gt) := by
  rw [cls_of_le h, cls_of_le (k := .f64) (b := 0) (by decide), ford_some h (by decide)]
  have s0 : srung FloatKind.f64.format 0 = 0 := by decide
  have s1 : srung FloatKind.f64.format b = if sgn FloatKind.f64.format b then -(rung FloatKind.f64.format b : Int) else (rung FloatKind.f64.format b : Int) := rfl
  rw [s0, s1]
  generalize rung FloatKind.f64.format b = r
  congr 1
  by_cases hr : r = 0
  · rw [if_pos hr, Int.compare_eq_eq]; subst hr; split <;> rfl
  · rw [if_neg hr]; split
    · rw [Int.compare_eq_lt]; omega
    · rw [Int.compare_eq_gt]; omega
theorem wide_cmp {b : Nat} (h : rung FloatKind.f32.format b ≤ FloatKind.f32.format.infRung) : ford .f64 (cls .f64 (conv .f32 .f64 b)) (cls .f64 0) = ford .f32 (cls .f32 b) (cls .f32 0) := by
  rw [zero_cmp32 h, zero_cmp64 (conv_nn h), conv_sgn h]
  have := wide_rung_zero h
  by_cases h0 : rung FloatKind.f32.format b = 0
  · rw [if_pos h0, if_pos (this.2 h0)]
  · rw [if_neg h0, if_neg (fun h => h0 (this.1 h))]
end Flt
namespace Go.Proofs.Ytmpeogpmlgnmfaa
open Go.RowKit Flt
set_option exponentiation.threshold 3000

/-- bounds of the sum's rounds -/
def qB : Nat → Nat
  | 0 => 0
  | j + 1 => rungOf FloatKind.f64.format (rval FloatKind.f64.format 4607182418800017408 + rval FloatKind.f64.format (rungOf FloatKind.f64.format (rval FloatKind.f64.format 4620929931000000000 * rval FloatKind.f64.format (qB j)) (FloatKind.f64.format.leastPlace + FloatKind.f64.format.leastPlace))) FloatKind.f64.format.leastPlace
theorem qB_fin : ∀ j : Nat, j < 14 → qB j < FloatKind.f64.format.infRung := by decide +kernel
theorem qB_mul : ∀ j : Nat, j < 14 → rungOf FloatKind.f64.format (rval FloatKind.f64.format 4620929931000000000 * rval FloatKind.f64.format (qB j)) (FloatKind.f64.format.leastPlace + FloatKind.f64.format.leastPlace) < FloatKind.f64.format.infRung := by decide +kernel
theorem lnK_inv : ∀ j : Nat, j < 13 → (fop .quo .f64 (cls .f64 4607182418800017408) (lnK j)).all (fun b => decide (rung FloatKind.f64.format b ≤ 4607182418800017408)) = true := by decide +kernel
theorem bd_lnQ {u : Option Nat} (hu : Bd .f64 4620929931000000000 u) : ∀ j : Nat, j ≤ 13 → Bd .f64 (qB j) (lnQ u j)
  | 0, _ => Bd.cls (by decide +kernel)
  | j + 1, hj => by
    have ih := bd_lnQ hu j (by omega)
    have h1 := bd_mul hu ih (by decide +kernel) (qB_fin j (by omega)) (Nat.le_refl _)
    have h2 : Bd .f64 4607182418800017408 (fop .quo .f64 (cls .f64 4607182418800017408) (lnK j)) := fun b hb => by
      have := lnK_inv j (by omega)
      rw [hb] at this
      simpa using this
    exact bd_add h2 h1 (by decide +kernel) (qB_mul j (by omega)) (Nat.le_refl _)
theorem bd_lnS {Y : Nat} (h1 : 4604930618986332160 ≤ Y) (h2 : Y < 4609434218613702656) : Bd .f64 4613712638259704627 (lnS (cls .f64 Y)) := by
  have ha : Bd .f64 4612811918334230528 (fop .sub .f64 (cls .f64 Y) (cls .f64 4607182418800017408)) :=
    bd_sub (C := 4609434218613702656) (D := 4607182418800017408) (Bd.cls (by rw [(cls_pos (b := Y) (by omega)).2]; omega)) (Bd.cls (by decide +kernel)) (by decide +kernel) (by decide +kernel) (by decide +kernel)
  exact bd_quo ha (lo_plus_one h1 h2) (by decide +kernel) (nn_fop _ _ _ _) 60 1647030720866924252 (by decide +kernel) (by decide +kernel) (by decide +kernel)
theorem bd_lnN {n : Int} (h1 : -200 ≤ n) (h2 : n ≤ 200) : Bd .f64 4643211215818981376 (cls .f64 (floatOfInt .f64 n)) := Bd.cls (by
  have e : rung FloatKind.f64.format (floatOfInt .f64 n) = rungOf FloatKind.f64.format n.natAbs 0 := by
    show rung FloatKind.f64.format (FloatKind.f64.format.write (.number _ _ 0)) = _
    rw [rung_write_num]
  rw [e]
  exact Nat.le_trans (rungOf_mono (show n.natAbs ≤ 256 by omega) 0) (by decide +kernel))
/-- the logarithm lies below 2^41 -/
theorem bd_lnC {Y : Nat} {n : Int} (h1 : 4604930618986332160 ≤ Y) (h2 : Y < 4609434218613702656) (hn1 : -200 ≤ n) (hn2 : n ≤ 200) : Bd .f64 (pw 41) (lnC Y n) := by
  have hs := bd_lnS h1 h2
  have hu : Bd .f64 4620929931000000000 (fop .mul .f64 (lnS (cls .f64 Y)) (lnS (cls .f64 Y))) := bd_mul hs hs (by decide +kernel) (by decide +kernel) (by decide +kernel)
  have hq := bd_lnQ hu 13 (by omega)
  have h3 : Bd .f64 (pw 39) (fop .mul .f64 (lnS (cls .f64 Y)) (lnQ (fop .mul .f64 (lnS (cls .f64 Y)) (lnS (cls .f64 Y))) 13)) := bd_mul hs hq (by decide +kernel) (by decide +kernel) (by decide +kernel)
  have h4 : Bd .f64 (pw 40) (fop .mul .f64 (cls .f64 4611686018427387904) (fop .mul .f64 (lnS (cls .f64 Y)) (lnQ (fop .mul .f64 (lnS (cls .f64 Y)) (lnS (cls .f64 Y))) 13))) := bd_mul (C := 4611686018427387904) (Bd.cls (by decide +kernel)) h3 (by decide +kernel) (by decide +kernel) (by decide +kernel)
  have h5 : Bd .f64 (pw 8) (fop .mul .f64 (cls .f64 (floatOfInt .f64 n)) (cls .f64 4604418534313441775)) := bd_mul (D := 4604418534313441775) (bd_lnN hn1 hn2) (Bd.cls (by decide +kernel)) (by decide +kernel) (by decide +kernel) (by decide +kernel)
  exact bd_add h4 h5 (by decide +kernel) (by decide +kernel) (by decide +kernel)

/-- the power of two, and what is left, of a number -/
def nOf (y : Nat) : Int := ((y : Int) - 4604930618986332160) / 4503599627370496
def yOf (y : Nat) : Nat := ((y : Int) - nOf y * 4503599627370496).toNat
/-- the logarithm of a positive word -/
def lnP (y : Nat) : Option Nat := lnC (yOf y) (nOf y)
theorem lnP_of {y Y : Nat} {n : Int} (h : (Y : Int) + n * 4503599627370496 = y) (h1 : 4604930618986332160 ≤ Y) (h2 : Y < 4609434218613702656) : lnC Y n = lnP y := by
  have e : n = nOf y := by unfold nOf; omega
  have e2 : Y = yOf y := by unfold yOf; rw [← e]; omega
  rw [e, e2]; rfl
theorem ln_i (y : Nat) (w : World) (h1 : 3936146074321813504 ≤ y) (h2 : y ≤ 5183643171103440896) :
    Calls Try.prog 45 #[.float .f64 y] w fun e w' => ∃ r, e = .returned (.float .f64 r) ∧ cls .f64 r = lnP y ∧ Bd .f64 (pw 41) (cls .f64 r) ∧ Drew w w' :=
  (naturalLog_any y w h1 h2).mono (by
    rintro e w' ⟨r, Y, n, rfl, hr, hy, y1, y2, hd⟩
    exact ⟨r, rfl, hr.trans (lnP_of hy y1 y2), by rw [hr]; exact bd_lnC y1 y2 (by omega) (by omega), hd⟩)
end Go.Proofs.Ytmpeogpmlgnmfaa
