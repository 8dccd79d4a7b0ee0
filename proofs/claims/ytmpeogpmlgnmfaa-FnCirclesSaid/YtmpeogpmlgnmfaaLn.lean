/- The natural logarithm, as both texts reckon it. -/
import Derived.Test.YtmpeogpmlgnmfaaSinT
namespace Flt
open Go Ieee
set_option exponentiation.threshold 3000
theorem cls_pos {b : Nat} (h : b ≤ 9218868437227405312) : cls .f64 b = some b ∧ rung FloatKind.f64.format b = b := by
  have hr : rung FloatKind.f64.format b = b := Nat.mod_eq_of_lt (show b < 9223372036854775808 by omega)
  exact ⟨cls_of_le (by rw [hr]; exact h), hr⟩
theorem sgn_pos {b : Nat} (h : b < 9223372036854775808) : sgn FloatKind.f64.format b = false := by
  have : b / FloatKind.f64.format.signWeight = 0 := Nat.div_eq_of_lt h
  unfold sgn; rw [this]; rfl
theorem ford_pos {a b : Nat} (ha : a ≤ 9218868437227405312) (hb : b ≤ 9218868437227405312) : ford .f64 (cls .f64 a) (cls .f64 b) = some (compare (a : Int) b) := by
  obtain ⟨a1, a2⟩ := cls_pos ha
  obtain ⟨b1, b2⟩ := cls_pos hb
  rw [a1, b1, ford_some (by rw [a2]; exact ha) (by rw [b2]; exact hb)]
  have sa := sgn_pos (b := a) (by omega)
  have sb := sgn_pos (b := b) (by omega)
  unfold srung
  rw [sa, sb, a2, b2]; rfl
theorem ge_pos {a b : Nat} (ha : a ≤ 9218868437227405312) (hb : b ≤ 9218868437227405312) : (ford .f64 (cls .f64 a) (cls .f64 b) == some .gt || ford .f64 (cls .f64 a) (cls .f64 b) == some .eq) = decide (b ≤ a) := by
  rw [ford_pos ha hb]
  rcases (by omega : a < b ∨ a = b ∨ b < a) with h | h | h
  · have e : compare (a : Int) b = .lt := Int.compare_eq_lt.2 (by omega)
    rw [e]; simp; omega
  · have e : compare (a : Int) b = .eq := Int.compare_eq_eq.2 (by omega)
    rw [e]; simp; omega
  · have e : compare (a : Int) b = .gt := Int.compare_eq_gt.2 (by omega)
    rw [e]; simp; omega
theorem lt_pos {a b : Nat} (ha : a ≤ 9218868437227405312) (hb : b ≤ 9218868437227405312) : (ford .f64 (cls .f64 a) (cls .f64 b) == some .lt) = decide (a < b) := by
  rw [ford_pos ha hb]
  rcases (by omega : a < b ∨ a = b ∨ b < a) with h | h | h
  · have e : compare (a : Int) b = .lt := Int.compare_eq_lt.2 (by omega)
    rw [e]; simp; omega
  · have e : compare (a : Int) b = .eq := Int.compare_eq_eq.2 (by omega)
    rw [e]; simp; omega
  · have e : compare (a : Int) b = .gt := Int.compare_eq_gt.2 (by omega)
    rw [e]; simp; omega
theorem read_norm {b : Nat} (h1 : 4503599627370496 ≤ b) (h2 : b < 9218868437227405312) :
    FloatKind.f64.format.read b = .number false (4503599627370496 + b % 4503599627370496) (-1074 + (b / 4503599627370496 - 1 : Nat)) := by
  have hr := (cls_pos (Nat.le_of_lt h2)).2
  have sb : (b / FloatKind.f64.format.signWeight % 2 == 1) = false := sgn_pos (by omega)
  unfold Format.read
  unfold rung at hr
  have e1 : FloatKind.f64.format.binade = 4503599627370496 := rfl
  have e2 : FloatKind.f64.format.infRung = 9218868437227405312 := rfl
  have e3 : FloatKind.f64.format.leastPlace = -1074 := rfl
  rw [e1, e2, e3]
  simp only [hr]
  rw [if_neg (by omega), if_pos h2, sb]
theorem word_pos (r : Nat) : FloatKind.f64.format.word false r = r := rfl
theorem rval_norm {b : Nat} (h1 : 4503599627370496 ≤ b) : rval FloatKind.f64.format b = (4503599627370496 + b % 4503599627370496) * 2 ^ (b / 4503599627370496 - 1) := by
  unfold rval
  have e1 : FloatKind.f64.format.binade = 4503599627370496 := rfl
  rw [e1, if_neg (by omega)]
theorem half_word {b : Nat} (h1 : 9007199254740992 ≤ b) (h2 : b < 9218868437227405312) : fop .quo .f64 (cls .f64 b) (cls .f64 4611686018427387904) = cls .f64 (b - 4503599627370496) := by
  rw [(cls_pos (Nat.le_of_lt h2)).1, (cls_pos (b := 4611686018427387904) (by decide)).1, (cls_pos (b := b - 4503599627370496) (by omega)).1]
  show FloatKind.f64.format.div b 4611686018427387904 = _
  unfold Format.div
  rw [read_norm (by omega) h2, read_norm (b := 4611686018427387904) (by decide) (by decide)]
  have hmod : b % 4503599627370496 < 4503599627370496 := Nat.mod_lt _ (by decide)
  have hlog : (4503599627370496 + b % 4503599627370496).log2 = 52 := by
    apply Nat.le_antisymm
    · have : (4503599627370496 + b % 4503599627370496).log2 < 53 := by
        rw [Nat.log2_lt (by omega)]; omega
      omega
    · rw [Nat.le_log2 (by omega)]; omega
  have hr := rungOf_rval (f := FloatKind.f64.format) (r := b - 4503599627370496) (show b - 4503599627370496 ≤ 9218868437227405312 by omega)
  have hv := rval_norm (b := b - 4503599627370496) (by omega)
  have hm : (b - 4503599627370496) % 4503599627370496 = b % 4503599627370496 := by omega
  have hd : (b - 4503599627370496) / 4503599627370496 - 1 = b / 4503599627370496 - 2 := by omega
  rw [hm, hd] at hv
  rw [hv] at hr
  generalize hM : 4503599627370496 + b % 4503599627370496 = M at *
  have e4 : 4503599627370496 + 4611686018427387904 % 4503599627370496 = 4503599627370496 := by decide
  have e5 : (4503599627370496 : Nat).log2 = 52 := by decide +kernel
  have e6 : FloatKind.f64.format.fractionBits = 52 := rfl
  rw [e4]
  simp only [Datum.quotient, e5, e6, hlog]
  rw [if_neg (by decide), Nat.shiftLeft_eq]
  have e7 : M * 2 ^ (52 + 2 + 52 - 52) = M * 4 * 4503599627370496 := by rw [Nat.mul_assoc]
  rw [e7, Nat.mul_div_cancel _ (by decide), Nat.mul_mod_left]
  show (some (FloatKind.f64.format.nearest _ _ _) : Option Nat) = _
  rw [nearest_eq]
  show some (FloatKind.f64.format.word false _) = _
  rw [word_pos]
  refine congrArg some ?_
  rw [← hr]
  apply rungOf_eq2 (b := -1080) (by omega) (by decide)
  have e8 : FloatKind.f64.format.leastPlace = -1074 := rfl
  rw [e8]
  have e9 : (2 * (M * 4) + (0 != 0).toNat) = M * 2 ^ 3 := by show 2 * (M * 4) + 0 = _; omega
  rw [e9, Nat.mul_assoc, Nat.mul_assoc, ← Nat.pow_add, ← Nat.pow_add]
  have e10 : ((4611686018427387904 / 4503599627370496 - 1 : Nat) : Int) = 1023 := by decide
  rw [e10]
  apply congrArg (fun n => M * 2 ^ n)
  omega
theorem double_word {b : Nat} (h1 : 4503599627370496 ≤ b) (h2 : b < 9214364837600034816) : fop .mul .f64 (cls .f64 b) (cls .f64 4611686018427387904) = cls .f64 (b + 4503599627370496) := by
  have c1 := cls_pos (b := b) (by omega)
  have c3 := cls_pos (b := b + 4503599627370496) (by omega)
  rw [c1.1, (cls_pos (b := 4611686018427387904) (by decide)).1, c3.1]
  show FloatKind.f64.format.mul b 4611686018427387904 = _
  rw [mul_fin (by rw [c1.2]; show b < 9218868437227405312; omega) (by decide +kernel), c1.2]
  have s1 := sgn_pos (b := b) (by omega)
  have s2 : sgn FloatKind.f64.format 4611686018427387904 = false := by decide +kernel
  rw [s1, s2]
  show some (FloatKind.f64.format.word false _) = _
  rw [word_pos]
  refine congrArg some ?_
  have hr := rungOf_rval (f := FloatKind.f64.format) (r := b + 4503599627370496) (show b + 4503599627370496 ≤ 9218868437227405312 by omega)
  have hv := rval_norm (b := b + 4503599627370496) (by omega)
  have hv1 := rval_norm (b := b) (by omega)
  have hm : (b + 4503599627370496) % 4503599627370496 = b % 4503599627370496 := by omega
  have hd : (b + 4503599627370496) / 4503599627370496 - 1 = (b / 4503599627370496 - 1) + 1 := by omega
  rw [hm, hd, Nat.pow_succ, ← Nat.mul_assoc, ← hv1] at hv
  rw [hv] at hr
  have e8 : rval FloatKind.f64.format (rung FloatKind.f64.format 4611686018427387904) = 2 * 2 ^ 1074 := by decide +kernel
  rw [e8]
  refine Eq.trans ?_ hr
  apply rungOf_eq2 (b := -2148) (by decide) (by decide)
  have e9 : FloatKind.f64.format.leastPlace = -1074 := rfl
  rw [e9]
  have x1 : (-1074 + -1074 - -2148 : Int).toNat = 0 := by decide
  have x2 : (-1074 - -2148 : Int).toNat = 1074 := by decide
  rw [x1, x2, Nat.pow_zero, Nat.mul_one, Nat.mul_assoc]
theorem half_word' {b z : Nat} (h : z + 4503599627370496 = b) (h1 : 4503599627370496 ≤ z) (h2 : b < 9218868437227405312) (τ : Tp .f64) : rep .f64 (fop .quo .f64 (cls .f64 b) (cls .f64 4611686018427387904)) τ = z := by
  have e := half_word (b := b) (by omega) h2
  rw [show b - 4503599627370496 = z by omega] at e
  rw [e, (cls_pos (b := z) (by omega)).1, rep_some]
theorem double_word' {b z : Nat} (h : z = b + 4503599627370496) (h1 : 4503599627370496 ≤ b) (h2 : b < 9214364837600034816) (τ : Tp .f64) : rep .f64 (fop .mul .f64 (cls .f64 b) (cls .f64 4611686018427387904)) τ = z := by
  have e := double_word (b := b) h1 h2
  rw [← h] at e
  rw [e, (cls_pos (b := z) (by omega)).1, rep_some]
theorem ln_up : ∀ m : Nat, m < 400 → fop .add .f64 (cls .f64 (floatOfInt .f64 ((m : Int) - 200))) (cls .f64 4607182418800017408) = cls .f64 (floatOfInt .f64 ((m : Int) - 200 + 1)) := by decide +kernel
theorem ln_down : ∀ m : Nat, m < 400 → fop .sub .f64 (cls .f64 (floatOfInt .f64 ((m : Int) - 200))) (cls .f64 4607182418800017408) = cls .f64 (floatOfInt .f64 ((m : Int) - 200 - 1)) := by decide +kernel
theorem ln_up' (n : Int) (h1 : -200 ≤ n) (h2 : n < 200) : fop .add .f64 (cls .f64 (floatOfInt .f64 n)) (cls .f64 4607182418800017408) = cls .f64 (floatOfInt .f64 (n + 1)) := by
  have := ln_up (n + 200).toNat (by omega)
  rwa [show (((n + 200).toNat : Nat) : Int) - 200 = n by omega] at this
theorem ln_down' (n : Int) (h1 : -200 ≤ n) (h2 : n < 200) : fop .sub .f64 (cls .f64 (floatOfInt .f64 n)) (cls .f64 4607182418800017408) = cls .f64 (floatOfInt .f64 (n - 1)) := by
  have := ln_down (n + 200).toNat (by omega)
  rwa [show (((n + 200).toNat : Nat) : Int) - 200 = n by omega] at this
end Flt
namespace Go.Proofs.Ytmpeogpmlgnmfaa
open Go.RowKit Flt
set_option exponentiation.threshold 3000

/-- the word of a float -/
def floatOf : Value → Nat
  | .float _ n => n
  | _ => 0
def lnM1 (v : Value) : Nat := floatOf v / 4503599627370496
def lnM2 (v : Value) : Nat := 3000 - floatOf v / 4503599627370496
def lnK (j : Nat) : Option Nat := cls .f64 (floatOfInt .f64 (25 - 2 * (j : Int)))
def lnS (c : Option Nat) : Option Nat := fop .quo .f64 (fop .sub .f64 c (cls .f64 4607182418800017408)) (fop .add .f64 c (cls .f64 4607182418800017408))
/-- the sum after some rounds, k from 25 down by two -/
def lnQ (u : Option Nat) : Nat → Option Nat
  | 0 => cls .f64 0
  | j + 1 => fop .add .f64 (fop .quo .f64 (cls .f64 4607182418800017408) (lnK j)) (fop .mul .f64 u (lnQ u j))
/-- the logarithm of 2^n times a number -/
def lnC (Y : Nat) (n : Int) : Option Nat :=
  fop .add .f64 (fop .mul .f64 (cls .f64 4611686018427387904) (fop .mul .f64 (lnS (cls .f64 Y)) (lnQ (fop .mul .f64 (lnS (cls .f64 Y)) (lnS (cls .f64 Y))) 13))) (fop .mul .f64 (cls .f64 (floatOfInt .f64 n)) (cls .f64 4604418534313441775))
theorem lnK_test : ∀ j : Nat, j < 13 → (ford .f64 (lnK j) (cls .f64 4607182418800017408) == some .gt || ford .f64 (lnK j) (cls .f64 4607182418800017408) == some .eq) = true := by decide +kernel
theorem lnK_stop : (ford .f64 (lnK 13) (cls .f64 4607182418800017408) == some .gt || ford .f64 (lnK 13) (cls .f64 4607182418800017408) == some .eq) = false := by decide +kernel
theorem lnK_next : ∀ j : Nat, j < 13 → fop .sub .f64 (lnK j) (cls .f64 4611686018427387904) = lnK (j + 1) := by decide +kernel
theorem lnK_zero : cls .f64 4627730092099895296 = lnK 0 := by decide +kernel

set_option maxRecDepth 100000 in
set_option maxHeartbeats 2000000 in
theorem naturalLog_any (b : Nat) (w : World) (h1 : 3936146074321813504 ≤ b) (h2 : b ≤ 5183643171103440896) :
    Calls Try.prog 45 #[.float .f64 b] w fun e w' => ∃ (r Y : Nat) (n : Int), e = .returned (.float .f64 r) ∧ cls .f64 r = lnC Y n ∧ (Y : Int) + n * 4503599627370496 = b ∧ 4604930618986332160 ≤ Y ∧ Y < 4609434218613702656 ∧ Drew w w' := by
  go_enter Try.func45, Try.ntmps45
  have hB1 := Lib.hid h1
  have hB2 := Lib.hid h2
  clear h1 h2
  go_wp2
  go_loopw [0, 3] (fun y e wr => ∃ (Y eb : Nat) (n : Int), y = .float .f64 Y ∧ e = .float .f64 eb ∧ cls .f64 eb = cls .f64 (floatOfInt .f64 n) ∧ (Y : Int) + n * 4503599627370496 = b ∧ 0 ≤ n ∧ (n = 0 ∨ 4604930618986332160 ≤ Y) ∧ Drew w wr) (fun y _ _ => lnM1 y)
  case atStart => exact ⟨b, 0, 0, rfl, rfl, by decide +kernel, by omega, by omega, .inl rfl, Drew.refl _⟩
  case round =>
    obtain ⟨Y, eb, n, rfl, rfl, he, hy, hn0, hlow, hwr⟩ := hrel
    have := hB1.out
    have := hB2.out
    have ht := ge_pos (a := Y) (b := 4609434218613702656) (by omega) (by decide)
    have HE := Lib.hid he
    have HW := Lib.hid hwr
    by_cases hge : 4609434218613702656 ≤ Y
    · rw [decide_eq_true hge] at ht
      obtain ⟨Z, hZ⟩ : ∃ Z, Z + 4503599627370496 = Y := ⟨Y - 4503599627370496, by omega⟩
      have hhalf := half_word' hZ (by omega) (by omega)
      have HZ := Lib.hid hZ
      have HU := Lib.hid (ln_up' n (by omega) (by omega))
      have HX := Lib.hid (And.intro hge (And.intro hy (And.intro hn0 (And.intro (show Y ≤ 9218868437227405312 by omega) hlow))))
      clear he hy hn0 hlow hwr hge this hZ
      go_wp2_with (first | (refine wpList_fop rfl .quo _ _ _ _ rfl rfl .f64 _ _ rfl rfl ?_; intro τ q; rw [hhalf τ]) | (refine wpList_fop rfl .add _ _ _ _ rfl rfl .f64 _ _ rfl rfl ?_; intro τ q))
      go_roundw
      case rel =>
        obtain ⟨x1, x2, x3, x4, x5⟩ := HX.out
        have := HZ.out
        exact ⟨Z, _, n + 1, rfl, rfl, (cls_rep' (nn_fop _ _ _ _) _).trans (by rw [HE.out, HU.out]), by omega, by omega, .inr (by omega), by repeat (first | exact HW.out | refine Drew.drewN ?_ _ | refine Drew.drew ?_)⟩
      case measure => have := HX.out; have := HZ.out; show Z / 4503599627370496 < Y / 4503599627370496; omega
    · rw [decide_eq_false hge] at ht
      have HX := Lib.hid (And.intro hge (And.intro hy (And.intro hn0 hlow)))
      have hb1 := hB1.out
      have hb2 := hB2.out
      clear he hy hn0 hlow hwr hge this
      clear hB1 hB2
      have hB := Lib.hid (And.intro hb1 hb2)
      clear hb1 hb2
      go_wp2
      go_loopw [0, 3] (fun y e wr => ∃ (Y eb : Nat) (n : Int), y = .float .f64 Y ∧ e = .float .f64 eb ∧ cls .f64 eb = cls .f64 (floatOfInt .f64 n) ∧ (Y : Int) + n * 4503599627370496 = b ∧ Y < 4609434218613702656 ∧ 3936146074321813504 ≤ Y ∧ (n ≤ 0 ∨ 4604930618986332160 ≤ Y) ∧ Drew w wr) (fun y _ _ => lnM2 y)
      case atStart =>
        obtain ⟨x1, x2, x3, x5⟩ := HX.out
        obtain ⟨y1, y2⟩ := hB.out
        exact ⟨Y, eb, n, rfl, rfl, HE.out, x2, by omega, by omega, by omega, by repeat (first | exact HW.out | refine Drew.drewN ?_ _ | refine Drew.drew ?_)⟩
      case round =>
        obtain ⟨Z, fb, m, rfl, rfl, he, hz, hz1, hz2, hlow, hwr⟩ := hrel
        obtain ⟨y1, y2⟩ := hB.out
        have ht := lt_pos (a := Z) (b := 4604930618986332160) (by omega) (by decide)
        have HF := Lib.hid he
        have HV := Lib.hid hwr
        clear HE HW HX
        by_cases hlt : Z < 4604930618986332160
        · rw [decide_eq_true hlt] at ht
          obtain ⟨V, hZ⟩ : ∃ V, V = Z + 4503599627370496 := ⟨_, rfl⟩
          have hdbl := double_word' hZ (by omega) (by omega)
          have HZ := Lib.hid hZ
          have HU := Lib.hid (ln_down' m (by omega) (by omega))
          have HX := Lib.hid (And.intro hlt (And.intro hz (And.intro hz1 (And.intro hz2 hlow))))
          clear he hz hz1 hz2 hlow hwr hlt y1 y2 hZ
          go_wp2_with (first | (refine wpList_fop rfl .mul _ _ _ _ rfl rfl .f64 _ _ rfl rfl ?_; intro τ q; rw [hdbl τ]) | (refine wpList_fop rfl .sub _ _ _ _ rfl rfl .f64 _ _ rfl rfl ?_; intro τ q))
          go_roundw
          case rel =>
            obtain ⟨x1, x2, x3, x4, x5⟩ := HX.out
            have := HZ.out
            exact ⟨V, _, m - 1, rfl, rfl, (cls_rep' (nn_fop _ _ _ _) _).trans (by rw [HF.out, HU.out]), by omega, by omega, by omega, by omega, by repeat (first | exact HV.out | refine Drew.drewN ?_ _ | refine Drew.drew ?_)⟩
          case measure => have := HX.out; have := HZ.out; show 3000 - V / 4503599627370496 < 3000 - Z / 4503599627370496; omega
        · rw [decide_eq_false hlt] at ht
          have HX := Lib.hid (And.intro hlt (And.intro hz (And.intro hz1 (And.intro hz2 hlow))))
          clear he hz hz1 hz2 hlow hwr hlt y1 y2 hB
          go_wp2_with (first | (refine wpList_fop rfl .sub _ _ _ _ rfl rfl .f64 _ _ rfl rfl ?_; intro τ q) | (refine wpList_fop rfl .mul _ _ _ _ rfl rfl .f64 _ _ rfl rfl ?_; intro τ q) | (refine wpList_fop rfl .add _ _ _ _ rfl rfl .f64 _ _ rfl rfl ?_; intro τ q) | (refine wpList_fop rfl .quo _ _ _ _ rfl rfl .f64 _ _ rfl rfl ?_; intro τ q))
          have HU := Lib.hid (show (fop .mul .f64 (lnS (cls .f64 Z)) (lnS (cls .f64 Z))) = fop .mul .f64 (fop .quo .f64 (fop .sub .f64 (cls .f64 Z) (cls .f64 4607182418800017408)) (fop .add .f64 (cls .f64 Z) (cls .f64 4607182418800017408))) (fop .quo .f64 (fop .sub .f64 (cls .f64 Z) (cls .f64 4607182418800017408)) (fop .add .f64 (cls .f64 Z) (cls .f64 4607182418800017408))) from rfl)
          go_loopg [6, 7] 13 (fun gk p k wr => ∃ (j pb kb : Nat), gk + j = 13 ∧ p = .float .f64 pb ∧ k = .float .f64 kb ∧ cls .f64 kb = lnK j ∧ cls .f64 pb = lnQ (fop .mul .f64 (lnS (cls .f64 Z)) (lnS (cls .f64 Z))) j ∧ Drew w wr)
          case atStart => exact ⟨0, _, _, rfl, rfl, rfl, lnK_zero, rfl, by repeat (first | exact HV.out | refine Drew.drewN ?_ _ | refine Drew.drew ?_)⟩
          case round =>
            obtain ⟨j, pb, kb, hj, rfl, rfl, hk, hp, hwr⟩ := hrel
            have HP := Lib.hid hp
            have HW := Lib.hid hwr
            have HK := Lib.hid hk
            clear hp hwr
            by_cases hlt : j < 13
            · have ht := lnK_test j hlt
              rw [← hk] at ht
              have HN := Lib.hid (lnK_next j hlt)
              have HJ := Lib.hid hj
              have HL := Lib.hid hlt
              clear hj hlt hk
              go_wp2_with (first | (refine wpList_fop rfl .sub _ _ _ _ rfl rfl .f64 _ _ rfl rfl ?_; intro τ q) | (refine wpList_fop rfl .mul _ _ _ _ rfl rfl .f64 _ _ rfl rfl ?_; intro τ q) | (refine wpList_fop rfl .add _ _ _ _ rfl rfl .f64 _ _ rfl rfl ?_; intro τ q) | (refine wpList_fop rfl .quo _ _ _ _ rfl rfl .f64 _ _ rfl rfl ?_; intro τ q))
              go_roundg (gk - 1)
              case measure => have := HJ.out; have := HL.out; omega
              case rel => exact ⟨j + 1, _, _, by have := HJ.out; have := HL.out; omega, rfl, rfl, (cls_rep' (nn_fop _ _ _ _) _).trans (by rw [HK.out]; exact HN.out), (cls_rep' (nn_fop _ _ _ _) _).trans (by rw [lnQ, ← HK.out, ← HP.out, HU.out]), by repeat (first | exact HW.out | refine Drew.drewN ?_ _ | refine Drew.drew ?_)⟩
            · obtain rfl : j = 13 := by omega
              have ht := lnK_stop
              rw [← hk] at ht
              clear hlt hj hk
              go_wp2_with (first | (refine wpList_fop rfl .sub _ _ _ _ rfl rfl .f64 _ _ rfl rfl ?_; intro τ q) | (refine wpList_fop rfl .mul _ _ _ _ rfl rfl .f64 _ _ rfl rfl ?_; intro τ q) | (refine wpList_fop rfl .add _ _ _ _ rfl rfl .f64 _ _ rfl rfl ?_; intro τ q) | (refine wpList_fop rfl .quo _ _ _ _ rfl rfl .f64 _ _ rfl rfl ?_; intro τ q))
              go_ret
              obtain ⟨x1, x2, x3, x4, x5⟩ := HX.out
              exact ⟨_, Z, m, rfl, (cls_rep' (nn_fop _ _ _ _) _).trans (by rw [HP.out, HF.out]; rfl), x2, by omega, x3, by repeat (first | exact HW.out | refine Drew.drewN ?_ _ | refine Drew.drew ?_)⟩
theorem isInf_fin (b : Nat) (w : World) (h : b < 9218868437227405312) :
    Calls Try.prog 64 #[.float .f64 b, .int .i64 1] w fun e w' => e = .returned (.bool false) ∧ w = w' := by
  have ht : (ford .f64 (cls .f64 b) (cls .f64 9218868437227405311) == some .gt) = false := by
    rw [ford_pos (by omega) (by omega)]
    rcases (by omega : b < 9218868437227405311 ∨ b = 9218868437227405311) with h | h
    · have e : compare (b : Int) ((9218868437227405311 : Nat) : Int) = .lt := Int.compare_eq_lt.2 (by omega)
      rw [e]; rfl
    · have e : compare (b : Int) ((9218868437227405311 : Nat) : Int) = .eq := Int.compare_eq_eq.2 (by omega)
      rw [e]; rfl
  clear h
  go_enter Try.func64, Try.ntmps64
  go_wp2
  go_ret
  exact ⟨rfl, rfl⟩
theorem wrap_up (n : Int) (h1 : -200 ≤ n) (h2 : n < 200) : wrap64 (n + 1) = n + 1 := by unfold wrap64; omega
theorem wrap_down (n : Int) (h1 : -200 ≤ n) (h2 : n < 200) : wrap64 (n - 1) = n - 1 := by unfold wrap64; omega
theorem wrap_two (j : Nat) (h : j < 13) : wrap64 (25 - 2 * (j : Int) - 2) = 25 - 2 * (j : Int) - 2 := by unfold wrap64; omega
end Go.Proofs.Ytmpeogpmlgnmfaa
