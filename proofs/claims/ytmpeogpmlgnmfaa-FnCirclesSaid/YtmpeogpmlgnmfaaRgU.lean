/- The tenths of sixty-fourths: those of a product are the sum of those of its factors, but for one. -/
import Derived.Test.YtmpeogpmlgnmfaaRgT
namespace Flt
open Go Ieee Go.Proofs.Ytmpeogpmlgnmfaa
set_option exponentiation.threshold 20000

theorem log2_mono {a b : Nat} (h : a ≤ b) : a.log2 ≤ b.log2 := by
  rcases Nat.eq_zero_or_pos a with h0 | h0
  · subst h0
    simp
  · rw [Nat.le_log2 (by omega)]
    exact Nat.le_trans (Nat.log2_self_le (by omega)) h
theorem lg_mono {a b : Nat} (h : a ≤ b) : lg a ≤ lg b := log2_mono (Nat.pow_le_pow_left h 1024)
theorem lg_pow {a : Nat} (e : Nat) (h : 0 < a) : lg (a * 2 ^ e) = lg a + 1024 * e := by
  unfold lg
  have hp : 0 < a ^ 1024 := Nat.pow_pos h
  rw [Nat.mul_pow, ← Nat.pow_mul, Nat.mul_comm e 1024]
  generalize 1024 * e = k
  generalize a ^ 1024 = X at *
  have hk := Nat.two_pow_pos k
  have : (X * 2 ^ k) / 2 ^ k = X := Nat.mul_div_cancel _ hk
  have h2 := log2_div (X := X * 2 ^ k) (k := k) (Nat.le_mul_of_pos_left _ hp)
  rw [this] at h2
  omega
theorem lg_mul {a b : Nat} (ha : 0 < a) (hb : 0 < b) : lg a + lg b ≤ lg (a * b) ∧ lg (a * b) ≤ lg a + lg b + 1 := by
  unfold lg
  rw [Nat.mul_pow]
  have h1 : 0 < a ^ 1024 := Nat.pow_pos ha
  have h2 : 0 < b ^ 1024 := Nat.pow_pos hb
  generalize a ^ 1024 = X at *
  generalize b ^ 1024 = Y at *
  have h3 := Nat.mul_pos h1 h2
  constructor
  · rw [Nat.le_log2 (by omega), Nat.pow_add]
    exact Nat.mul_le_mul (Nat.log2_self_le (by omega)) (Nat.log2_self_le (by omega))
  · have : X * Y < 2 ^ (X.log2 + Y.log2 + 1 + 1) := by
      rw [show X.log2 + Y.log2 + 1 + 1 = (X.log2 + 1) + (Y.log2 + 1) by omega, Nat.pow_add]
      exact Nat.mul_lt_mul'' Nat.lt_log2_self Nat.lt_log2_self
    have := (Nat.log2_lt (by omega)).2 this
    omega
/-- a positive word of N sixty-fourths, taken apart -/
theorem word_parts {y N : Nat} (h1 : 4503599627370496 ≤ y) (h2 : y < 9218868437227405312) (hv : rval FloatKind.f64.format y * 2 ^ 6 = N * 2 ^ 1074) (hN : 0 < N) (hN2 : N < 65536) :
    ∃ c e : Nat, 768 ≤ c ∧ c < 1536 ∧ Rg .f64 40 (cls .f64 (yOf y)) ((c : Int) * 1073741824) (((c + 1 : Nat) : Int) * 1073741824) ∧ nOf y = (e : Int) - 6 ∧ e ≤ 16 ∧ c * 2 ^ e ≤ N * 2 ^ 10 ∧ N * 2 ^ 10 ≤ (c + 1) * 2 ^ e := by
  obtain ⟨E, M, hE, hM1, hM2, hy⟩ : ∃ E M : Nat, 1 ≤ E ∧ 4503599627370496 ≤ M ∧ M < 9007199254740992 ∧ (y = E * 4503599627370496 + (M - 4503599627370496) ∧ rval FloatKind.f64.format y = M * 2 ^ (E - 1)) :=
    ⟨y / 4503599627370496, 4503599627370496 + y % 4503599627370496, by omega, by omega, by omega, by omega, rval_norm h1⟩
  obtain ⟨hy1, hy2⟩ := hy
  rw [hy2, Nat.mul_assoc, ← Nat.pow_add] at hv
  -- the place
  have b1 : 1017 ≤ E := by
    rcases Nat.lt_or_ge E 1017 with h | h
    · exfalso
      have : M * 2 ^ (E - 1 + 6) < 2 ^ 53 * 2 ^ 1021 := by
        calc M * 2 ^ (E - 1 + 6) ≤ M * 2 ^ 1021 := Nat.mul_le_mul_left _ (Nat.pow_le_pow_right (by omega) (by omega))
          _ < 2 ^ 53 * 2 ^ 1021 := Nat.mul_lt_mul_of_pos_right hM2 (Nat.two_pow_pos _)
      rw [hv, ← Nat.pow_add] at this
      have h3 : 1 * 2 ^ 1074 ≤ N * 2 ^ 1074 := Nat.mul_le_mul_right _ hN
      rw [Nat.one_mul] at h3
      exact absurd this (by show ¬ N * 2 ^ 1074 < 2 ^ 1074; omega)
    · exact h
  have b2 : E ≤ 1032 := by
    rcases Nat.lt_or_ge 1032 E with h | h
    · exfalso
      have : 2 ^ 52 * 2 ^ 1038 ≤ M * 2 ^ (E - 1 + 6) := Nat.mul_le_mul hM1 (Nat.pow_le_pow_right (by omega) (by omega))
      rw [hv, ← Nat.pow_add, show 52 + 1038 = 16 + 1074 by rfl, Nat.pow_add] at this
      have := Nat.le_of_mul_le_mul_right this (Nat.two_pow_pos _)
      omega
    · exact h
  rcases Nat.lt_or_ge M 6755399441055744 with hM | hM
  · -- from 1 to 1.5
    have hn : nOf y = (E : Int) - 1023 := by unfold nOf; omega
    have hY : yOf y = 1023 * 4503599627370496 + (M - 4503599627370496) := by unfold yOf; rw [hn]; omega
    have hr : rval FloatKind.f64.format (yOf y) = M * 2 ^ 1022 := by
      rw [rval_norm (by rw [hY]; omega), hY, show 4503599627370496 + (1023 * 4503599627370496 + (M - 4503599627370496)) % 4503599627370496 = M by omega, show (1023 * 4503599627370496 + (M - 4503599627370496)) / 4503599627370496 - 1 = 1022 by omega]
    refine ⟨M / 4398046511104, E - 1017, by omega, by omega, ?_, by rw [hn]; omega, by omega, ?_, ?_⟩
    · have hc := cls_pos (b := yOf y) (by rw [hY]; omega)
      refine ⟨yOf y, hc.1, by rw [hc.2, hY]; show _ < 9218868437227405312; omega, by rw [hY]; show _ < 18446744073709551616; omega, ?_⟩
      have hsv : sval FloatKind.f64.format (yOf y) = ((M * 2 ^ 1022 : Nat) : Int) := by
        unfold sval
        rw [sgn_pos (by rw [hY]; omega), hc.2, hr]
        rfl
      rw [hsv]
      have eU : U .f64 = 1074 := by decide
      rw [eU]
      have e1 : (2 ^ 1074 : Nat) = 2 ^ 1022 * 4503599627370496 := by decide +kernel
      have e2 : (2 ^ 40 : Nat) = 1099511627776 := by decide
      rw [e1, e2, Int.natCast_mul, Int.natCast_mul]
      have hT : (0 : Int) < ((2 ^ 1022 : Nat) : Int) := by decide +kernel
      generalize ((2 ^ 1022 : Nat) : Int) = T at *
      have f1 : ∀ z : Int, z * 1073741824 * (T * ((4503599627370496 : Nat) : Int)) = z * 4835703278458516698824704 * T := fun z => by
        rw [← Int.mul_assoc, Int.mul_right_comm, Int.mul_assoc z]
        rfl
      have f2 : (M : Int) * T * ((1099511627776 : Nat) : Int) = (M : Int) * 1099511627776 * T := Int.mul_right_comm _ _ _
      rw [f1, f1, f2]
      exact ⟨Int.mul_le_mul_of_nonneg_right (by omega) (Int.le_of_lt hT), Int.mul_le_mul_of_nonneg_right (by omega) (Int.le_of_lt hT)⟩
    · apply Nat.le_of_mul_le_mul_right (c := 2 ^ 1064) _ (Nat.two_pow_pos _)
      rw [Nat.mul_assoc N, ← Nat.pow_add, ← hv, Nat.mul_assoc, ← Nat.pow_add, show E - 1017 + 1064 = 42 + (E - 1 + 6) by omega, Nat.pow_add 2 42, ← Nat.mul_assoc]
      exact Nat.mul_le_mul_right _ (by show M / 4398046511104 * 4398046511104 ≤ M; omega)
    · apply Nat.le_of_mul_le_mul_right (c := 2 ^ 1064) _ (Nat.two_pow_pos _)
      rw [Nat.mul_assoc N, ← Nat.pow_add, ← hv, Nat.mul_assoc (_ + 1), ← Nat.pow_add, show E - 1017 + 1064 = 42 + (E - 1 + 6) by omega, Nat.pow_add 2 42, ← Nat.mul_assoc]
      exact Nat.mul_le_mul_right _ (by show M ≤ (M / 4398046511104 + 1) * 4398046511104; omega)
  · -- from 0.75 to 1
    have hn : nOf y = (E : Int) - 1022 := by unfold nOf; omega
    have hY : yOf y = 1022 * 4503599627370496 + (M - 4503599627370496) := by unfold yOf; rw [hn]; omega
    have hr : rval FloatKind.f64.format (yOf y) = M * 2 ^ 1021 := by
      rw [rval_norm (by rw [hY]; omega), hY, show 4503599627370496 + (1022 * 4503599627370496 + (M - 4503599627370496)) % 4503599627370496 = M by omega, show (1022 * 4503599627370496 + (M - 4503599627370496)) / 4503599627370496 - 1 = 1021 by omega]
    refine ⟨M / 8796093022208, E - 1016, by omega, by omega, ?_, by rw [hn]; omega, by omega, ?_, ?_⟩
    · have hc := cls_pos (b := yOf y) (by rw [hY]; omega)
      refine ⟨yOf y, hc.1, by rw [hc.2, hY]; show _ < 9218868437227405312; omega, by rw [hY]; show _ < 18446744073709551616; omega, ?_⟩
      have hsv : sval FloatKind.f64.format (yOf y) = ((M * 2 ^ 1021 : Nat) : Int) := by
        unfold sval
        rw [sgn_pos (by rw [hY]; omega), hc.2, hr]
        rfl
      rw [hsv]
      have eU : U .f64 = 1074 := by decide
      rw [eU]
      have e1 : (2 ^ 1074 : Nat) = 2 ^ 1021 * 9007199254740992 := by decide +kernel
      have e2 : (2 ^ 40 : Nat) = 1099511627776 := by decide
      rw [e1, e2, Int.natCast_mul, Int.natCast_mul]
      have hT : (0 : Int) < ((2 ^ 1021 : Nat) : Int) := by decide +kernel
      generalize ((2 ^ 1021 : Nat) : Int) = T at *
      have f1 : ∀ z : Int, z * 1073741824 * (T * ((9007199254740992 : Nat) : Int)) = z * 9671406556917033397649408 * T := fun z => by
        rw [← Int.mul_assoc, Int.mul_right_comm, Int.mul_assoc z]
        rfl
      have f2 : (M : Int) * T * ((1099511627776 : Nat) : Int) = (M : Int) * 1099511627776 * T := Int.mul_right_comm _ _ _
      rw [f1, f1, f2]
      exact ⟨Int.mul_le_mul_of_nonneg_right (by omega) (Int.le_of_lt hT), Int.mul_le_mul_of_nonneg_right (by omega) (Int.le_of_lt hT)⟩
    · apply Nat.le_of_mul_le_mul_right (c := 2 ^ 1064) _ (Nat.two_pow_pos _)
      rw [Nat.mul_assoc N, ← Nat.pow_add, ← hv, Nat.mul_assoc, ← Nat.pow_add, show E - 1016 + 1064 = 43 + (E - 1 + 6) by omega, Nat.pow_add 2 43, ← Nat.mul_assoc]
      exact Nat.mul_le_mul_right _ (by show M / 8796093022208 * 8796093022208 ≤ M; omega)
    · apply Nat.le_of_mul_le_mul_right (c := 2 ^ 1064) _ (Nat.two_pow_pos _)
      rw [Nat.mul_assoc N, ← Nat.pow_add, ← hv, Nat.mul_assoc (_ + 1), ← Nat.pow_add, show E - 1016 + 1064 = 43 + (E - 1 + 6) by omega, Nat.pow_add 2 43, ← Nat.mul_assoc]
      exact Nat.mul_le_mul_right _ (by show M ≤ (M / 8796093022208 + 1) * 8796093022208; omega)
/-- the tenths of N sixty-fourths -/
theorem ten_sixty {b N : Nat} (h : Rg .f32 6 (some b) (N : Int) (N : Int)) (hN : 0 < N) (hN2 : N < 65536) :
    tenO b = true ∧ tenN b * 1024000 ≤ 655360 + 30103 * ((lg N : Int) - 6144) ∧ -655360 + 30103 * ((lg N : Int) - 6144) ≤ tenN b * 1024000 := by
  obtain ⟨b', e, hf, hw, a1, a2⟩ := h
  cases e
  have eU : U .f32 = 149 := by decide
  rw [eU] at a1 a2
  have hsv : sval FloatKind.f32.format b * ((2 ^ 6 : Nat) : Int) = (N : Int) * ((2 ^ 149 : Nat) : Int) := Int.le_antisymm a2 a1
  have hpos : 0 < sval FloatKind.f32.format b := by
    have e1 : ((2 ^ 6 : Nat) : Int) = 64 := by decide
    have e2 : ((2 ^ 149 : Nat) : Int) = 713623846352979940529142984724747568191373312 := by decide
    rw [e1, e2] at hsv
    omega
  have hs := (sval_sgn (f := FloatKind.f32.format) b).2 hpos
  have hrv : rval FloatKind.f32.format (rung FloatKind.f32.format b) * 2 ^ 6 = N * 2 ^ 149 := by
    have := natAbs_sval (f := FloatKind.f32.format) b
    have h3 : sval FloatKind.f32.format b = (rval FloatKind.f32.format (rung FloatKind.f32.format b) : Int) := by omega
    rw [h3] at hsv
    exact_mod_cast hsv
  have hrv2 : rval FloatKind.f32.format (rung FloatKind.f32.format b) = N * 2 ^ 143 := by
    have e3 : rval FloatKind.f32.format (rung FloatKind.f32.format b) * 2 ^ 6 = N * 2 ^ 143 * 2 ^ 6 := by rw [hrv, Nat.mul_assoc, ← Nat.pow_add]
    exact Nat.eq_of_mul_eq_mul_right (Nat.two_pow_pos 6) e3
  have hr0 : rung FloatKind.f32.format b ≠ 0 := by
    intro h0
    rw [h0, rval_zero] at hrv2
    have := Nat.mul_pos hN (Nat.two_pow_pos 143)
    omega
  have hcv : rung FloatKind.f64.format (conv .f32 .f64 b) = rungOf FloatKind.f64.format N (-6) := by
    have e5 : FloatKind.f32.format.leastPlace = (-6 : Int) - ((143 : Nat) : Int) := by decide
    rw [conv_rung hf, hrv2, e5]
    exact rungOf_scale (f := FloatKind.f64.format) N 143 (-6)
  have hsg : sgn FloatKind.f64.format (conv .f32 .f64 b) = false := by rw [conv_sgn (Nat.le_of_lt hf)]; exact hs
  have hgv := grid_val (k := .f64) (g := 6) (H := N) (by decide) (by show N < 9007199254740992; omega)
  have hwd := word_of (f := FloatKind.f64.format) (conv_lt .f32 .f64 b)
  rw [hsg, word_pos] at hwd
  have hz := zero_cmp32 (Nat.le_of_lt hf)
  rw [if_neg hr0, hs] at hz
  have hbw := word_of (f := FloatKind.f32.format) hw
  rw [hs] at hbw
  have hbr : b = rung FloatKind.f32.format b := hbw.symm
  have hto : tenO b = true := by
    unfold tenO
    rw [hz, finB_eq (nn_cls _ _), cls_of_le (Nat.le_of_lt hf)]
    show (decide _ && _) = true
    rw [decide_eq_true hf]
    rfl
  have hwp := wide_pos (b := b) (by omega) (by have : b < 2139095040 := by rw [hbr]; exact hf
                                               omega)
  generalize hy : conv .f32 .f64 b = y at *
  have hyr : rung FloatKind.f64.format y = y := hwd
  rw [show (-((6 : Nat) : Int)) = -6 by rfl, ← hcv, hyr] at hgv
  have eU2 : U .f64 = 1074 := by decide
  rw [eU2] at hgv
  obtain ⟨c, e, c1, c2, hR, hn, he, g1, g2⟩ := word_parts (by omega) hgv.1 hgv.2 hN hN2
  obtain ⟨v, k, v1, v2, v3, v4⟩ := ten_cell c1 c2 hR (n := nOf y) (by omega) (by omega)
  have hten : tenN b = k := by
    unfold tenN
    rw [if_pos hto, hy]
    have : tenC y = some v := v1
    rw [this]
    show (floatToIntVal .f64 (flr v) .i64).getD 0 = k
    rw [v2]; rfl
  have k1 := lg_mono g1
  have k2 := lg_mono g2
  rw [lg_pow _ (by omega), lg_pow _ hN] at k1
  rw [lg_pow _ hN, lg_pow _ (by omega)] at k2
  rw [hten]
  rw [hn] at v3 v4
  exact ⟨hto, by omega, by omega⟩
/-- the tenths of a product -/
theorem tens_near {x y z i j : Nat} (hx : Rg .f32 6 (some x) ((8 * i : Nat) : Int) ((8 * i : Nat) : Int)) (hy : Rg .f32 6 (some y) ((8 * j : Nat) : Int) ((8 * j : Nat) : Int)) (hz : Rg .f32 6 (some z) ((i * j : Nat) : Int) ((i * j : Nat) : Int))
    (hi : 0 < i) (hi2 : i ≤ 200) (hj : 0 < j) (hj2 : j ≤ 200) :
    tenO x = true ∧ tenO y = true ∧ tenO z = true ∧ tenN x + tenN y - tenN z ≤ 1 ∧ tenN z - tenN x - tenN y ≤ 1 := by
  have hm := Nat.mul_pos hi hj
  have hm2 : i * j ≤ 200 * 200 := Nat.mul_le_mul hi2 hj2
  obtain ⟨x1, x2, x3⟩ := ten_sixty hx (by omega) (by omega)
  obtain ⟨y1, y2, y3⟩ := ten_sixty hy (by omega) (by omega)
  obtain ⟨z1, z2, z3⟩ := ten_sixty hz (by omega) (by omega)
  have e := lg_mul (a := 8 * i) (b := 8 * j) (by omega) (by omega)
  rw [show 8 * i * (8 * j) = i * j * 2 ^ 6 by rw [Nat.mul_mul_mul_comm, Nat.mul_comm], lg_pow 6 hm] at e
  exact ⟨x1, y1, z1, by omega, by omega⟩
end Flt
