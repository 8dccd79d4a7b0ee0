/- Plain lemmas on the bits of numbers: no program in sight. -/
import Derived.Test.YtmpeogpmlgnmfaaFlt
import Derived.Laws.Bits64b
import Derived.IntWalk
namespace Flt
open Go Go.RowKit

theorem f32_sw : FloatKind.f32.format.signWeight = 2147483648 := by decide
theorem f64_sw : FloatKind.f64.format.signWeight = 9223372036854775808 := by decide
theorem f32_inf : FloatKind.f32.format.infRung = 2139095040 := by decide
theorem f64_inf : FloatKind.f64.format.infRung = 9218868437227405312 := by decide
theorem f32_width : 2 ^ FloatKind.f32.format.width = 4294967296 := by decide
theorem f64_width : 2 ^ FloatKind.f64.format.width = 18446744073709551616 := by decide

theorem bits_andNot_sign (b : Nat) (hb : b < 18446744073709551616) : bits .andNot .u64 (b : Int) 9223372036854775808 = ((b % 9223372036854775808 : Nat) : Int) := by
  have h1 : (BitVec.ofInt 64 (b : Int)).toNat = b := by
    rw [BitVec.ofInt_natCast, BitVec.toNat_ofNat]; exact Nat.mod_eq_of_lt (by omega)
  have h2 : (~~~ BitVec.ofInt 64 9223372036854775808).toNat = 2 ^ 63 - 1 := by decide
  show IntKind.u64.wrap ((BitVec.ofInt 64 (b : Int) &&& ~~~ BitVec.ofInt 64 9223372036854775808).toNat : Int) = _
  rw [BitVec.toNat_and, h1, h2, Nat.and_two_pow_sub_one_eq_mod, IntKind.wrap_u64]
  omega

theorem and_pow (b i : Nat) : b &&& 2 ^ i = b / 2 ^ i % 2 * 2 ^ i := by
  have e2 : b / 2 ^ i % 2 * 2 ^ i = (b / 2 ^ i % 2 ^ 1) <<< i := by rw [Nat.shiftLeft_eq]
  rw [e2]
  apply Nat.eq_of_testBit_eq
  intro j
  simp only [Nat.testBit_and, Nat.testBit_shiftLeft, Nat.testBit_mod_two_pow, Nat.testBit_div_two_pow, Nat.testBit_two_pow]
  by_cases h1 : i = j
  · subst h1; simp
  · by_cases h2 : i ≤ j
    · have : ¬ j - i < 1 := by omega
      simp [h1, this]
    · simp [h1, h2]

theorem bits_and_sign64 (b : Nat) (hb : b < 18446744073709551616) : bits .and .u64 (b : Int) 9223372036854775808 = ((b / 9223372036854775808 * 9223372036854775808 : Nat) : Int) := by
  have h := bits_and_u64_nat b 9223372036854775808 hb (by decide)
  have h' : bits .and .u64 (b : Int) 9223372036854775808 = ((b &&& 9223372036854775808 : Nat) : Int) := h
  rw [h']
  have e : (9223372036854775808 : Nat) = 2 ^ 63 := by decide
  rw [e, and_pow]
  congr 2
  omega

theorem bits_or_zero64 (b : Nat) (hb : b < 18446744073709551616) : bits .or .u64 0 (b : Int) = (b : Int) := by
  have h : bits .or .u64 0 (b : Int) = ((0 ||| b : Nat) : Int) := bits_or_u64_nat 0 b (by decide) hb
  rw [h, Nat.zero_or]
theorem bits_andNot_zero : bits .andNot .u64 0 9223372036854775808 = 0 := by decide

theorem bits_and_i64_nat (a b : Nat) (ha : a < 9223372036854775808) (hb : b < 9223372036854775808) : bits .and .i64 (a : Int) (b : Int) = ((a &&& b : Nat) : Int) := by
  have hx : a &&& b < 2 ^ 63 := Nat.and_lt_two_pow _ (by omega)
  have h1 : (BitVec.ofInt 64 (a : Int)).toNat = a := by
    rw [BitVec.ofInt_natCast, BitVec.toNat_ofNat]; exact Nat.mod_eq_of_lt (by omega)
  have h2 : (BitVec.ofInt 64 (b : Int)).toNat = b := by
    rw [BitVec.ofInt_natCast, BitVec.toNat_ofNat]; exact Nat.mod_eq_of_lt (by omega)
  show IntKind.i64.wrap ((BitVec.ofInt 64 (a : Int) &&& BitVec.ofInt 64 (b : Int)).toNat : Int) = _
  rw [BitVec.toNat_and, h1, h2, IntKind.wrap_i64]
  omega

theorem and_mask (a : Nat) : a &&& 2139095040 = a / 8388608 % 256 * 8388608 := by
  have e : (2139095040 : Nat) = (2 ^ 8 - 1) <<< 23 := by decide
  have e2 : a / 8388608 % 256 * 8388608 = (a / 2 ^ 23 % 2 ^ 8) <<< 23 := by rw [Nat.shiftLeft_eq]
  rw [e, e2]
  apply Nat.eq_of_testBit_eq
  intro i
  simp only [Nat.testBit_and, Nat.testBit_shiftLeft, Nat.testBit_mod_two_pow, Nat.testBit_div_two_pow, Nat.testBit_two_pow_sub_one]
  by_cases h1 : 23 ≤ i
  · have : i - 23 + 23 = i := by omega
    simp [h1, this, Bool.and_comm]
  · simp [h1]

theorem bits_mask_zero (b : Nat) (hb : b < 4294967296) : (bits .and .i64 (b : Int) 2139095040 = 0) ↔ b % 2147483648 < 8388608 := by
  have h : bits .and .i64 (b : Int) 2139095040 = ((b &&& 2139095040 : Nat) : Int) := bits_and_i64_nat b 2139095040 (by omega) (by decide)
  rw [h, and_mask]
  omega
theorem bits_sign32 (b : Nat) (hb : b < 4294967296) : bits .and .i64 (b : Int) 2147483648 = ((b / 2147483648 * 2147483648 : Nat) : Int) := by
  have h : bits .and .i64 (b : Int) 2147483648 = ((b &&& 2147483648 : Nat) : Int) := bits_and_i64_nat b 2147483648 (by omega) (by decide)
  have e : (2147483648 : Nat) = 2 ^ 31 := by decide
  rw [h]
  rw [e, and_pow]
  congr 2
  omega

theorem sgn64 (b : Nat) (hb : b < 18446744073709551616) : decide (wrap64 (b : Int) < 0) = sgn FloatKind.f64.format b := by
  unfold sgn
  rw [f64_sw]
  rw [show wrap64 (b : Int) = (((b : Int) + 9223372036854775808) % 18446744073709551616 - 9223372036854775808) from by unfold wrap64; omega]
  by_cases h : b < 9223372036854775808
  · have h1 : b / 9223372036854775808 = 0 := by omega
    rw [h1]
    have : decide (((b : Int) + 9223372036854775808) % 18446744073709551616 - 9223372036854775808 < 0) = false := by
      simp; omega
    rw [this]; rfl
  · have h1 : b / 9223372036854775808 = 1 := by omega
    rw [h1]
    have : decide (((b : Int) + 9223372036854775808) % 18446744073709551616 - 9223372036854775808 < 0) = true := by
      simp; omega
    rw [this]; rfl

/-- a number, a zero in the place of a subnormal one -/
def flushC : Option Nat → Option Nat
  | none => none
  | some b => if b % 2147483648 < 8388608 then some (b / 2147483648 * 2147483648) else some b

theorem rung32 (b : Nat) : rung FloatKind.f32.format b = b % 2147483648 := by unfold rung; rw [f32_sw]
theorem rung64 (b : Nat) : rung FloatKind.f64.format b = b % 9223372036854775808 := by unfold rung; rw [f64_sw]

/-- equal to zero: of rung 0 -/
theorem ford_zero {k : FloatKind} {b : Nat} (h : rung k.format b ≤ k.format.infRung) : (ford k (some b) (cls k 0) == some .eq) = decide (rung k.format b = 0) := by
  have hz : rung k.format 0 = 0 := by unfold rung; simp
  have h0 : cls k 0 = some 0 := by unfold cls; rw [if_pos (by omega)]
  have hs : sgn k.format 0 = false := by unfold sgn; simp
  rw [h0, ford_some h (by omega)]
  have e : srung k.format 0 = 0 := by unfold srung; rw [hz]; split <;> rfl
  rw [e]
  by_cases h1 : rung k.format b = 0
  · have : srung k.format b = 0 := by unfold srung; rw [h1]; split <;> rfl
    rw [this, h1]; rfl
  · have : srung k.format b ≠ 0 := by unfold srung; split <;> omega
    simp only [h1, decide_false]
    rcases Int.lt_trichotomy (srung k.format b) 0 with h2 | h2 | h2
    · rw [Int.compare_eq_lt.2 h2]; rfl
    · exact absurd h2 this
    · rw [Int.compare_eq_gt.2 h2]; rfl

/-- the absolute value below the least normal number: what the program asks of a number, widened -/
theorem abs_small {b : Nat} (h : rung FloatKind.f32.format b ≤ FloatKind.f32.format.infRung) :
    (ford .f64 (some (rung FloatKind.f64.format (conv .f32 .f64 b))) (cls .f64 4039728865751334912) == some .lt) = decide (b % 2147483648 < 8388608) := by
  have h2 : cls .f64 4039728865751334912 = some 4039728865751334912 := by decide +kernel
  have hlt : rung FloatKind.f64.format (conv .f32 .f64 b) < FloatKind.f64.format.signWeight := rung_lt _
  have hr : rung FloatKind.f64.format (rung FloatKind.f64.format (conv .f32 .f64 b)) = rung FloatKind.f64.format (conv .f32 .f64 b) := Nat.mod_eq_of_lt hlt
  have hs : sgn FloatKind.f64.format (rung FloatKind.f64.format (conv .f32 .f64 b)) = false := by unfold sgn; rw [Nat.div_eq_of_lt hlt]; rfl
  have hnn := conv_nn (k := .f64) h
  rw [h2, ford_some (by rw [hr]; exact hnn) (by decide +kernel)]
  have e1 : srung FloatKind.f64.format (rung FloatKind.f64.format (conv .f32 .f64 b)) = (rung FloatKind.f64.format (conv .f32 .f64 b) : Int) := by unfold srung; rw [hs, hr]; rfl
  have e2 : srung FloatKind.f64.format 4039728865751334912 = 4039728865751334912 := by decide +kernel
  rw [e1, e2]
  have key : rung FloatKind.f64.format (conv .f32 .f64 b) < 4039728865751334912 ↔ b % 2147483648 < 8388608 := by
    rw [← rung32]
    rcases Nat.lt_or_eq_of_le h with h' | h'
    · rw [conv_rung h']
      constructor
      · intro hh
        rcases Nat.lt_or_ge (rung FloatKind.f32.format b) 8388608 with h3 | h3
        · exact h3
        · have m := rungOf_mono (f := FloatKind.f64.format) (rval_le (f := FloatKind.f32.format) h h3) FloatKind.f32.format.leastPlace
          have c : rungOf FloatKind.f64.format (rval FloatKind.f32.format 8388608) FloatKind.f32.format.leastPlace = 4039728865751334912 := by decide +kernel
          omega
      · intro h3
        have m := rungOf_mono (f := FloatKind.f64.format) (rval_le (f := FloatKind.f32.format) (r1 := rung FloatKind.f32.format b) (r2 := 8388607) (by decide) (by omega)) FloatKind.f32.format.leastPlace
        have c : rungOf FloatKind.f64.format (rval FloatKind.f32.format 8388607) FloatKind.f32.format.leastPlace < 4039728865751334912 := by decide +kernel
        omega
    · rw [conv_inf h', h', f32_inf, f64_inf]; decide
  by_cases h3 : b % 2147483648 < 8388608
  · rw [Int.compare_eq_lt.2 (by have := key.2 h3; omega)]
    simp [h3]
  · have hn : ¬ rung FloatKind.f64.format (conv .f32 .f64 b) < 4039728865751334912 := fun hh => h3 (key.1 hh)
    simp only [h3, decide_false]
    rcases Int.lt_trichotomy ((rung FloatKind.f64.format (conv .f32 .f64 b) : Nat) : Int) 4039728865751334912 with h4 | h4 | h4
    · exact absurd (by omega) hn
    · rw [h4]; rfl
    · rw [Int.compare_eq_gt.2 h4]; rfl

/-- whether the exponent's bits are all nought -/
def lowB : Option Nat → Bool
  | none => false
  | some b => decide (b % 2147483648 < 8388608)
theorem bitsZ_mask {c : Option Nat} (h : Wfc .f32 c) : (bits .and .i64 (bitsZ c) 2139095040 == 0) = lowB c := by
  cases c with
  | none => rfl
  | some b =>
    have hb : b < 4294967296 := (h b rfl).2
    have := bits_mask_zero b hb
    show (bits .and .i64 (b : Int) 2139095040 == 0) = decide (b % 2147483648 < 8388608)
    by_cases h2 : b % 2147483648 < 8388608
    · simp [h2, this.2 h2]
    · have hne : ¬ bits .and .i64 (b : Int) 2139095040 = 0 := fun hh => h2 (this.1 hh)
      simp [h2, hne]

/-- whether a number is other than zero -/
def nzB (c : Option Nat) : Bool := ford .f32 c (cls .f32 0) != some .eq

theorem toNat_andNot (b : Nat) (hb : b < 18446744073709551616) : (bits .andNot .u64 (b : Int) 9223372036854775808).toNat = rung FloatKind.f64.format b := by
  rw [bits_andNot_sign b hb, rung64, Int.toNat_natCast]
theorem toNat_copysign0 (b : Nat) (hb : b < 18446744073709551616) :
    (bits .or .u64 (bits .andNot .u64 0 9223372036854775808) (bits .and .u64 (b : Int) 9223372036854775808)).toNat = FloatKind.f64.format.word (sgn FloatKind.f64.format b) 0 := by
  rw [bits_andNot_zero, bits_and_sign64 b hb, bits_or_zero64 _ (by omega), Int.toNat_natCast]
  unfold Ieee.Format.word sgn
  rw [f64_sw]
  have h : b / 9223372036854775808 = 0 ∨ b / 9223372036854775808 = 1 := by omega
  rcases h with h | h <;> rw [h] <;> rfl

theorem cls_rung {k : FloatKind} (b : Nat) : cls k (rung k.format b) = (cls k b).map (rung k.format) := by
  have hr : rung k.format (rung k.format b) = rung k.format b := Nat.mod_eq_of_lt (rung_lt b)
  unfold cls
  rw [hr]
  split <;> rfl

theorem wide_lt (c : Option Nat) (h : Nn .f32 c) (τ : Tp .f64) : rep .f64 (fconv .f32 .f64 c) τ < 18446744073709551616 := rep_lt (wfc_fconv' _ _ _ h) τ
theorem narrow_lt (c : Option Nat) (h : Nn .f64 c) (τ : Tp .f32) : rep .f32 (fconv .f64 .f32 c) τ < 4294967296 := rep_lt (wfc_fconv' _ _ _ h) τ

theorem abs_low (b : Nat) (τ : Tp .f64) :
    (ford .f64 (cls .f64 (rung FloatKind.f64.format (rep .f64 (fconv .f32 .f64 (cls .f32 b)) τ))) (cls .f64 4039728865751334912) == some .lt) = lowB (cls .f32 b) := by
  rw [cls_rung, cls_rep' (nn_fconv _ _ _ (nn_cls _ _))]
  rcases cls_cases .f32 b with ⟨hc, _⟩ | ⟨hc, h1⟩
  · rw [hc]; rfl
  · rw [hc]
    exact abs_small h1

theorem nzB_some {b : Nat} (h : rung FloatKind.f32.format b ≤ FloatKind.f32.format.infRung) : nzB (some b) = !decide (b % 2147483648 = 0) := by
  have := ford_zero h
  rw [rung32] at this
  unfold nzB
  rw [← this]
  rfl

theorem word0_lt (s : Bool) : FloatKind.f64.format.word s 0 < 18446744073709551616 := by cases s <;> decide
theorem noOver_word0 (s : Bool) : NoOver .f64 .f32 (FloatKind.f64.format.word s 0) :=
  noOver_le (c := 0) (by decide) (by decide) (by rw [word_rung s (by decide)]; exact Nat.le_refl _)

theorem narrow_word0 (s : Bool) : fconv .f64 .f32 (cls .f64 (FloatKind.f64.format.word s 0)) = some (FloatKind.f32.format.word s 0) := by
  cases s <;> decide +kernel

theorem flush_low {b : Nat} (hl : b % 2147483648 < 8388608) : flushC (some b) = some (b / 2147483648 * 2147483648) := by simp [flushC, hl]

theorem flush_sub {b : Nat} (hb : b < 4294967296) (τ : Tp .f64) (hs : (nzB (cls .f32 b) && lowB (cls .f32 b)) = true) :
    fconv .f64 .f32 (cls .f64 (FloatKind.f64.format.word (sgn FloatKind.f64.format (rep .f64 (fconv .f32 .f64 (cls .f32 b)) τ)) 0)) = flushC (cls .f32 b) := by
  rcases cls_cases .f32 b with ⟨hc, _⟩ | ⟨hc, h1⟩
  · rw [hc] at hs; simp [lowB] at hs
  · rw [hc] at hs ⊢
    have hl : b % 2147483648 < 8388608 := by
      have : lowB (some b) = true := (Bool.and_eq_true _ _ ▸ hs : _ ∧ _).2
      simpa [lowB] using this
    have e1 : fconv .f32 .f64 (some b) = some (conv .f32 .f64 b) := rfl
    rw [e1, rep_some, conv_sgn h1, narrow_word0, flush_low hl]
    unfold Ieee.Format.word sgn
    rw [f32_sw]
    have h : b / 2147483648 = 0 ∨ b / 2147483648 = 1 := by omega
    rcases h with h | h <;> rw [h] <;> rfl

theorem flush_not {b : Nat} (hs : (nzB (cls .f32 b) && lowB (cls .f32 b)) = false) : cls .f32 b = flushC (cls .f32 b) := by
  rcases cls_cases .f32 b with ⟨hc, _⟩ | ⟨hc, h1⟩
  · rw [hc]; rfl
  · rw [hc] at hs ⊢
    by_cases hl : b % 2147483648 < 8388608
    · rw [flush_low hl]
      rw [nzB_some h1] at hs
      have hl' : lowB (some b) = true := by simp [lowB, hl]
      rw [hl'] at hs
      have h0 : b % 2147483648 = 0 := by simpa using hs
      congr 1; omega
    · simp [flushC, hl]

theorem bitsZ_some (b : Nat) : bitsZ (some b) = (b : Int) := rfl
theorem low_some {c : Option Nat} (h : lowB c = true) : ∃ b, c = some b ∧ b % 2147483648 < 8388608 := by
  cases c with
  | none => cases h
  | some b => exact ⟨b, rfl, by simpa [lowB] using h⟩

theorem flush_spec {b : Nat} (hb : b < 4294967296) (h : lowB (cls .f32 b) = true) :
    0 ≤ bits .and .i64 (bitsZ (cls .f32 b)) 2147483648 ∧ bits .and .i64 (bitsZ (cls .f32 b)) 2147483648 ≤ 4294967295 ∧
    cls .f32 (bits .and .i64 (bitsZ (cls .f32 b)) 2147483648).toNat = flushC (cls .f32 b) ∧ (bits .and .i64 (bitsZ (cls .f32 b)) 2147483648).toNat < 4294967296 := by
  obtain ⟨c, hc, hl⟩ := low_some h
  obtain ⟨rfl, _⟩ := cls_some hc
  rw [hc, bitsZ_some, bits_sign32 _ hb, flush_low hl, Int.toNat_natCast]
  have h01 : c / 2147483648 = 0 ∨ c / 2147483648 = 1 := by omega
  refine ⟨by omega, by omega, ?_, by omega⟩
  unfold cls
  rw [rung32, f32_inf, if_pos (by omega)]
theorem flush_spec_not {b : Nat} (h : lowB (cls .f32 b) = false) : cls .f32 b = flushC (cls .f32 b) := flush_not (by rw [h]; simp)

/-- two numbers are the same: of one class -/
def sameB (a b : Option Nat) : Bool := decide (a = b)
theorem bitsZ_same {a b : Nat} : (bitsZ (cls .f32 a) == bitsZ (cls .f32 b)) = sameB (cls .f32 a) (cls .f32 b) := by
  unfold sameB
  rcases cls_cases .f32 a with ⟨ha, _⟩ | ⟨ha, h1⟩ <;> rcases cls_cases .f32 b with ⟨hb, _⟩ | ⟨hb, h2⟩ <;> rw [ha, hb]
  · rfl
  · have : bitsZ (some b) ≠ bitsZ none := by
      intro h
      have h' : (b : Int) = 2143289344 := h
      rw [rung32, f32_inf] at h2
      omega
    simp [Ne.symm this]
  · have : bitsZ (some a) ≠ bitsZ none := by
      intro h
      have h' : (a : Int) = 2143289344 := h
      rw [rung32, f32_inf] at h1
      omega
    simp [this]
  · by_cases h : a = b
    · simp [h]
    · have : bitsZ (some a) ≠ bitsZ (some b) := by
        intro hh
        have h' : (a : Int) = (b : Int) := hh
        omega
      simp [this, h]

theorem same_words {k : FloatKind} {a b : Nat} (ha : a < 2 ^ k.format.width) (hb : b < 2 ^ k.format.width) (h1 : rung k.format a ≤ k.format.infRung) (h2 : rung k.format b ≤ k.format.infRung) :
    ((ford k (some a) (some b) == some .eq) && (sgn k.format a == sgn k.format b)) = decide (a = b) := by
  rw [ford_some h1 h2]
  by_cases h : a = b
  · subst h; simp
  · simp only [h, decide_false, Bool.and_eq_false_iff]
    by_cases hs : sgn k.format a = sgn k.format b
    · left
      have hne : srung k.format a ≠ srung k.format b := by
        intro he
        apply h
        have hr : rung k.format a = rung k.format b := by
          unfold srung at he
          rw [hs] at he
          split at he <;> omega
        rw [← word_of ha, ← word_of hb, hs, hr]
      rcases Int.lt_trichotomy (srung k.format a) (srung k.format b) with h4 | h4 | h4
      · rw [Int.compare_eq_lt.2 h4]; rfl
      · exact absurd h4 hne
      · rw [Int.compare_eq_gt.2 h4]; rfl
    · right
      simpa using hs

/-- the sign of a number that was widened -/
theorem wide_sgn {b : Nat} (τ : Tp .f64) (h : rung FloatKind.f32.format b ≤ FloatKind.f32.format.infRung) :
    sgn FloatKind.f64.format (rep .f64 (fconv .f32 .f64 (some b)) τ) = sgn FloatKind.f32.format b := by
  have e1 : fconv .f32 .f64 (some b) = some (conv .f32 .f64 b) := rfl
  rw [e1, rep_some, conv_sgn h]
end Flt
