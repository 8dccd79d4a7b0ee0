/- Floats that stand for integers: sums, products and exact quotients of them. -/
import Derived.Test.YtmpeogpmlgnmfaaBnd
namespace Flt
open Go Ieee
set_option exponentiation.threshold 3000

/-- places below one -/
def U (k : FloatKind) : Nat := (-k.format.leastPlace).toNat
theorem lp_U (k : FloatKind) : k.format.leastPlace = -(U k : Int) := by have := lp_le k; unfold U; omega
/-- the word stands for the integer -/
def V (k : FloatKind) (b : Nat) (n : Int) : Prop := rung k.format b < k.format.infRung ∧ sval k.format b = n * ((2 ^ U k : Nat) : Int) ∧ b < 2 ^ k.format.width
theorem V.cls {k : FloatKind} {b : Nat} {n : Int} (h : V k b n) : Flt.cls k b = some b := by unfold Flt.cls; rw [if_pos (Nat.le_of_lt h.1)]
theorem exact_rung (k : FloatKind) {m : Nat} (h : m < 2 * k.format.binade) : rungOf k.format m 0 < k.format.infRung ∧ rval k.format (rungOf k.format m 0) = m * 2 ^ U k := by
  have hlt : rungOf k.format m 0 < k.format.infRung := Nat.lt_of_le_of_lt (rungOf_mono (Nat.le_of_lt h) 0) (by cases k <;> decide +kernel)
  refine ⟨hlt, ?_⟩
  rw [rval_exact h (lp_le k) hlt]
  unfold U
  congr 2
  omega
theorem scale_U (k : FloatKind) (m : Nat) : rungOf k.format (m * 2 ^ U k) k.format.leastPlace = rungOf k.format m 0 := by
  have := rungOf_scale (f := k.format) m (U k) 0
  rw [lp_U k]
  rw [Int.zero_sub] at this
  exact this
theorem two_pos (k : FloatKind) : (0 : Int) < ((2 ^ U k : Nat) : Int) := by have := Nat.two_pow_pos (U k); omega
theorem V.of {k : FloatKind} {b : Nat} {n : Int} (hr : rung k.format b = rungOf k.format n.natAbs 0) (hs : n ≠ 0 → sgn k.format b = decide (n < 0)) (hb : b < 2 ^ k.format.width) (hn : n.natAbs < 2 * k.format.binade) : V k b n := by
  obtain ⟨h1, h2⟩ := exact_rung k hn
  refine ⟨by rw [hr]; exact h1, ?_, hb⟩
  unfold sval
  rw [hr, h2, Int.natCast_mul]
  generalize ((2 ^ U k : Nat) : Int) = T
  by_cases h0 : n = 0
  · subst h0
    simp
  · rw [hs h0]
    by_cases hneg : n < 0
    · simp only [hneg, decide_true, if_true]
      rw [show ((n.natAbs : Nat) : Int) = -n by omega, Int.neg_mul, Int.neg_neg]
    · simp only [hneg, decide_false]
      rw [show ((n.natAbs : Nat) : Int) = n by omega]
      rfl
theorem V.rval {k : FloatKind} {b : Nat} {n : Int} (h : V k b n) : Flt.rval k.format (rung k.format b) = n.natAbs * 2 ^ U k := by
  have h1 := natAbs_sval (f := k.format) b
  rw [h.2.1, Int.natAbs_mul, Int.natAbs_natCast] at h1
  exact h1.symm
theorem V.rung {k : FloatKind} {b : Nat} {n : Int} (h : V k b n) : Flt.rung k.format b = rungOf k.format n.natAbs 0 := by
  have h1 := rungOf_rval (f := k.format) (Nat.le_of_lt h.1)
  rw [h.rval, scale_U] at h1
  exact h1.symm
theorem V.sgn {k : FloatKind} {b : Nat} {n : Int} (h : V k b n) (hn : n ≠ 0) : Flt.sgn k.format b = decide (n < 0) := by
  have h1 := h.2.1
  unfold sval at h1
  rw [h.rval, Int.natCast_mul] at h1
  have hT := two_pos k
  generalize ((2 ^ U k : Nat) : Int) = T at *
  cases hs : Flt.sgn k.format b
  · rw [hs] at h1
    have e : (n.natAbs : Int) * T = n * T := by simpa using h1
    have := Int.eq_of_mul_eq_mul_right (by omega) e
    exact (decide_eq_false (by omega)).symm
  · rw [hs] at h1
    have e : -((n.natAbs : Int) * T) = n * T := by simpa using h1
    rw [← Int.neg_mul] at e
    have := Int.eq_of_mul_eq_mul_right (by omega) e
    exact (decide_eq_true (by omega)).symm
theorem word_lt (k : FloatKind) (s : Bool) {r : Nat} (h : r ≤ k.format.infRung) : k.format.word s r < 2 ^ k.format.width := by
  have hr : r < k.format.signWeight := Nat.lt_of_le_of_lt h inf_lt_sw
  rw [width_eq]
  unfold Format.word
  cases s <;> simp <;> omega
theorem V.word {k : FloatKind} {s : Bool} {n : Int} (hs : n ≠ 0 → s = decide (n < 0)) (hn : n.natAbs < 2 * k.format.binade) : V k (k.format.word s (rungOf k.format n.natAbs 0)) n := by
  have hw := Nat.lt_of_le_of_lt (rungOf_le_inf (f := k.format) n.natAbs 0) inf_lt_sw
  exact V.of (word_rung _ hw) (fun h0 => by rw [word_sgn _ hw]; exact hs h0) (word_lt k s (rungOf_le_inf _ _)) hn
theorem V.mul {k : FloatKind} {a b : Nat} {m n : Int} (ha : V k a m) (hb : V k b n) (h : (m * n).natAbs < 2 * k.format.binade) :
    ∃ r, fop .mul k (Flt.cls k a) (Flt.cls k b) = some r ∧ V k r (m * n) ∧ Flt.sgn k.format r = (Flt.sgn k.format a ^^ Flt.sgn k.format b) := by
  have e : (n.natAbs * m.natAbs) = (m * n).natAbs := by rw [Int.natAbs_mul, Nat.mul_comm]
  have hq : rungOf k.format (Flt.rval k.format (Flt.rung k.format a) * Flt.rval k.format (Flt.rung k.format b)) (k.format.leastPlace + k.format.leastPlace) = rungOf k.format (m * n).natAbs 0 := by
    rw [ha.rval, hb.rval]
    have := rungOf_scale (f := k.format) (m * n).natAbs (U k + U k) 0
    rw [← this]
    congr 1
    · rw [← e, Nat.pow_add]; ac_rfl
    · rw [lp_U k]; omega
  refine ⟨k.format.word (Flt.sgn k.format a ^^ Flt.sgn k.format b) (rungOf k.format (m * n).natAbs 0), ?_, ?_, ?_⟩
  · rw [ha.cls, hb.cls]
    show k.format.mul a b = _
    rw [mul_fin ha.1 hb.1, hq]
  · refine V.word (fun h0 => ?_) h
    have hm : m ≠ 0 := by rintro rfl; simp at h0
    have hn : n ≠ 0 := by rintro rfl; simp at h0
    rw [ha.sgn hm, hb.sgn hn]
    rcases Int.lt_or_gt_of_ne hm with h1 | h1 <;> rcases Int.lt_or_gt_of_ne hn with h2 | h2
    · have := Int.mul_pos_of_neg_of_neg h1 h2
      simp [h1, h2]; omega
    · have := Int.mul_neg_of_neg_of_pos h1 h2
      have h2' : ¬ n < 0 := by omega
      simp [h1, h2', this]
    · have := Int.mul_neg_of_pos_of_neg h1 h2
      have h1' : ¬ m < 0 := by omega
      simp [h1', h2, this]
    · have := Int.mul_pos h1 h2
      have h1' : ¬ m < 0 := by omega
      have h2' : ¬ n < 0 := by omega
      simp [h1', h2']; omega
  · exact word_sgn _ (Nat.lt_of_le_of_lt (rungOf_le_inf _ _) inf_lt_sw)
theorem sval_sum {m n : Int} {T : Int} (hT : 0 < T) : (m * T + n * T = 0 ↔ m + n = 0) ∧ (m * T + n * T < 0 ↔ m + n < 0) := by
  rw [← Int.add_mul]
  constructor
  · constructor
    · intro h
      rcases Int.mul_eq_zero.1 h with h1 | h1
      · exact h1
      · omega
    · intro h; rw [h]; simp
  · constructor
    · intro h
      rcases Int.lt_or_le (m + n) 0 with h1 | h1
      · exact h1
      · have := Int.mul_nonneg h1 (Int.le_of_lt hT); omega
    · intro h
      exact Int.mul_neg_of_neg_of_pos h hT
theorem natAbs_scale (k : FloatKind) (n : Int) : (n * ((2 ^ U k : Nat) : Int)).natAbs = n.natAbs * 2 ^ U k := by rw [Int.natAbs_mul, Int.natAbs_natCast]
theorem V.add {k : FloatKind} {a b : Nat} {m n : Int} (ha : V k a m) (hb : V k b n) (h : (m + n).natAbs < 2 * k.format.binade) :
    ∃ r, fop .add k (Flt.cls k a) (Flt.cls k b) = some r ∧ V k r (m + n) ∧ (Flt.sgn k.format a = false → Flt.sgn k.format b = false → 0 ≤ m + n → Flt.sgn k.format r = false) := by
  have hs : Flt.sval k.format a + Flt.sval k.format b = (m + n) * ((2 ^ U k : Nat) : Int) := by rw [ha.2.1, hb.2.1, Int.add_mul]
  have hc := sval_sum (m := m) (n := n) (two_pos k)
  have hv : Flt.sval k.format a + Flt.sval k.format b = m * ((2 ^ U k : Nat) : Int) + n * ((2 ^ U k : Nat) : Int) := by rw [ha.2.1, hb.2.1]
  refine ⟨k.format.word (sumSign (Flt.sgn k.format a) (Flt.sgn k.format b) (Flt.sval k.format a + Flt.sval k.format b)) (rungOf k.format (m + n).natAbs 0), ?_, ?_, ?_⟩
  · rw [ha.cls, hb.cls]
    show k.format.add a b = _
    rw [add_fin ha.1 hb.1]
    congr 2
    rw [hs, natAbs_scale, scale_U]
  · refine V.word (fun h0 => ?_) h
    unfold sumSign
    rw [hv, if_neg (fun h1 => h0 (hc.1.1 h1))]
    exact decide_eq_decide.2 hc.2
  · intro h1 h2 h3
    rw [word_sgn _ (Nat.lt_of_le_of_lt (rungOf_le_inf _ _) inf_lt_sw)]
    unfold sumSign
    rw [hv, h1, h2]
    split
    · rfl
    · exact decide_eq_false (fun h4 => by have := hc.2.1 h4; omega)
theorem V.sub {k : FloatKind} {a b : Nat} {m n : Int} (ha : V k a m) (hb : V k b n) (h : (m - n).natAbs < 2 * k.format.binade) :
    ∃ r, fop .sub k (Flt.cls k a) (Flt.cls k b) = some r ∧ V k r (m - n) := by
  have hs : Flt.sval k.format a - Flt.sval k.format b = (m - n) * ((2 ^ U k : Nat) : Int) := by rw [ha.2.1, hb.2.1, Int.sub_mul]
  have hc := sval_sum (m := m) (n := -n) (two_pos k)
  have hv : Flt.sval k.format a - Flt.sval k.format b = m * ((2 ^ U k : Nat) : Int) + -n * ((2 ^ U k : Nat) : Int) := by rw [ha.2.1, hb.2.1, Int.neg_mul]; omega
  refine ⟨k.format.word (sumSign (Flt.sgn k.format a) (!Flt.sgn k.format b) (Flt.sval k.format a - Flt.sval k.format b)) (rungOf k.format (m - n).natAbs 0), ?_, ?_⟩
  · rw [ha.cls, hb.cls]
    show k.format.sub a b = _
    rw [sub_fin ha.1 hb.1]
    congr 2
    rw [hs, natAbs_scale, scale_U]
  · refine V.word (fun h0 => ?_) h
    unfold sumSign
    rw [hv, if_neg (fun h1 => h0 (by have := hc.1.1 h1; omega))]
    exact decide_eq_decide.2 (by rw [hc.2]; omega)
theorem V.conv {s k : FloatKind} {b : Nat} {n : Int} (h : V s b n) (hn : n.natAbs < 2 * k.format.binade) : V k (Flt.conv s k b) n ∧ Flt.fconv s k (Flt.cls s b) = some (Flt.conv s k b) ∧ Flt.sgn k.format (Flt.conv s k b) = Flt.sgn s.format b ∧ NoOver s k b := by
  have hr : Flt.rung k.format (Flt.conv s k b) = rungOf k.format n.natAbs 0 := by
    rw [conv_rung h.1, h.rval, ← scale_U k]
    have e1 := rungOf_scale (f := k.format) n.natAbs (U s) 0
    have e2 := rungOf_scale (f := k.format) n.natAbs (U k) 0
    rw [lp_U s, lp_U k]
    rw [Int.zero_sub] at e1 e2
    rw [e1, e2]
  have hs := conv_sgn (k := k) (Nat.le_of_lt h.1)
  refine ⟨V.of hr (fun h0 => by rw [hs]; exact h.sgn h0) (conv_lt _ _ _) hn, by rw [h.cls]; rfl, hs, fun _ => ?_⟩
  rw [← conv_rung h.1, hr]
  exact (exact_rung k hn).1
theorem V.neg {k : FloatKind} {b : Nat} {n : Int} (h : V k b n) (hn : n.natAbs < 2 * k.format.binade) : V k (Op.negFloat k b) (-n) :=
  V.of (by rw [neg_rung h.2.2, h.rung, Int.natAbs_neg]) (fun h0 => by
    rw [neg_sgn h.2.2, h.sgn (by omega)]
    by_cases h1 : n < 0
    · have h2 : ¬ -n < 0 := by omega
      simp [h1]; omega
    · have h2 : -n < 0 := by omega
      simp [h1]; omega) (neg_lt h.2.2) (by rw [Int.natAbs_neg]; exact hn)
theorem V.ofInt {k : FloatKind} {n : Int} (hn : n.natAbs < 2 * k.format.binade) : V k (floatOfInt k n) n ∧ (0 ≤ n → Flt.sgn k.format (floatOfInt k n) = false) := by
  have e : Flt.rung k.format (floatOfInt k n) = rungOf k.format n.natAbs 0 := by
    show Flt.rung k.format (k.format.write (.number _ _ 0)) = _
    rw [rung_write_num]
  have hs : Flt.sgn k.format (floatOfInt k n) = decide (n < 0) := by
    show Flt.sgn k.format (k.format.nearest (decide (n < 0)) n.natAbs 0) = _
    rw [nearest_eq, word_sgn _ (Nat.lt_of_le_of_lt (rungOf_le_inf _ _) inf_lt_sw)]
  refine ⟨V.of e (fun _ => hs) ?_ hn, fun h0 => by rw [hs]; exact decide_eq_false (by omega)⟩
  show k.format.write (.number _ _ 0) < _
  exact k.format.write_lt _
theorem V.eq {k : FloatKind} {a b : Nat} {n : Int} (ha : V k a n) (hb : V k b n) : ford k (Flt.cls k a) (Flt.cls k b) = some .eq := by
  rw [ha.cls, hb.cls]
  show k.format.order a b = _
  rw [order_fin ha.1 hb.1, ha.2.1, hb.2.1]
  simp
/-- numbers of two integers compare as these -/
theorem V.cmp {k : FloatKind} {a b : Nat} {m n : Int} (ha : V k a m) (hb : V k b n) : (ford k (Flt.cls k a) (Flt.cls k b) == some .eq) = decide (m = n) := by
  by_cases h : m = n
  · subst h
    rw [V.eq ha hb]
    simp
  · rw [ha.cls, hb.cls]
    show (k.format.order a b == some .eq) = _
    rw [order_fin ha.1 hb.1, ha.2.1, hb.2.1, decide_eq_false h]
    have hT := two_pos k
    generalize ((2 ^ U k : Nat) : Int) = T at *
    rcases Int.lt_or_gt_of_ne h with h1 | h1
    · have := Int.mul_lt_mul_of_pos_right h1 hT
      rw [Int.compare_eq_lt.2 this]
      rfl
    · have := Int.mul_lt_mul_of_pos_right h1 hT
      rw [Int.compare_eq_gt.2 this]
      rfl
/-- a word is told by its integer and its sign -/
theorem V.word_eq {k : FloatKind} {a b : Nat} {n : Int} (ha : V k a n) (hb : V k b n) (hs : Flt.sgn k.format a = Flt.sgn k.format b) : a = b := by
  have e1 := word_of (f := k.format) ha.2.2
  have e2 := word_of (f := k.format) hb.2.2
  rw [← e1, ← e2, ha.rung, hb.rung, hs]
theorem V.toInt {k : FloatKind} {b : Nat} {n : Int} (h : V k b n) (hn : n.natAbs < 9007199254740992) : floatToIntVal k b .i64 = some n := by
  obtain ⟨t, h1, h2, h3⟩ := toInt_fin (lp_le k) h.1
  rw [h.rval] at h2 h3
  have hp := Nat.two_pow_pos (U k)
  have e1 : t ≤ n.natAbs := Nat.le_of_mul_le_mul_right h2 hp
  have e2 : n.natAbs < t + 1 := Nat.lt_of_mul_lt_mul_right h3
  have e3 : t = n.natAbs := by omega
  have e4 : signed (Flt.sgn k.format b) t 0 = n := by
    rw [signed_eq, e3]
    by_cases h0 : n = 0
    · subst h0; simp
    · rw [h.sgn h0]
      by_cases hneg : n < 0
      · simp [hneg]; omega
      · simp [hneg]; omega
  unfold floatToIntVal
  have : (k.decode b).toInt .zero = some n := by rw [← e4]; exact h1
  rw [this]
  have e1 : IntKind.i64.min = -9223372036854775808 := rfl
  have e2 : IntKind.i64.max = 9223372036854775807 := rfl
  simp only [e1, e2]
  rw [if_pos (by omega)]
/-- an exact quotient -/
theorem V.quo {k : FloatKind} {a b : Nat} {m q : Int} (ha : V k a (q * m)) (hb : V k b m) (hm : m ≠ 0) (hq : q.natAbs < k.format.binade) :
    ∃ r, fop .quo k (Flt.cls k a) (Flt.cls k b) = some r ∧ V k r q := by
  obtain ⟨x, i, hra, hi, hva⟩ := read_fin ha.1
  obtain ⟨y, j, hrb, hj, hvb⟩ := read_fin hb.1
  rw [ha.rval, Int.natAbs_mul] at hva
  rw [hb.rval] at hvb
  have hy : y ≠ 0 := by
    rintro rfl
    rw [Nat.zero_mul] at hvb
    have := Nat.mul_pos (show 0 < m.natAbs by omega) (Nat.two_pow_pos (U k))
    omega
  -- x at place i is q times y at place j
  have hxy : x * 2 ^ (i - k.format.leastPlace).toNat = q.natAbs * (y * 2 ^ (j - k.format.leastPlace).toNat) := by rw [hva, hvb, Nat.mul_assoc]
  generalize hM : k.format.fractionBits + 2 + y.log2 - x.log2 = M
  generalize hI : (i - k.format.leastPlace).toNat = I at *
  generalize hJ : (j - k.format.leastPlace).toNat = J at *
  have hres : rungOf k.format (2 * (x * 2 ^ M / y) + (x * 2 ^ M % y != 0).toNat) (i - j - (M : Int) - 1) = rungOf k.format q.natAbs 0 := by
    by_cases hx : x = 0
    · subst hx
      have hq0 : q.natAbs = 0 := by
        rw [Nat.zero_mul] at hxy
        have := (Nat.mul_eq_zero.1 hxy.symm).resolve_right (by have := Nat.mul_pos (show 0 < y by omega) (Nat.two_pow_pos J); omega)
        exact this
      rw [hq0]
      unfold rungOf
      simp
    · -- the quotient has its bits
      have hbig : 2 ^ (k.format.fractionBits + 1) * y ≤ x * 2 ^ M := by
        have h1 := @Nat.lt_log2_self y
        have h2 := Nat.log2_self_le hx
        calc 2 ^ (k.format.fractionBits + 1) * y ≤ 2 ^ (k.format.fractionBits + 1) * 2 ^ (y.log2 + 1) := Nat.mul_le_mul_left _ (Nat.le_of_lt h1)
          _ = 2 ^ (k.format.fractionBits + 2 + y.log2) := by rw [← Nat.pow_add]; congr 1; omega
          _ ≤ 2 ^ (x.log2 + M) := Nat.pow_le_pow_right (by omega) (by omega)
          _ = 2 ^ x.log2 * 2 ^ M := Nat.pow_add _ _ _
          _ ≤ x * 2 ^ M := Nat.mul_le_mul_right _ h2
      have hle : I ≤ J + M := by
        rcases Nat.lt_or_ge (J + M) I with h | h
        · exfalso
          -- x * 2^M * 2^(I - J - M) = q * y: too small
          obtain ⟨d, hd⟩ : ∃ d, I = J + M + d := ⟨I - (J + M), by omega⟩
          have e : x * 2 ^ M * 2 ^ d * 2 ^ J = q.natAbs * y * 2 ^ J := by
            rw [Nat.mul_assoc (q.natAbs), ← hxy, hd, Nat.pow_add, Nat.pow_add]; ac_rfl
          have e2 : x * 2 ^ M * 2 ^ d = q.natAbs * y := Nat.eq_of_mul_eq_mul_right (Nat.two_pow_pos J) e
          have h3 : x * 2 ^ M ≤ x * 2 ^ M * 2 ^ d := Nat.le_mul_of_pos_right _ (Nat.two_pow_pos d)
          have h4 : q.natAbs * y < 2 ^ k.format.fractionBits * y := Nat.mul_lt_mul_of_pos_right hq (by omega)
          have h5 : 2 ^ k.format.fractionBits * y ≤ 2 ^ (k.format.fractionBits + 1) * y := Nat.mul_le_mul_right _ (Nat.pow_le_pow_right (by omega) (by omega))
          omega
        · exact h
      obtain ⟨d, hd⟩ : ∃ d, J + M = I + d := ⟨J + M - I, by omega⟩
      have e : x * 2 ^ M * 2 ^ I = q.natAbs * 2 ^ d * y * 2 ^ I := by
        calc x * 2 ^ M * 2 ^ I = x * 2 ^ I * 2 ^ M := by ac_rfl
          _ = q.natAbs * (y * 2 ^ J) * 2 ^ M := by rw [hxy]
          _ = q.natAbs * y * 2 ^ (J + M) := by rw [Nat.pow_add]; ac_rfl
          _ = q.natAbs * 2 ^ d * y * 2 ^ I := by rw [hd, Nat.pow_add]; ac_rfl
      have e2 : x * 2 ^ M = q.natAbs * 2 ^ d * y := Nat.eq_of_mul_eq_mul_right (Nat.two_pow_pos I) e
      have e3 : x * 2 ^ M / y = q.natAbs * 2 ^ d := by rw [e2]; exact Nat.mul_div_cancel _ (by omega)
      have e4 : x * 2 ^ M % y = 0 := by rw [e2]; exact Nat.mul_mod_left _ _
      rw [e3, e4]
      have e5 := rungOf_scale (f := k.format) q.natAbs (d + 1) 0
      rw [← e5]
      have e6 : 2 * (q.natAbs * 2 ^ d) + (0 != 0 : Bool).toNat = q.natAbs * 2 ^ (d + 1) := by
        rw [Nat.pow_succ]; simp; ac_rfl
      rw [e6]
      congr 1
      omega
  refine ⟨k.format.word (Flt.sgn k.format a ^^ Flt.sgn k.format b) (rungOf k.format q.natAbs 0), ?_, ?_⟩
  · rw [ha.cls, hb.cls]
    show k.format.div a b = _
    unfold Format.div
    rw [hra, hrb]
    simp only [Datum.quotient, if_neg hy, Option.map_some, Format.write, nearest_eq]
    rw [hM, Nat.shiftLeft_eq]
    congr 2
  · refine V.word (fun h0 => ?_) (by omega)
    rw [ha.sgn (by intro h1; rcases Int.mul_eq_zero.1 h1 with h2 | h2 <;> omega), hb.sgn hm]
    rcases Int.lt_or_gt_of_ne h0 with h1 | h1 <;> rcases Int.lt_or_gt_of_ne hm with h2 | h2
    · have := Int.mul_pos_of_neg_of_neg h1 h2
      have h3 : ¬ q * m < 0 := by omega
      simp [h1, h2, h3]
    · have := Int.mul_neg_of_neg_of_pos h1 h2
      have h2' : ¬ m < 0 := by omega
      simp [h1, h2', this]
    · have := Int.mul_neg_of_pos_of_neg h1 h2
      have h1' : ¬ q < 0 := by omega
      simp [h1', h2, this]
    · have := Int.mul_pos h1 h2
      have h1' : ¬ q < 0 := by omega
      have h2' : ¬ m < 0 := by omega
      have h3 : ¬ q * m < 0 := by omega
      simp [h1', h2', h3]
end Flt
