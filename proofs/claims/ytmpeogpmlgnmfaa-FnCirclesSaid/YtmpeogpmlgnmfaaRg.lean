/- Intervals of floats on a grid: what is rounded stays between the grid's numbers that bound it. -/
import Derived.Test.YtmpeogpmlgnmfaaVal
namespace Flt
open Go Ieee
set_option exponentiation.threshold 3000

/-- a finite number from lo to hi, in units of 2^-g -/
def Rg (k : FloatKind) (g : Nat) (c : Option Nat) (lo hi : Int) : Prop :=
  ∃ b, c = some b ∧ rung k.format b < k.format.infRung ∧ b < 2 ^ k.format.width ∧ lo * ((2 ^ U k : Nat) : Int) ≤ sval k.format b * ((2 ^ g : Nat) : Int) ∧ sval k.format b * ((2 ^ g : Nat) : Int) ≤ hi * ((2 ^ U k : Nat) : Int)
theorem Rg.mono {k : FloatKind} {g : Nat} {c : Option Nat} {lo hi lo' hi' : Int} (h : Rg k g c lo hi) (h1 : lo' ≤ lo) (h2 : hi ≤ hi') : Rg k g c lo' hi' := by
  obtain ⟨b, e, hf, hw, a1, a2⟩ := h
  have hT := two_pos k
  exact ⟨b, e, hf, hw, Int.le_trans (Int.mul_le_mul_of_nonneg_right h1 (Int.le_of_lt hT)) a1, Int.le_trans a2 (Int.mul_le_mul_of_nonneg_right h2 (Int.le_of_lt hT))⟩
theorem cmp_up {f : Format} {g x y m H : Nat} {p : Int} (hxy : (y : Int) = x + p + g) (h : m * 2 ^ y ≤ H * 2 ^ x) : rungOf f m p ≤ rungOf f H (-(g : Int)) := by
  rcases Int.le_total (-(g : Int)) p with hp | hp
  · apply rungOf_mono2 (b := -(g : Int)) hp (Int.le_refl _)
    have e : y = (p - -(g : Int)).toNat + x := by omega
    rw [e, Nat.pow_add, ← Nat.mul_assoc] at h
    rw [show (-(g : Int) - -(g : Int)).toNat = 0 by omega]
    have := Nat.le_of_mul_le_mul_right h (Nat.two_pow_pos x)
    simpa using this
  · apply rungOf_mono2 (b := p) (Int.le_refl _) hp
    have e : x = (-(g : Int) - p).toNat + y := by omega
    rw [e, Nat.pow_add, ← Nat.mul_assoc] at h
    rw [show (p - p).toNat = 0 by omega]
    have := Nat.le_of_mul_le_mul_right h (Nat.two_pow_pos y)
    simpa using this
theorem cmp_dn {f : Format} {g x y m H : Nat} {p : Int} (hxy : (y : Int) = x + p + g) (h : H * 2 ^ x ≤ m * 2 ^ y) : rungOf f H (-(g : Int)) ≤ rungOf f m p := by
  rcases Int.le_total (-(g : Int)) p with hp | hp
  · apply rungOf_mono2 (b := -(g : Int)) (Int.le_refl _) hp
    have e : y = (p - -(g : Int)).toNat + x := by omega
    rw [e, Nat.pow_add, ← Nat.mul_assoc] at h
    rw [show (-(g : Int) - -(g : Int)).toNat = 0 by omega]
    have := Nat.le_of_mul_le_mul_right h (Nat.two_pow_pos x)
    simpa using this
  · apply rungOf_mono2 (b := p) hp (Int.le_refl _)
    have e : x = (-(g : Int) - p).toNat + y := by omega
    rw [e, Nat.pow_add, ← Nat.mul_assoc] at h
    rw [show (p - p).toNat = 0 by omega]
    have := Nat.le_of_mul_le_mul_right h (Nat.two_pow_pos y)
    simpa using this
theorem grid_val {k : FloatKind} {g H : Nat} (hg : g ≤ U k) (hH : H < 2 * k.format.binade) : rungOf k.format H (-(g : Int)) < k.format.infRung ∧ rval k.format (rungOf k.format H (-(g : Int))) * 2 ^ g = H * 2 ^ U k := by
  have hlp := lp_U k
  have hlt : rungOf k.format H (-(g : Int)) < k.format.infRung := by
    refine Nat.lt_of_le_of_lt ?_ (exact_rung k hH).1
    apply rungOf_mono2 (b := -(g : Int)) (Int.le_refl _) (by omega)
    rw [show (-(g : Int) - -(g : Int)).toNat = 0 by omega, Nat.pow_zero, Nat.mul_one]
    exact Nat.le_mul_of_pos_right _ (Nat.two_pow_pos _)
  refine ⟨hlt, ?_⟩
  rw [rval_exact hH (by omega) hlt, Nat.mul_assoc, ← Nat.pow_add]
  congr 2
  omega
/-- the main fact: rounding and the grid -/
theorem rnd_rg {k : FloatKind} {g m x y : Nat} {s : Bool} {p S lo hi : Int} (hS : S.natAbs = m) (hs1 : S < 0 → s = true) (hs2 : 0 < S → s = false) (hxy : (y : Int) = x + p + g)
    (h1 : lo * ((2 ^ x : Nat) : Int) ≤ S * ((2 ^ y : Nat) : Int)) (h2 : S * ((2 ^ y : Nat) : Int) ≤ hi * ((2 ^ x : Nat) : Int)) (hl : lo.natAbs < 2 * k.format.binade) (hh : hi.natAbs < 2 * k.format.binade) (hg : g ≤ U k) :
    Rg k g (some (k.format.word s (rungOf k.format m p))) lo hi := by
  have hX : (0 : Int) < ((2 ^ x : Nat) : Int) := by have := Nat.two_pow_pos x; omega
  have hY : (0 : Int) < ((2 ^ y : Nat) : Int) := by have := Nat.two_pow_pos y; omega
  have hT := two_pos k
  have hG : (0 : Int) < ((2 ^ g : Nat) : Int) := by have := Nat.two_pow_pos g; omega
  have hw := Nat.lt_of_le_of_lt (rungOf_le_inf (f := k.format) m p) inf_lt_sw
  -- the magnitude's bounds
  have up : ∀ H : Nat, H < 2 * k.format.binade → m * 2 ^ y ≤ H * 2 ^ x → rungOf k.format m p < k.format.infRung ∧ ((rval k.format (rungOf k.format m p) : Nat) : Int) * ((2 ^ g : Nat) : Int) ≤ (H : Int) * ((2 ^ U k : Nat) : Int) := fun H hH hle => by
    obtain ⟨f1, f2⟩ := grid_val hg hH
    have hr := cmp_up (f := k.format) hxy hle
    refine ⟨Nat.lt_of_le_of_lt hr f1, ?_⟩
    have := Nat.mul_le_mul_right (2 ^ g) (rval_le (f := k.format) (Nat.le_of_lt f1) hr)
    rw [f2] at this
    exact_mod_cast this
  have dn : ∀ H : Nat, H < 2 * k.format.binade → H * 2 ^ x ≤ m * 2 ^ y → (H : Int) * ((2 ^ U k : Nat) : Int) ≤ ((rval k.format (rungOf k.format m p) : Nat) : Int) * ((2 ^ g : Nat) : Int) := fun H hH hle => by
    obtain ⟨f1, f2⟩ := grid_val hg hH
    have hr := cmp_dn (f := k.format) hxy hle
    have := Nat.mul_le_mul_right (2 ^ g) (rval_le (f := k.format) (rungOf_le_inf _ _) hr)
    rw [f2] at this
    exact_mod_cast this
  have nn : (0 : Int) ≤ ((rval k.format (rungOf k.format m p) : Nat) : Int) * ((2 ^ g : Nat) : Int) := Int.mul_nonneg (by omega) (Int.le_of_lt hG)
  refine ⟨_, rfl, ?_, word_lt k s (rungOf_le_inf _ _), ?_⟩
  · rw [word_rung _ hw]
    rcases Int.le_total 0 S with h | h
    · have hhi : 0 ≤ hi := by
        rcases Int.lt_or_le hi 0 with h0 | h0
        · have := Int.mul_neg_of_neg_of_pos h0 hX
          have := Int.mul_nonneg h (Int.le_of_lt hY)
          omega
        · exact h0
      refine (up hi.natAbs hh ?_).1
      have e1 : S = (m : Int) := by omega
      have e2 : hi = (hi.natAbs : Int) := by omega
      rw [e1, e2] at h2
      exact_mod_cast h2
    · have hlo : lo ≤ 0 := by
        rcases Int.lt_or_le 0 lo with h0 | h0
        · have := Int.mul_pos h0 hX
          have := Int.mul_nonneg (show 0 ≤ -S by omega) (Int.le_of_lt hY)
          rw [Int.neg_mul] at this
          omega
        · exact h0
      refine (up lo.natAbs hl ?_).1
      have e1 : S = -(m : Int) := by omega
      have e2 : lo = -(lo.natAbs : Int) := by omega
      rw [e1, e2, Int.neg_mul, Int.neg_mul] at h1
      have h3 : (m : Int) * ((2 ^ y : Nat) : Int) ≤ (lo.natAbs : Int) * ((2 ^ x : Nat) : Int) := by omega
      exact_mod_cast h3
  · unfold sval
    rw [word_rung _ hw, word_sgn _ hw]
    rcases Int.lt_trichotomy S 0 with h | h | h
    · rw [hs1 h]
      simp only [if_true]
      have e1 : S = -(m : Int) := by omega
      rw [e1, Int.neg_mul] at h1 h2
      rw [Int.neg_mul]
      refine ⟨?_, ?_⟩
      · have hlo : lo ≤ 0 := by
          rcases Int.lt_or_le 0 lo with h0 | h0
          · have := Int.mul_pos h0 hX
            have := Int.mul_nonneg (show (0 : Int) ≤ m by omega) (Int.le_of_lt hY)
            omega
          · exact h0
        have e2 : lo = -(lo.natAbs : Int) := by omega
        rw [e2, Int.neg_mul] at h1 ⊢
        have h3 : (m : Int) * ((2 ^ y : Nat) : Int) ≤ (lo.natAbs : Int) * ((2 ^ x : Nat) : Int) := by omega
        have := (up lo.natAbs hl (by exact_mod_cast h3)).2
        omega
      · rcases Int.le_total 0 hi with h0 | h0
        · have := Int.mul_nonneg h0 (Int.le_of_lt hT)
          omega
        · have e2 : hi = -(hi.natAbs : Int) := by omega
          rw [e2, Int.neg_mul] at h2 ⊢
          have h3 : (hi.natAbs : Int) * ((2 ^ x : Nat) : Int) ≤ (m : Int) * ((2 ^ y : Nat) : Int) := by omega
          have := dn hi.natAbs hh (by exact_mod_cast h3)
          omega
    · have hm : m = 0 := by omega
      have e0 : rval k.format (rungOf k.format m p) = 0 := by
        subst hm
        unfold rungOf
        rw [if_pos rfl, rval_zero]
      rw [h, Int.zero_mul] at h1 h2
      have hlo : lo ≤ 0 := by
        rcases Int.lt_or_le 0 lo with h0 | h0
        · have := Int.mul_pos h0 hX; omega
        · exact h0
      have hhi : 0 ≤ hi := by
        rcases Int.lt_or_le hi 0 with h0 | h0
        · have := Int.mul_neg_of_neg_of_pos h0 hX; omega
        · exact h0
      have a1 := Int.mul_nonneg hhi (Int.le_of_lt hT)
      have a2 := Int.mul_nonneg (show 0 ≤ -lo by omega) (Int.le_of_lt hT)
      rw [Int.neg_mul] at a2
      rw [e0]
      have hz : (if s = true then -((0 : Nat) : Int) else ((0 : Nat) : Int)) = 0 := by split <;> rfl
      rw [hz, Int.zero_mul]
      exact ⟨by omega, a1⟩
    · rw [hs2 h]
      simp only [if_false, Bool.false_eq_true]
      have e1 : S = (m : Int) := by omega
      rw [e1] at h1 h2
      refine ⟨?_, ?_⟩
      · rcases Int.le_total lo 0 with h0 | h0
        · have := Int.mul_nonneg (show 0 ≤ -lo by omega) (Int.le_of_lt hT)
          rw [Int.neg_mul] at this
          omega
        · have e2 : lo = (lo.natAbs : Int) := by omega
          rw [e2] at h1 ⊢
          exact dn lo.natAbs hl (by exact_mod_cast h1)
      · have hhi : 0 ≤ hi := by
          rcases Int.lt_or_le hi 0 with h0 | h0
          · have := Int.mul_neg_of_neg_of_pos h0 hX
            have := Int.mul_nonneg (show (0 : Int) ≤ m by omega) (Int.le_of_lt hY)
            omega
          · exact h0
        have e2 : hi = (hi.natAbs : Int) := by omega
        rw [e2] at h2 ⊢
        exact (up hi.natAbs hh (by exact_mod_cast h2)).2
/-- the corners of a product -/
theorem corner_lo {l1 h1 l2 h2 t u L : Int} (a1 : l1 ≤ t) (a2 : t ≤ h1) (b1 : l2 ≤ u) (b2 : u ≤ h2) (c1 : L ≤ l1 * l2) (c2 : L ≤ l1 * h2) (c3 : L ≤ h1 * l2) (c4 : L ≤ h1 * h2) : L ≤ t * u := by
  have lin : ∀ s : Int, L ≤ s * l2 → L ≤ s * h2 → L ≤ s * u := fun s k1 k2 => by
    rcases Int.le_total 0 s with h | h
    · exact Int.le_trans k1 (Int.mul_le_mul_of_nonneg_left b1 h)
    · exact Int.le_trans k2 (Int.mul_le_mul_of_nonpos_left h b2)
  have e1 := lin l1 c1 c2
  have e2 := lin h1 c3 c4
  rcases Int.le_total 0 u with h | h
  · exact Int.le_trans e1 (Int.mul_le_mul_of_nonneg_right a1 h)
  · exact Int.le_trans e2 (Int.mul_le_mul_of_nonpos_right a2 h)
theorem corner_hi {l1 h1 l2 h2 t u H : Int} (a1 : l1 ≤ t) (a2 : t ≤ h1) (b1 : l2 ≤ u) (b2 : u ≤ h2) (c1 : l1 * l2 ≤ H) (c2 : l1 * h2 ≤ H) (c3 : h1 * l2 ≤ H) (c4 : h1 * h2 ≤ H) : t * u ≤ H := by
  have := corner_lo (L := -H) (l1 := -h1) (h1 := -l1) (t := -t) (l2 := l2) (h2 := h2) (u := u) (by omega) (by omega) b1 b2 (by rw [Int.neg_mul]; omega) (by rw [Int.neg_mul]; omega) (by rw [Int.neg_mul]; omega) (by rw [Int.neg_mul]; omega)
  rw [Int.neg_mul] at this
  omega
theorem Rg.add {k : FloatKind} {g : Nat} {c d : Option Nat} {l1 h1 l2 h2 : Int} (hc : Rg k g c l1 h1) (hd : Rg k g d l2 h2) (hl : (l1 + l2).natAbs < 2 * k.format.binade) (hh : (h1 + h2).natAbs < 2 * k.format.binade) (hg : g ≤ U k) :
    Rg k g (fop .add k c d) (l1 + l2) (h1 + h2) := by
  obtain ⟨a, rfl, fa, wa, a1, a2⟩ := hc
  obtain ⟨b, rfl, fb, wb, b1, b2⟩ := hd
  have e : fop .add k (some a) (some b) = some (k.format.word (sumSign (sgn k.format a) (sgn k.format b) (sval k.format a + sval k.format b)) (rungOf k.format (sval k.format a + sval k.format b).natAbs k.format.leastPlace)) := add_fin fa fb
  rw [e]
  refine rnd_rg (S := sval k.format a + sval k.format b) (x := U k) (y := g) rfl (fun h => ?_) (fun h => ?_) (by rw [lp_U k]; omega) (by rw [Int.add_mul, Int.add_mul]; omega) (by rw [Int.add_mul, Int.add_mul]; omega) hl hh hg
  · unfold sumSign
    rw [if_neg (by omega)]
    exact decide_eq_true h
  · unfold sumSign
    rw [if_neg (by omega)]
    exact decide_eq_false (by omega)
theorem Rg.sub {k : FloatKind} {g : Nat} {c d : Option Nat} {l1 h1 l2 h2 : Int} (hc : Rg k g c l1 h1) (hd : Rg k g d l2 h2) (hl : (l1 - h2).natAbs < 2 * k.format.binade) (hh : (h1 - l2).natAbs < 2 * k.format.binade) (hg : g ≤ U k) :
    Rg k g (fop .sub k c d) (l1 - h2) (h1 - l2) := by
  obtain ⟨a, rfl, fa, wa, a1, a2⟩ := hc
  obtain ⟨b, rfl, fb, wb, b1, b2⟩ := hd
  have e : fop .sub k (some a) (some b) = some (k.format.word (sumSign (sgn k.format a) (!sgn k.format b) (sval k.format a - sval k.format b)) (rungOf k.format (sval k.format a - sval k.format b).natAbs k.format.leastPlace)) := sub_fin fa fb
  rw [e]
  refine rnd_rg (S := sval k.format a - sval k.format b) (x := U k) (y := g) rfl (fun h => ?_) (fun h => ?_) (by rw [lp_U k]; omega) (by rw [Int.sub_mul, Int.sub_mul]; omega) (by rw [Int.sub_mul, Int.sub_mul]; omega) hl hh hg
  · unfold sumSign
    rw [if_neg (by omega)]
    exact decide_eq_true h
  · unfold sumSign
    rw [if_neg (by omega)]
    exact decide_eq_false (by omega)
theorem sval_sgn {f : Format} (a : Nat) : (sval f a < 0 → sgn f a = true) ∧ (0 < sval f a → sgn f a = false) := by
  unfold sval
  cases sgn f a
  · simp
  · simp
theorem Rg.mul {k : FloatKind} {g : Nat} {c d : Option Nat} {l1 h1 l2 h2 lo hi : Int} (hc : Rg k g c l1 h1) (hd : Rg k g d l2 h2)
    (c1 : lo * ((2 ^ g : Nat) : Int) ≤ l1 * l2) (c2 : lo * ((2 ^ g : Nat) : Int) ≤ l1 * h2) (c3 : lo * ((2 ^ g : Nat) : Int) ≤ h1 * l2) (c4 : lo * ((2 ^ g : Nat) : Int) ≤ h1 * h2)
    (d1 : l1 * l2 ≤ hi * ((2 ^ g : Nat) : Int)) (d2 : l1 * h2 ≤ hi * ((2 ^ g : Nat) : Int)) (d3 : h1 * l2 ≤ hi * ((2 ^ g : Nat) : Int)) (d4 : h1 * h2 ≤ hi * ((2 ^ g : Nat) : Int))
    (hl : lo.natAbs < 2 * k.format.binade) (hh : hi.natAbs < 2 * k.format.binade) (hg : g ≤ U k) :
    Rg k g (fop .mul k c d) lo hi := by
  obtain ⟨a, rfl, fa, wa, a1, a2⟩ := hc
  obtain ⟨b, rfl, fb, wb, b1, b2⟩ := hd
  have e : fop .mul k (some a) (some b) = some (k.format.word (sgn k.format a ^^ sgn k.format b) (rungOf k.format (rval k.format (rung k.format a) * rval k.format (rung k.format b)) (k.format.leastPlace + k.format.leastPlace))) := mul_fin fa fb
  rw [e]
  have hG : (0 : Int) < ((2 ^ g : Nat) : Int) := by have := Nat.two_pow_pos g; omega
  have hT := two_pos k
  generalize hu : ((2 ^ U k : Nat) : Int) = T at *
  generalize hgg : ((2 ^ g : Nat) : Int) = G at *
  have hTT : (0 : Int) < T * T := Int.mul_pos hT hT
  -- scaled corners
  have sc : ∀ p q : Int, p * T * (q * T) = p * q * (T * T) := fun p q => by rw [Int.mul_assoc, Int.mul_assoc, Int.mul_left_comm T]
  have up : ∀ {p q : Int}, p ≤ q → p * (T * T) ≤ q * (T * T) := fun h => Int.mul_le_mul_of_nonneg_right h (Int.le_of_lt hTT)
  have k1 := corner_lo (L := lo * G * (T * T)) a1 a2 b1 b2 (by rw [sc]; exact up c1) (by rw [sc]; exact up c2) (by rw [sc]; exact up c3) (by rw [sc]; exact up c4)
  have k2 := corner_hi (H := hi * G * (T * T)) a1 a2 b1 b2 (by rw [sc]; exact up d1) (by rw [sc]; exact up d2) (by rw [sc]; exact up d3) (by rw [sc]; exact up d4)
  have m1 : sval k.format a * G * (sval k.format b * G) = sval k.format a * sval k.format b * G * G := by rw [Int.mul_assoc, Int.mul_left_comm G, ← Int.mul_assoc, ← Int.mul_assoc]
  rw [m1] at k1 k2
  have m2 : lo * G * (T * T) = lo * (T * T) * G := by rw [Int.mul_assoc, Int.mul_comm G, ← Int.mul_assoc]
  have m3 : hi * G * (T * T) = hi * (T * T) * G := by rw [Int.mul_assoc, Int.mul_comm G, ← Int.mul_assoc]
  rw [m2] at k1
  rw [m3] at k2
  have k3 := Int.le_of_mul_le_mul_right k1 hG
  have k4 := Int.le_of_mul_le_mul_right k2 hG
  have ex : ((2 ^ (U k + U k) : Nat) : Int) = T * T := by rw [Nat.pow_add, Int.natCast_mul, hu]
  refine rnd_rg (S := sval k.format a * sval k.format b) (x := U k + U k) (y := g) ?_ (fun h => ?_) (fun h => ?_) (by rw [lp_U k]; omega) (by rw [ex, hgg]; exact k3) (by rw [ex, hgg]; exact k4) hl hh hg
  · rw [Int.natAbs_mul, natAbs_sval, natAbs_sval]
  · obtain ⟨n1, n2⟩ := sval_sgn (f := k.format) a
    obtain ⟨n3, n4⟩ := sval_sgn (f := k.format) b
    rcases Int.lt_trichotomy (sval k.format a) 0 with x | x | x <;> rcases Int.lt_trichotomy (sval k.format b) 0 with y | y | y
    · have := Int.mul_pos_of_neg_of_neg x y; omega
    · rw [y] at h; simp at h
    · rw [n1 x, n4 y]; rfl
    · rw [x] at h; simp at h
    · rw [x] at h; simp at h
    · rw [x] at h; simp at h
    · rw [n2 x, n3 y]; rfl
    · rw [y] at h; simp at h
    · have := Int.mul_pos x y; omega
  · obtain ⟨n1, n2⟩ := sval_sgn (f := k.format) a
    obtain ⟨n3, n4⟩ := sval_sgn (f := k.format) b
    rcases Int.lt_trichotomy (sval k.format a) 0 with x | x | x <;> rcases Int.lt_trichotomy (sval k.format b) 0 with y | y | y
    · rw [n1 x, n3 y]; rfl
    · rw [y] at h; simp at h
    · have := Int.mul_neg_of_neg_of_pos x y; omega
    · rw [x] at h; simp at h
    · rw [x] at h; simp at h
    · rw [x] at h; simp at h
    · have := Int.mul_neg_of_pos_of_neg x y; omega
    · rw [y] at h; simp at h
    · rw [n2 x, n4 y]; rfl
end Flt
