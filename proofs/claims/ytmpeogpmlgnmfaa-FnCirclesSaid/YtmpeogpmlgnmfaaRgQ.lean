/- Intervals of floats on a grid: quotients, and intervals as data. -/
import Derived.Test.YtmpeogpmlgnmfaaRg
namespace Flt
open Go Ieee
set_option exponentiation.threshold 3000

theorem nn0 (n : Nat) : (0 : Int) ≤ (n : Int) := Int.natCast_nonneg n
/-- a quotient with its sticky bit and the grid -/
theorem sticky_le {X n K : Nat} (h : X ≤ K * n) : 2 * (X / n) + (X % n != 0).toNat ≤ 2 * K := by
  have e := Nat.div_add_mod X n
  rcases Nat.eq_zero_or_pos n with h0 | h0
  · subst h0
    have : X = 0 := by omega
    subst this
    simp
  have hq : X / n ≤ K := by
    have := Nat.div_le_div_right (c := n) h
    rwa [Nat.mul_div_cancel _ h0] at this
  rcases Nat.lt_or_eq_of_le hq with h1 | h1
  · have : (X % n != 0).toNat ≤ 1 := Bool.toNat_le _
    omega
  · rw [h1] at e
    have h2 : X % n = 0 := by rw [Nat.mul_comm] at e; omega
    rw [h2]
    simp
    omega
theorem le_sticky {X n K : Nat} (hn : 0 < n) (h : K * n ≤ X) : 2 * K ≤ 2 * (X / n) + (X % n != 0).toNat := by
  have : K ≤ X / n := (Nat.le_div_iff_mul_le hn).2 h
  omega
theorem quo_up {m n M I J g d H : Nat} (hd : M + J = I + g + d) (h : m * 2 ^ I * 2 ^ g ≤ H * (n * 2 ^ J)) : (2 * (m * 2 ^ M / n) + (m * 2 ^ M % n != 0).toNat) * 2 ^ (I + g) ≤ H * 2 ^ (J + M + 1) := by
  have h1 : m * 2 ^ M ≤ H * 2 ^ d * n := by
    apply Nat.le_of_mul_le_mul_right (c := 2 ^ (I + g)) _ (Nat.two_pow_pos _)
    calc m * 2 ^ M * 2 ^ (I + g) = m * 2 ^ I * 2 ^ g * 2 ^ M := by rw [Nat.pow_add]; ac_rfl
      _ ≤ H * (n * 2 ^ J) * 2 ^ M := Nat.mul_le_mul_right _ h
      _ = H * n * 2 ^ (M + J) := by rw [Nat.pow_add]; ac_rfl
      _ = H * 2 ^ d * n * 2 ^ (I + g) := by rw [hd, Nat.pow_add]; ac_rfl
  have h2 := sticky_le h1
  calc (2 * (m * 2 ^ M / n) + (m * 2 ^ M % n != 0).toNat) * 2 ^ (I + g) ≤ 2 * (H * 2 ^ d) * 2 ^ (I + g) := Nat.mul_le_mul_right _ h2
    _ = H * 2 ^ (J + M + 1) := by rw [show J + M + 1 = I + g + d + 1 by omega, Nat.pow_succ, Nat.pow_add _ (I + g)]; ac_rfl
theorem quo_dn {m n M I J g d H : Nat} (hn : 0 < n) (hd : M + J = I + g + d) (h : H * (n * 2 ^ J) ≤ m * 2 ^ I * 2 ^ g) : H * 2 ^ (J + M + 1) ≤ (2 * (m * 2 ^ M / n) + (m * 2 ^ M % n != 0).toNat) * 2 ^ (I + g) := by
  have h1 : H * 2 ^ d * n ≤ m * 2 ^ M := by
    apply Nat.le_of_mul_le_mul_right (c := 2 ^ (I + g)) _ (Nat.two_pow_pos _)
    calc H * 2 ^ d * n * 2 ^ (I + g) = H * n * 2 ^ (M + J) := by rw [hd, Nat.pow_add _ (I + g) d]; ac_rfl
      _ = H * (n * 2 ^ J) * 2 ^ M := by rw [Nat.pow_add]; ac_rfl
      _ ≤ m * 2 ^ I * 2 ^ g * 2 ^ M := Nat.mul_le_mul_right _ h
      _ = m * 2 ^ M * 2 ^ (I + g) := by rw [Nat.pow_add]; ac_rfl
  have h2 := le_sticky hn h1
  calc H * 2 ^ (J + M + 1) = 2 * (H * 2 ^ d) * 2 ^ (I + g) := by rw [show J + M + 1 = I + g + d + 1 by omega, Nat.pow_succ, Nat.pow_add _ (I + g)]; ac_rfl
    _ ≤ _ := Nat.mul_le_mul_right _ h2
/-- a quotient within the grid's reach is reckoned more finely than the grid -/
theorem quo_fine {f m n I J g H : Nat} (hm : m ≠ 0) (hn : n ≠ 0) (h : m * 2 ^ I * 2 ^ g ≤ H * (n * 2 ^ J)) (hH : H < 2 ^ (f + 1)) : I + g ≤ f + 2 + n.log2 - m.log2 + J := by
  generalize hM : f + 2 + n.log2 - m.log2 = M
  have hbig : 2 ^ (f + 1) * n ≤ m * 2 ^ M := by
    have h1 := @Nat.lt_log2_self n
    have h2 := Nat.log2_self_le hm
    calc 2 ^ (f + 1) * n ≤ 2 ^ (f + 1) * 2 ^ (n.log2 + 1) := Nat.mul_le_mul_left _ (Nat.le_of_lt h1)
      _ = 2 ^ (f + 2 + n.log2) := by rw [← Nat.pow_add]; congr 1; omega
      _ ≤ 2 ^ (m.log2 + M) := Nat.pow_le_pow_right (by omega) (by omega)
      _ = 2 ^ m.log2 * 2 ^ M := Nat.pow_add _ _ _
      _ ≤ m * 2 ^ M := Nat.mul_le_mul_right _ h2
  rcases Nat.lt_or_ge (M + J) (I + g) with h0 | h0
  · exfalso
    obtain ⟨e, he⟩ : ∃ e, I + g = M + J + e := ⟨I + g - (M + J), by omega⟩
    have h1 : m * 2 ^ M * 2 ^ e ≤ H * n := by
      apply Nat.le_of_mul_le_mul_right (c := 2 ^ J) _ (Nat.two_pow_pos _)
      calc m * 2 ^ M * 2 ^ e * 2 ^ J = m * 2 ^ (M + J + e) := by rw [Nat.pow_add, Nat.pow_add]; ac_rfl
        _ = m * 2 ^ I * 2 ^ g := by rw [← he, Nat.pow_add]; ac_rfl
        _ ≤ H * (n * 2 ^ J) := h
        _ = H * n * 2 ^ J := by ac_rfl
    have h2 : m * 2 ^ M ≤ m * 2 ^ M * 2 ^ e := Nat.le_mul_of_pos_right _ (Nat.two_pow_pos e)
    have h3 : H * n < 2 ^ (f + 1) * n := Nat.mul_lt_mul_of_pos_right hH (by omega)
    omega
  · exact h0
theorem Rg.quo {k : FloatKind} {g : Nat} {c d : Option Nat} {l1 h1 l2 h2 lo hi : Int} (hc : Rg k g c l1 h1) (hd : Rg k g d l2 h2) (hp : 0 < l2)
    (c1 : lo * l2 ≤ l1 * ((2 ^ g : Nat) : Int)) (c2 : lo * h2 ≤ l1 * ((2 ^ g : Nat) : Int)) (d1 : h1 * ((2 ^ g : Nat) : Int) ≤ hi * l2) (d2 : h1 * ((2 ^ g : Nat) : Int) ≤ hi * h2)
    (hl : lo.natAbs < 2 * k.format.binade) (hh : hi.natAbs < 2 * k.format.binade) (hg : g ≤ U k) :
    Rg k g (fop .quo k c d) lo hi := by
  obtain ⟨a, rfl, fa, wa, a1, a2⟩ := hc
  obtain ⟨b, rfl, fb, wb, b1, b2⟩ := hd
  have hG : (0 : Int) < ((2 ^ g : Nat) : Int) := by have := Nat.two_pow_pos g; omega
  have hT := two_pos k
  -- the bounds of the quotient, in integers
  have lin : ∀ s t : Int, t * l2 ≤ s → t * h2 ≤ s → t * (sval k.format b * ((2 ^ g : Nat) : Int)) ≤ s * ((2 ^ U k : Nat) : Int) := fun s t k1 k2 => by
    rcases Int.le_total 0 t with h | h
    · have e1 := Int.mul_le_mul_of_nonneg_left b2 h
      have e2 := Int.mul_le_mul_of_nonneg_right k2 (Int.le_of_lt hT)
      rw [← Int.mul_assoc t h2] at e1
      exact Int.le_trans e1 e2
    · have e1 := Int.mul_le_mul_of_nonpos_left h b1
      have e2 := Int.mul_le_mul_of_nonneg_right k1 (Int.le_of_lt hT)
      rw [← Int.mul_assoc t l2] at e1
      exact Int.le_trans e1 e2
  have q1 : lo * sval k.format b ≤ sval k.format a * ((2 ^ g : Nat) : Int) := by
    have e1 := lin _ _ c1 c2
    have e2 := Int.mul_le_mul_of_nonneg_right a1 (Int.le_of_lt hG)
    apply Int.le_of_mul_le_mul_right _ hG
    rw [Int.mul_assoc lo]
    refine Int.le_trans e1 (Int.le_trans (Int.le_of_eq ?_) e2)
    rw [Int.mul_assoc, Int.mul_assoc, Int.mul_comm ((2 ^ g : Nat) : Int)]
  have q2 : sval k.format a * ((2 ^ g : Nat) : Int) ≤ hi * sval k.format b := by
    have e1 := lin (-(h1 * ((2 ^ g : Nat) : Int))) (-hi) (by rw [Int.neg_mul]; omega) (by rw [Int.neg_mul]; omega)
    rw [Int.neg_mul, Int.neg_mul] at e1
    have e2 := Int.mul_le_mul_of_nonneg_right a2 (Int.le_of_lt hG)
    apply Int.le_of_mul_le_mul_right _ hG
    rw [Int.mul_assoc hi]
    have e3 : h1 * ((2 ^ U k : Nat) : Int) * ((2 ^ g : Nat) : Int) = h1 * ((2 ^ g : Nat) : Int) * ((2 ^ U k : Nat) : Int) := by rw [Int.mul_assoc, Int.mul_assoc, Int.mul_comm ((2 ^ g : Nat) : Int)]
    omega
  have hY : 0 < sval k.format b := by
    have e1 := Int.mul_pos hp hT
    rcases Int.lt_or_le 0 (sval k.format b) with h | h
    · exact h
    · have := Int.mul_le_mul_of_nonneg_right h (Int.le_of_lt hG)
      rw [Int.zero_mul] at this
      omega
  have hsb : sgn k.format b = false := (sval_sgn b).2 hY
  obtain ⟨m, i, hra, hi1, hva⟩ := read_fin fa
  obtain ⟨n, j, hrb, hj1, hvb⟩ := read_fin fb
  have nb := natAbs_sval (f := k.format) b
  have na := natAbs_sval (f := k.format) a
  generalize hX : sval k.format a = X at *
  generalize hYY : sval k.format b = Y at *
  rw [← hva] at na
  rw [← hvb] at nb
  have hn : n ≠ 0 := by
    rintro rfl
    rw [Nat.zero_mul] at nb
    omega
  have hlp := lp_U k
  generalize hI : (i - k.format.leastPlace).toNat = I at *
  generalize hJ : (j - k.format.leastPlace).toNat = J at *
  have hbin : 2 * k.format.binade = 2 ^ (k.format.fractionBits + 1) := by unfold Format.binade; rw [Nat.pow_succ, Nat.mul_comm]
  have e : fop .quo k (some a) (some b) = some (k.format.word (sgn k.format a) (rungOf k.format (2 * (m * 2 ^ (k.format.fractionBits + 2 + n.log2 - m.log2) / n) + (m * 2 ^ (k.format.fractionBits + 2 + n.log2 - m.log2) % n != 0).toNat) (i - j - ((k.format.fractionBits + 2 + n.log2 - m.log2 : Nat) : Int) - 1))) := by
    show k.format.div a b = _
    unfold Format.div
    rw [hra, hrb, hsb]
    simp only [Datum.quotient, if_neg hn, Option.map_some, Format.write, nearest_eq, Nat.shiftLeft_eq, Bool.xor_false]
  rw [e]
  by_cases hm : m = 0
  · subst hm
    have hX0 : X = 0 := by rw [Nat.zero_mul] at na; omega
    rw [hX0, Int.zero_mul] at q1 q2
    have hlo : lo ≤ 0 := by
      rcases Int.lt_or_le 0 lo with h0 | h0
      · have := Int.mul_pos h0 hY; omega
      · exact h0
    have hhi : 0 ≤ hi := by
      rcases Int.lt_or_le hi 0 with h0 | h0
      · have := Int.mul_neg_of_neg_of_pos h0 hY; omega
      · exact h0
    have z : rungOf k.format (2 * (0 * 2 ^ (k.format.fractionBits + 2 + n.log2 - Nat.log2 0) / n) + (0 * 2 ^ (k.format.fractionBits + 2 + n.log2 - Nat.log2 0) % n != 0).toNat) (i - j - ((k.format.fractionBits + 2 + n.log2 - Nat.log2 0 : Nat) : Int) - 1) = rungOf k.format 0 (-(g : Int)) := by
      unfold rungOf
      simp
    rw [z]
    exact rnd_rg (S := 0) (x := 0) (y := 0) rfl (fun h => by omega) (fun h => by omega) (by omega) (by simpa using hlo) (by simpa using hhi) hl hh hg
  · have mag : (((m * 2 ^ I * 2 ^ g : Nat)) : Int) = (X.natAbs : Int) * ((2 ^ g : Nat) : Int) := by rw [← na]; simp
    have up : ∀ H : Nat, H < 2 * k.format.binade → (X.natAbs : Int) * ((2 ^ g : Nat) : Int) ≤ (H : Int) * Y → m * 2 ^ I * 2 ^ g ≤ H * (n * 2 ^ J) := fun H _ h => by
      have : ((m * 2 ^ I * 2 ^ g : Nat) : Int) ≤ ((H * (n * 2 ^ J) : Nat) : Int) := by
        rw [mag]
        refine Int.le_trans h (Int.le_of_eq ?_)
        rw [Int.natCast_mul, show ((n * 2 ^ J : Nat) : Int) = Y by omega]
      exact_mod_cast this
    have dn : ∀ H : Nat, (H : Int) * Y ≤ (X.natAbs : Int) * ((2 ^ g : Nat) : Int) → H * (n * 2 ^ J) ≤ m * 2 ^ I * 2 ^ g := fun H h => by
      have : ((H * (n * 2 ^ J) : Nat) : Int) ≤ ((m * 2 ^ I * 2 ^ g : Nat) : Int) := by
        rw [mag]
        refine Int.le_trans (Int.le_of_eq ?_) h
        rw [Int.natCast_mul, show ((n * 2 ^ J : Nat) : Int) = Y by omega]
      exact_mod_cast this
    rcases Int.lt_or_le X 0 with hneg | hpos
    · -- a negative quotient
      have eX : X = -(X.natAbs : Int) := by omega
      rw [eX, Int.neg_mul] at q1 q2
      have hlo : lo < 0 := by
        rcases Int.lt_or_le lo 0 with h0 | h0
        · exact h0
        · have := Int.mul_nonneg h0 (Int.le_of_lt hY)
          have := Int.mul_pos (show (0 : Int) < X.natAbs by omega) hG
          omega
      have el : lo = -(lo.natAbs : Int) := by omega
      have u := up lo.natAbs hl (by rw [el, Int.neg_mul] at q1; omega)
      have fine := quo_fine (f := k.format.fractionBits) hm hn u (by omega)
      generalize k.format.fractionBits + 2 + n.log2 - m.log2 = M at *
      obtain ⟨dd, hdd⟩ : ∃ dd, M + J = I + g + dd := ⟨M + J - (I + g), by omega⟩
      have u2 := quo_up hdd u
      refine rnd_rg (S := -((2 * (m * 2 ^ M / n) + (m * 2 ^ M % n != 0).toNat : Nat) : Int)) (x := J + M + 1) (y := I + g) (by omega) (fun _ => (sval_sgn (f := k.format) a).1 (by rw [hX]; exact hneg)) (fun h => by omega) (by omega) ?_ ?_ hl hh hg
      · rw [el, Int.neg_mul, Int.neg_mul]
        have : (((2 * (m * 2 ^ M / n) + (m * 2 ^ M % n != 0).toNat) * 2 ^ (I + g) : Nat) : Int) ≤ ((lo.natAbs * 2 ^ (J + M + 1) : Nat) : Int) := by exact_mod_cast u2
        rw [Int.natCast_mul, Int.natCast_mul lo.natAbs] at this
        omega
      · rw [Int.neg_mul]
        rcases Int.le_total 0 hi with h0 | h0
        · have x1 : (0 : Int) ≤ hi * ((2 ^ (J + M + 1) : Nat) : Int) := Int.mul_nonneg h0 (nn0 _)
          have x2 : (0 : Int) ≤ ((2 * (m * 2 ^ M / n) + (m * 2 ^ M % n != 0).toNat : Nat) : Int) * ((2 ^ (I + g) : Nat) : Int) := Int.mul_nonneg (nn0 _) (nn0 _)
          omega
        · have eh : hi = -(hi.natAbs : Int) := by omega
          have u3 := quo_dn (by omega) hdd (dn hi.natAbs (by rw [eh, Int.neg_mul] at q2; omega))
          have : ((hi.natAbs * 2 ^ (J + M + 1) : Nat) : Int) ≤ (((2 * (m * 2 ^ M / n) + (m * 2 ^ M % n != 0).toNat) * 2 ^ (I + g) : Nat) : Int) := by exact_mod_cast u3
          rw [Int.natCast_mul, Int.natCast_mul (2 * (m * 2 ^ M / n) + (m * 2 ^ M % n != 0).toNat)] at this
          rw [eh, Int.neg_mul]
          omega
    · have eX : X = (X.natAbs : Int) := by omega
      have hX1 : 0 < X := by
        rcases Int.lt_or_le 0 X with h0 | h0
        · exact h0
        · have : m * 2 ^ I = 0 := by omega
          rcases Nat.mul_eq_zero.1 this with h1 | h1
          · exact absurd h1 hm
          · have := Nat.two_pow_pos I; omega
      rw [eX] at q1 q2
      have hhi : 0 < hi := by
        rcases Int.lt_or_le 0 hi with h0 | h0
        · exact h0
        · have h3 := Int.mul_le_mul_of_nonneg_right h0 (Int.le_of_lt hY)
          have := Int.mul_pos (show (0 : Int) < X.natAbs by omega) hG
          rw [Int.zero_mul] at h3
          omega
      have eh : hi = (hi.natAbs : Int) := by omega
      have u := up hi.natAbs hh (by rw [eh] at q2; exact q2)
      have fine := quo_fine (f := k.format.fractionBits) hm hn u (by omega)
      generalize k.format.fractionBits + 2 + n.log2 - m.log2 = M at *
      obtain ⟨dd, hdd⟩ : ∃ dd, M + J = I + g + dd := ⟨M + J - (I + g), by omega⟩
      have u2 := quo_up hdd u
      refine rnd_rg (S := ((2 * (m * 2 ^ M / n) + (m * 2 ^ M % n != 0).toNat : Nat) : Int)) (x := J + M + 1) (y := I + g) (by omega) (fun h => by omega) (fun _ => (sval_sgn (f := k.format) a).2 (by rw [hX]; exact hX1)) (by omega) ?_ ?_ hl hh hg
      · rcases Int.le_total lo 0 with h0 | h0
        · have x1 := Int.mul_le_mul_of_nonneg_right h0 (nn0 (2 ^ (J + M + 1)))
          have x2 : (0 : Int) ≤ ((2 * (m * 2 ^ M / n) + (m * 2 ^ M % n != 0).toNat : Nat) : Int) * ((2 ^ (I + g) : Nat) : Int) := Int.mul_nonneg (nn0 _) (nn0 _)
          rw [Int.zero_mul] at x1
          omega
        · have el : lo = (lo.natAbs : Int) := by omega
          have u3 := quo_dn (by omega) hdd (dn lo.natAbs (by rw [el] at q1; exact q1))
          have : ((lo.natAbs * 2 ^ (J + M + 1) : Nat) : Int) ≤ (((2 * (m * 2 ^ M / n) + (m * 2 ^ M % n != 0).toNat) * 2 ^ (I + g) : Nat) : Int) := by exact_mod_cast u3
          rw [Int.natCast_mul, Int.natCast_mul (2 * (m * 2 ^ M / n) + (m * 2 ^ M % n != 0).toNat)] at this
          rw [el]
          exact this
      · have : (((2 * (m * 2 ^ M / n) + (m * 2 ^ M % n != 0).toNat) * 2 ^ (I + g) : Nat) : Int) ≤ ((hi.natAbs * 2 ^ (J + M + 1) : Nat) : Int) := by exact_mod_cast u2
        rw [Int.natCast_mul, Int.natCast_mul hi.natAbs] at this
        rw [eh]
        exact this
end Flt
