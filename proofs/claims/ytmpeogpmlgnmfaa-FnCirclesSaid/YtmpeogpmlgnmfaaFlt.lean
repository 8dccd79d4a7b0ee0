import Derived.WalkLawsBesides
namespace Flt
open Go Ieee

/-- the nearest whole number to n / d, ties to even -/
def rne (n d : Nat) : Nat := n / d + (if d < 2 * (n % d) ∨ (d = 2 * (n % d) ∧ n / d % 2 = 1) then 1 else 0)

theorem rne_upper (n d : Nat) (hd : 0 < d) : 2 * (rne n d * d) ≤ 2 * n + d ∧ (2 * (rne n d * d) = 2 * n + d → rne n d % 2 = 0) := by
  unfold rne
  have h := Nat.div_add_mod n d
  have hm := Nat.mod_lt n hd
  rw [Nat.mul_comm] at h
  generalize n / d = q at *
  generalize n % d = r at *
  subst h
  split
  · rename_i hc
    rw [Nat.add_mul]
    constructor
    · omega
    · intro he
      have : d = 2 * r := by omega
      omega
  · rename_i hc
    rw [Nat.add_zero]
    constructor
    · omega
    · intro he; omega

theorem rne_lower (n d : Nat) (hd : 0 < d) : 2 * n ≤ 2 * (rne n d * d) + d ∧ (2 * n = 2 * (rne n d * d) + d → rne n d % 2 = 0) := by
  unfold rne
  have h := Nat.div_add_mod n d
  have hm := Nat.mod_lt n hd
  rw [Nat.mul_comm] at h
  generalize n / d = q at *
  generalize n % d = r at *
  subst h
  split
  · rename_i hc
    rw [Nat.add_mul]
    constructor
    · omega
    · intro he; omega
  · rename_i hc
    rw [Nat.add_zero]
    constructor
    · omega
    · intro he
      have : d = 2 * r := by omega
      omega

theorem rne_mono {n1 d1 n2 d2 : Nat} (h1 : 0 < d1) (h2 : 0 < d2) (h : n1 * d2 ≤ n2 * d1) : rne n1 d1 ≤ rne n2 d2 := by
  obtain ⟨u1, u2⟩ := rne_upper n1 d1 h1
  obtain ⟨l1, l2⟩ := rne_lower n2 d2 h2
  generalize rne n1 d1 = a at *
  generalize rne n2 d2 = b at *
  rcases Nat.lt_or_ge b a with hlt | hge
  · exfalso
    -- b + 1 ≤ a
    have ha : (b + 1) * d1 ≤ a * d1 := Nat.mul_le_mul_right _ hlt
    have e1 : 2 * ((b + 1) * d1) ≤ 2 * n1 + d1 := by omega
    -- multiply
    have m1 : 2 * ((b + 1) * d1) * d2 ≤ (2 * n1 + d1) * d2 := Nat.mul_le_mul_right _ e1
    have m2 : 2 * n2 * d1 ≤ (2 * (b * d2) + d2) * d1 := Nat.mul_le_mul_right _ l1
    have x1 : 2 * ((b + 1) * d1) * d2 = 2 * (b * (d1 * d2)) + 2 * (d1 * d2) := by
      simp only [Nat.add_mul, Nat.mul_add, Nat.one_mul, Nat.mul_assoc]
    have x2 : (2 * n1 + d1) * d2 = 2 * (n1 * d2) + d1 * d2 := by
      simp only [Nat.add_mul, Nat.mul_assoc]
    have x3 : 2 * n2 * d1 = 2 * (n2 * d1) := by rw [Nat.mul_assoc]
    have x4 : (2 * (b * d2) + d2) * d1 = 2 * (b * (d1 * d2)) + d1 * d2 := by
      rw [Nat.add_mul, Nat.mul_assoc, Nat.mul_assoc, Nat.mul_comm d2 d1]
    rw [x1, x2] at m1
    rw [x3, x4] at m2
    have hp : 0 < d1 * d2 := Nat.mul_pos h1 h2
    -- now equalities
    have q1 : 2 * (n1 * d2) + d1 * d2 = 2 * (b * (d1 * d2)) + 2 * (d1 * d2) := by omega
    have q2 : 2 * (n2 * d1) = 2 * (b * (d1 * d2)) + d1 * d2 := by omega
    have r2 : 2 * n2 = 2 * (b * d2) + d2 := by
      apply Nat.eq_of_mul_eq_mul_right h1
      rw [x3, x4]; exact q2
    have hb := l2 r2
    have r1 : 2 * n1 + d1 = 2 * ((b + 1) * d1) := by
      apply Nat.eq_of_mul_eq_mul_right h2
      rw [x1, x2]; exact q1
    have hab : a * d1 ≤ (b + 1) * d1 := by omega
    have : a ≤ b + 1 := Nat.le_of_mul_le_mul_right hab h1
    have hae : a = b + 1 := by omega
    subst hae
    have := u2 r1.symm
    omega
  · exact hge

theorem rne_scale {n d c : Nat} (hd : 0 < d) (hc : 0 < c) : rne (n * c) (d * c) = rne n d := by
  apply Nat.le_antisymm
  · apply rne_mono (Nat.mul_pos hd hc) hd
    rw [Nat.mul_assoc, Nat.mul_comm c d]; exact Nat.le_refl _
  · apply rne_mono hd (Nat.mul_pos hd hc)
    rw [Nat.mul_assoc, Nat.mul_comm c d]; exact Nat.le_refl _

theorem rne_one (n : Nat) : rne n 1 = n := by
  unfold rne; simp [Nat.mod_one]

theorem rne_exact {k d : Nat} (hd : 0 < d) : rne (k * d) d = k := by
  have := rne_scale (n := k) (d := 1) (c := d) (by omega) hd
  rw [Nat.one_mul] at this
  rw [this, rne_one]

theorem rne_eq_of {n1 d1 n2 d2 : Nat} (h1 : 0 < d1) (h2 : 0 < d2) (h : n1 * d2 = n2 * d1) : rne n1 d1 = rne n2 d2 :=
  Nat.le_antisymm (rne_mono h1 h2 (Nat.le_of_eq h)) (rne_mono h2 h1 (Nat.le_of_eq h.symm))

theorem cut_even (neg : Bool) (n drop : Nat) : Toward.even.cut neg n drop = rne n (2 ^ drop) := by
  unfold Toward.cut
  simp only [Nat.one_shiftLeft]
  by_cases h : drop ≤ n.log2 + 2
  · rw [Nat.min_eq_left h]
    unfold rne
    congr 1
    split
    · rename_i hc
      have : (decide (2 ^ drop < 2 * (n % 2 ^ drop)) || (2 ^ drop == 2 * (n % 2 ^ drop)) && n / 2 ^ drop % 2 == 1) = true := by
        simpa using hc
      rw [this]; rfl
    · rename_i hc
      have : (decide (2 ^ drop < 2 * (n % 2 ^ drop)) || (2 ^ drop == 2 * (n % 2 ^ drop)) && n / 2 ^ drop % 2 == 1) = false := by
        rw [← Bool.not_eq_true]; simpa using hc
      rw [this]; rfl
  · have h' : n.log2 + 2 ≤ drop := by omega
    rw [Nat.min_eq_right h']
    have hn : n < 2 ^ (n.log2 + 1) := Nat.lt_log2_self
    have e2 : 2 ^ (n.log2 + 2) = 2 * 2 ^ (n.log2 + 1) := by rw [Nat.pow_succ 2 (n.log2 + 1), Nat.mul_comm]
    have e3 : 2 ^ (n.log2 + 2) ≤ 2 ^ drop := Nat.pow_le_pow_right (by omega) h'
    have hlow : n / 2 ^ (n.log2 + 2) = 0 := Nat.div_eq_of_lt (by omega)
    have hmod : n % 2 ^ (n.log2 + 2) = n := Nat.mod_eq_of_lt (by omega)
    have hlow' : n / 2 ^ drop = 0 := Nat.div_eq_of_lt (by omega)
    have hmod' : n % 2 ^ drop = n := Nat.mod_eq_of_lt (by omega)
    unfold rne
    rw [hlow, hmod, hlow', hmod']
    have : (decide (2 ^ (n.log2 + 2) < 2 * n) || (2 ^ (n.log2 + 2) == 2 * n) && 0 % 2 == 1) = false := by
      rw [← Bool.not_eq_true]; simp; omega
    rw [this, if_neg (by omega)]
    rfl

section
variable (f : Format)

def lastOf (mag : Nat) (place : Int) : Int := max (place + mag.log2 - f.fractionBits) f.leastPlace
def keptOf (mag : Nat) (place : Int) : Nat := rne (mag * 2 ^ (place - lastOf f mag place).toNat) (2 ^ (lastOf f mag place - place).toNat)
def rungRaw (mag : Nat) (place : Int) : Nat := (lastOf f mag place - f.leastPlace).toNat * f.binade + keptOf f mag place
/-- the rung of the nearest word -/
def rungOf (mag : Nat) (place : Int) : Nat := if mag = 0 then 0 else min (rungRaw f mag place) f.infRung

theorem nearest_eq (neg : Bool) (mag : Nat) (place : Int) : f.nearest neg mag place = f.word neg (rungOf f mag place) := by
  unfold Format.nearest rungOf
  by_cases h : mag = 0
  · simp [h]
  · rw [if_neg h, if_neg h]
    simp only [cut_even]
    unfold rungRaw keptOf lastOf
    rw [Nat.shiftLeft_eq]

variable {f}
theorem binade_pos : 0 < f.binade := Nat.two_pow_pos _

theorem last_ge (mag : Nat) (place : Int) : f.leastPlace ≤ lastOf f mag place := by unfold lastOf; omega
theorem last_ge2 (mag : Nat) (place : Int) : place + mag.log2 - f.fractionBits ≤ lastOf f mag place := by unfold lastOf; omega

theorem mul_pow_ne {m : Nat} (hm : m ≠ 0) (j : Nat) : m * 2 ^ j ≠ 0 := Nat.ne_of_gt (Nat.mul_pos (Nat.pos_of_ne_zero hm) (Nat.two_pow_pos _))

theorem log2_mul_pow {m j : Nat} (hm : m ≠ 0) : (m * 2 ^ j).log2 = m.log2 + j := by
  have h2 : m * 2 ^ j ≠ 0 := mul_pow_ne hm j
  apply Nat.le_antisymm
  · have : (m * 2 ^ j).log2 < m.log2 + j + 1 := by
      rw [Nat.log2_lt h2]
      have := @Nat.lt_log2_self m
      calc m * 2 ^ j < 2 ^ (m.log2 + 1) * 2 ^ j := (Nat.mul_lt_mul_right (Nat.two_pow_pos _)).2 this
        _ = 2 ^ (m.log2 + j + 1) := by rw [← Nat.pow_add]; congr 1; omega
    omega
  · rw [Nat.le_log2 h2, Nat.pow_add]
    exact Nat.mul_le_mul_right _ (Nat.log2_self_le hm)

theorem rungRaw_scale {m j : Nat} (hm : m ≠ 0) (p : Int) : rungRaw f (m * 2 ^ j) (p - j) = rungRaw f m p := by
  have hl : lastOf f (m * 2 ^ j) (p - j) = lastOf f m p := by
    unfold lastOf; rw [log2_mul_pow hm]
    have : p - (j : Int) + ((m.log2 + j : Nat) : Int) = p + m.log2 := by omega
    rw [this]
  unfold rungRaw keptOf
  rw [hl]
  congr 1
  generalize lastOf f m p = l
  apply rne_eq_of (Nat.two_pow_pos _) (Nat.two_pow_pos _)
  rw [Nat.mul_assoc, Nat.mul_assoc, Nat.mul_assoc, ← Nat.pow_add, ← Nat.pow_add, ← Nat.pow_add]
  congr 2
  omega

theorem rungOf_scale (m j : Nat) (p : Int) : rungOf f (m * 2 ^ j) (p - j) = rungOf f m p := by
  unfold rungOf
  by_cases hm : m = 0
  · simp [hm]
  · rw [if_neg hm, if_neg (mul_pow_ne hm j), rungRaw_scale hm]

theorem kept_upper {m : Nat} (p : Int) : keptOf f m p ≤ 2 * f.binade := by
  have hlt := @Nat.lt_log2_self m
  have hg := last_ge2 (f := f) m p
  unfold keptOf
  generalize lastOf f m p = l at *
  have : rne (2 * f.binade * 2 ^ (l - p).toNat) (2 ^ (l - p).toNat) = 2 * f.binade := rne_exact (Nat.two_pow_pos _)
  rw [← this]
  apply rne_mono (Nat.two_pow_pos _) (Nat.two_pow_pos _)
  apply Nat.mul_le_mul_right
  have e : 2 * f.binade = 2 ^ (f.fractionBits + 1) := by unfold Format.binade; rw [Nat.pow_succ, Nat.mul_comm]
  rw [e, ← Nat.pow_add]
  calc m * 2 ^ (p - l).toNat ≤ 2 ^ (m.log2 + 1) * 2 ^ (p - l).toNat := Nat.mul_le_mul_right _ (Nat.le_of_lt hlt)
    _ = 2 ^ (m.log2 + 1 + (p - l).toNat) := by rw [← Nat.pow_add]
    _ ≤ 2 ^ (f.fractionBits + 1 + (l - p).toNat) := Nat.pow_le_pow_right (by omega) (by omega)

theorem kept_lower {m : Nat} (hm : m ≠ 0) (p : Int) (h : f.leastPlace < lastOf f m p) : f.binade ≤ keptOf f m p := by
  have hle := Nat.log2_self_le hm
  have hg : lastOf f m p = p + m.log2 - f.fractionBits := by unfold lastOf at *; omega
  unfold keptOf
  generalize lastOf f m p = l at *
  have : rne (f.binade * 2 ^ (l - p).toNat) (2 ^ (l - p).toNat) = f.binade := rne_exact (Nat.two_pow_pos _)
  rw [← this]
  apply rne_mono (Nat.two_pow_pos _) (Nat.two_pow_pos _)
  apply Nat.mul_le_mul_right
  unfold Format.binade
  rw [← Nat.pow_add]
  calc 2 ^ (f.fractionBits + (l - p).toNat) ≤ 2 ^ (m.log2 + (p - l).toNat) := Nat.pow_le_pow_right (by omega) (by omega)
    _ = 2 ^ m.log2 * 2 ^ (p - l).toNat := by rw [← Nat.pow_add]
    _ ≤ m * 2 ^ (p - l).toNat := Nat.mul_le_mul_right _ hle

theorem rungRaw_mono {m1 m2 : Nat} (h1 : m1 ≠ 0) (h : m1 ≤ m2) (p : Int) : rungRaw f m1 p ≤ rungRaw f m2 p := by
  have hl : m1.log2 ≤ m2.log2 := by
    rw [Nat.le_log2 (by omega)]
    exact Nat.le_trans (Nat.log2_self_le h1) h
  have hlast : lastOf f m1 p ≤ lastOf f m2 p := by unfold lastOf; omega
  unfold rungRaw
  rcases Int.lt_or_eq_of_le hlast with hlt | heq
  · have hk1 := kept_upper (f := f) (m := m1) p
    have hk2 := kept_lower (f := f) (m := m2) (by omega) p (by have := last_ge (f := f) m1 p; omega)
    have g1 := last_ge (f := f) m1 p
    generalize lastOf f m1 p = l1 at *
    generalize lastOf f m2 p = l2 at *
    have hd : (l1 - f.leastPlace).toNat + 1 ≤ (l2 - f.leastPlace).toNat := by omega
    have := Nat.mul_le_mul_right f.binade hd
    rw [Nat.add_mul] at this
    omega
  · unfold keptOf
    rw [heq]
    apply Nat.add_le_add_left
    apply rne_mono (Nat.two_pow_pos _) (Nat.two_pow_pos _)
    apply Nat.mul_le_mul_right
    exact Nat.mul_le_mul_right _ h

theorem rungOf_mono {m1 m2 : Nat} (h : m1 ≤ m2) (p : Int) : rungOf f m1 p ≤ rungOf f m2 p := by
  unfold rungOf
  by_cases h1 : m1 = 0
  · simp [h1]
  · rw [if_neg h1, if_neg (by omega)]
    have := rungRaw_mono (f := f) h1 h p
    omega

/-- two numbers at their own places: compared at a common place below -/
theorem rungOf_mono2 {m1 m2 : Nat} {p1 p2 b : Int} (hb1 : b ≤ p1) (hb2 : b ≤ p2)
    (h : m1 * 2 ^ (p1 - b).toNat ≤ m2 * 2 ^ (p2 - b).toNat) : rungOf f m1 p1 ≤ rungOf f m2 p2 := by
  have e1 := rungOf_scale (f := f) m1 (p1 - b).toNat p1
  have e2 := rungOf_scale (f := f) m2 (p2 - b).toNat p2
  rw [← e1, ← e2]
  have x1 : p1 - ((p1 - b).toNat : Int) = b := by omega
  have x2 : p2 - ((p2 - b).toNat : Int) = b := by omega
  rw [x1, x2]
  exact rungOf_mono h b

theorem rungOf_eq2 {m1 m2 : Nat} {p1 p2 b : Int} (hb1 : b ≤ p1) (hb2 : b ≤ p2)
    (h : m1 * 2 ^ (p1 - b).toNat = m2 * 2 ^ (p2 - b).toNat) : rungOf f m1 p1 = rungOf f m2 p2 :=
  Nat.le_antisymm (rungOf_mono2 hb1 hb2 (Nat.le_of_eq h)) (rungOf_mono2 hb2 hb1 (Nat.le_of_eq h.symm))

/-- the value of a rung below infinity, in units of the least place -/
def rval (f : Format) (r : Nat) : Nat := if r < f.binade then r else (f.binade + r % f.binade) * 2 ^ (r / f.binade - 1)

theorem rungOf_rval {r : Nat} (hr : r ≤ f.infRung) : rungOf f (rval f r) f.leastPlace = r := by
  have hB : f.binade = 2 ^ f.fractionBits := rfl
  have hBp : 0 < f.binade := binade_pos
  unfold rungOf rval
  by_cases h0 : r = 0
  · subst h0; simp [hBp]
  by_cases h : r < f.binade
  · rw [if_pos h, if_neg h0]
    have hl : r.log2 < f.fractionBits := by rw [Nat.log2_lt h0]; exact h
    have hlast : lastOf f r f.leastPlace = f.leastPlace := by unfold lastOf; omega
    unfold rungRaw keptOf
    rw [hlast]
    simp [rne_one]
    omega
  · rw [if_neg h]
    have hmod := Nat.mod_lt r hBp
    have hdiv : 1 ≤ r / f.binade := (Nat.one_le_div_iff hBp).2 (by omega)
    have hne : (f.binade + r % f.binade) * 2 ^ (r / f.binade - 1) ≠ 0 := by
      apply Nat.ne_of_gt; exact Nat.mul_pos (by omega) (Nat.two_pow_pos _)
    rw [if_neg hne]
    have hlog : (f.binade + r % f.binade).log2 = f.fractionBits := by
      apply Nat.le_antisymm
      · have : (f.binade + r % f.binade).log2 < f.fractionBits + 1 := by
          rw [Nat.log2_lt (by omega), Nat.pow_succ]; omega
        omega
      · rw [Nat.le_log2 (by omega)]; omega
    have hlog2 : ((f.binade + r % f.binade) * 2 ^ (r / f.binade - 1)).log2 = f.fractionBits + (r / f.binade - 1) := by
      rw [log2_mul_pow (by omega), hlog]
    have hlast : lastOf f ((f.binade + r % f.binade) * 2 ^ (r / f.binade - 1)) f.leastPlace = f.leastPlace + ((r / f.binade - 1 : Nat) : Int) := by
      unfold lastOf; rw [hlog2]; omega
    have hraw : rungRaw f ((f.binade + r % f.binade) * 2 ^ (r / f.binade - 1)) f.leastPlace = r := by
      unfold rungRaw keptOf
      rw [hlast]
      have x1 : (f.leastPlace - (f.leastPlace + ((r / f.binade - 1 : Nat) : Int))).toNat = 0 := by omega
      have x2 : (f.leastPlace + ((r / f.binade - 1 : Nat) : Int) - f.leastPlace).toNat = r / f.binade - 1 := by omega
      rw [x1, x2, Nat.pow_zero, Nat.mul_one, rne_exact (Nat.two_pow_pos _)]
      have := Nat.div_add_mod r f.binade
      have hh : (r / f.binade - 1) * f.binade + f.binade = f.binade * (r / f.binade) := by
        have : r / f.binade = (r / f.binade - 1) + 1 := by omega
        conv => rhs; rw [this, Nat.mul_add, Nat.mul_one, Nat.mul_comm]
      omega
    rw [hraw]
    omega

theorem rungOf_le_inf (m : Nat) (p : Int) : rungOf f m p ≤ f.infRung := by unfold rungOf; split <;> omega

theorem rval_lt {r1 r2 : Nat} (h2 : r2 ≤ f.infRung) (h : r1 < r2) : rval f r1 < rval f r2 := by
  rcases Nat.lt_or_ge (rval f r1) (rval f r2) with h' | h'
  · exact h'
  · have := rungOf_mono (f := f) h' f.leastPlace
    rw [rungOf_rval h2, rungOf_rval (by omega)] at this
    omega

theorem rval_le {r1 r2 : Nat} (h2 : r2 ≤ f.infRung) (h : r1 ≤ r2) : rval f r1 ≤ rval f r2 := by
  rcases Nat.lt_or_eq_of_le h with h' | h'
  · exact Nat.le_of_lt (rval_lt h2 h')
  · rw [h']; exact Nat.le_refl _

end
section
variable (f : Format)

def rung (b : Nat) : Nat := b % f.signWeight
def sgn (b : Nat) : Bool := b / f.signWeight % 2 == 1
/-- a word's place in the order: its rung with its sign -/
def srung (b : Nat) : Int := if sgn f b then -(rung f b : Int) else (rung f b : Int)
/-- its value in units of the least place -/
def sval (b : Nat) : Int := if sgn f b then -(rval f (rung f b) : Int) else (rval f (rung f b) : Int)

variable {f}

theorem sw_pos : 0 < f.signWeight := Nat.two_pow_pos _
theorem inf_lt_sw : f.infRung < f.signWeight := f.infRung_lt
theorem binade_le_inf (h : 1 ≤ f.exponentBits) : f.binade ≤ f.infRung := by
  unfold Format.infRung
  have h2 : 2 ^ 1 ≤ 2 ^ f.exponentBits := Nat.pow_le_pow_right (by omega) h
  have : 1 * f.binade ≤ (2 ^ f.exponentBits - 1) * f.binade := Nat.mul_le_mul_right _ (by omega)
  omega

theorem rung_lt (b : Nat) : rung f b < f.signWeight := Nat.mod_lt _ sw_pos

theorem width_eq : 2 ^ f.width = 2 * f.signWeight := by
  unfold Format.width Format.signWeight
  rw [Nat.add_assoc, Nat.add_comm 1, Nat.pow_succ, Nat.mul_comm]

theorem word_rung (neg : Bool) {r : Nat} (h : r < f.signWeight) : rung f (f.word neg r) = r := by
  unfold rung Format.word; split <;> simp [Nat.mod_eq_of_lt h]
theorem word_sgn (neg : Bool) {r : Nat} (h : r < f.signWeight) : sgn f (f.word neg r) = neg := by
  unfold sgn Format.word
  cases neg
  · simp [Nat.div_eq_of_lt h]
  · have : (f.signWeight + r) / f.signWeight = 1 := by
      rw [Nat.add_comm, Nat.add_div_right _ sw_pos, Nat.div_eq_of_lt h]
    simp [this]
theorem word_of {b : Nat} (h : b < 2 ^ f.width) : f.word (sgn f b) (rung f b) = b := by
  rw [width_eq] at h
  have hp : 0 < f.signWeight := sw_pos
  have hd := Nat.div_add_mod b f.signWeight
  have hlt : b / f.signWeight < 2 := by rw [Nat.div_lt_iff_lt_mul hp]; exact h
  unfold Format.word sgn rung
  generalize b / f.signWeight = q at *
  generalize b % f.signWeight = r at *
  have h01 : q = 0 ∨ q = 1 := by omega
  rcases h01 with h0 | h0 <;> subst h0 <;> simp at * <;> omega

theorem word_inj {s t : Bool} {r q : Nat} (hr : r < f.signWeight) (hq : q < f.signWeight) (h : f.word s r = f.word t q) : s = t ∧ r = q := by
  have h1 := congrArg (rung f) h
  have h2 := congrArg (sgn f) h
  rw [word_rung s hr, word_rung t hq] at h1
  rw [word_sgn s hr, word_sgn t hq] at h2
  exact ⟨h2, h1⟩

theorem read_fin {b : Nat} (h : rung f b < f.infRung) : ∃ m e, f.read b = .number (sgn f b) m e ∧ f.leastPlace ≤ e ∧ m * 2 ^ (e - f.leastPlace).toNat = rval f (rung f b) := by
  unfold Format.read
  unfold rval
  unfold rung at *
  unfold sgn
  by_cases h1 : b % f.signWeight < f.binade
  · simp only [h1, if_true]
    exact ⟨_, _, rfl, by omega, by simp⟩
  · simp only [h1, h, if_true, if_false]
    refine ⟨_, _, rfl, by omega, ?_⟩
    have : (f.leastPlace + ((b % f.signWeight / f.binade - 1 : Nat) : Int) - f.leastPlace).toNat = b % f.signWeight / f.binade - 1 := by omega
    rw [this]

theorem read_inf {b : Nat} (hB : 1 ≤ f.exponentBits) (h : rung f b = f.infRung) : f.read b = .infinity (sgn f b) := by
  have := binade_le_inf hB
  unfold Format.read
  unfold rung at *
  unfold sgn
  rw [if_neg (by omega), if_neg (by omega), if_pos h]

theorem read_nan {b : Nat} (hB : 1 ≤ f.exponentBits) (h : f.infRung < rung f b) : ∃ t, f.read b = .nan (sgn f b) t := by
  have := binade_le_inf hB
  unfold Format.read
  unfold rung at *
  unfold sgn
  rw [if_neg (by omega), if_neg (by omega), if_neg (by omega)]
  exact ⟨_, rfl⟩

theorem isNaN_read (hB : 1 ≤ f.exponentBits) (b : Nat) : (f.read b).isNaN = decide (f.infRung < rung f b) := by
  rcases Nat.lt_trichotomy (rung f b) f.infRung with h | h | h
  · obtain ⟨m, e, hr, _⟩ := read_fin h
    rw [hr]; simp [Datum.isNaN]; omega
  · rw [read_inf hB h]; simp [Datum.isNaN]; omega
  · obtain ⟨t, hr⟩ := read_nan hB h
    rw [hr]; simp [Datum.isNaN, h]

theorem isInf_read (hB : 1 ≤ f.exponentBits) (b : Nat) : (f.read b).isInfinity = decide (rung f b = f.infRung) := by
  rcases Nat.lt_trichotomy (rung f b) f.infRung with h | h | h
  · obtain ⟨m, e, hr, _⟩ := read_fin h
    rw [hr]; simp [Datum.isInfinity]; omega
  · rw [read_inf hB h]; simp [Datum.isInfinity]; omega
  · obtain ⟨t, hr⟩ := read_nan hB h
    rw [hr]; simp [Datum.isInfinity]; omega

theorem signed_eq (s : Bool) (m j : Nat) : signed s m j = (if s then -1 else 1) * ((m * 2 ^ j : Nat) : Int) := by
  unfold signed; rw [Nat.shiftLeft_eq]; split <;> simp

theorem signed_scale (s : Bool) (m i j : Nat) : signed s m (i + j) = signed s m i * (2 ^ j : Nat) := by
  rw [signed_eq, signed_eq, Nat.pow_add, ← Nat.mul_assoc, Int.natCast_mul, Int.mul_assoc]

theorem sval_eq {b : Nat} {m : Nat} {e : Int} (_ : f.leastPlace ≤ e) (hv : m * 2 ^ (e - f.leastPlace).toNat = rval f (rung f b)) : sval f b = signed (sgn f b) m (e - f.leastPlace).toNat := by
  rw [signed_eq, hv]; unfold sval; split <;> simp

theorem compare_scale (a b : Int) (c : Nat) (hc : 0 < c) : compare (a * c) (b * c) = compare a b := by
  have hc' : (0 : Int) < c := by omega
  rcases Int.lt_trichotomy a b with h | h | h
  · rw [Int.compare_eq_lt.2 h, Int.compare_eq_lt.2 (Int.mul_lt_mul_of_pos_right h hc')]
  · subst h; simp
  · rw [Int.compare_eq_gt.2 h, Int.compare_eq_gt.2 (Int.mul_lt_mul_of_pos_right h hc')]

theorem order_fin {a b : Nat} (ha : rung f a < f.infRung) (hb : rung f b < f.infRung) : f.order a b = some (compare (sval f a) (sval f b)) := by
  obtain ⟨m, i, hra, hi, hva⟩ := read_fin ha
  obtain ⟨n, j, hrb, hj, hvb⟩ := read_fin hb
  unfold Format.order
  rw [hra, hrb, sval_eq hi hva, sval_eq hj hvb]
  simp only [Datum.order]
  congr 1
  have e1 : (i - f.leastPlace).toNat = (i - min i j).toNat + (min i j - f.leastPlace).toNat := by omega
  have e2 : (j - f.leastPlace).toNat = (j - min i j).toNat + (min i j - f.leastPlace).toNat := by omega
  rw [e1, e2, signed_scale, signed_scale, compare_scale _ _ _ (Nat.two_pow_pos _)]

theorem compare_congr {a b c d : Int} (h1 : a < b ↔ c < d) (h2 : b < a ↔ d < c) : compare a b = compare c d := by
  rcases Int.lt_trichotomy a b with h | h | h
  · rw [Int.compare_eq_lt.2 h, Int.compare_eq_lt.2 (h1.1 h)]
  · have : c = d := by omega
    subst h; subst this; simp
  · rw [Int.compare_eq_gt.2 h, Int.compare_eq_gt.2 (h2.1 h)]

theorem rval_zero : rval f 0 = 0 := by unfold rval; rw [if_pos binade_pos]

theorem rval_lt_iff {r q : Nat} (hr : r ≤ f.infRung) (hq : q ≤ f.infRung) : rval f r < rval f q ↔ r < q := by
  constructor
  · intro h
    rcases Nat.lt_or_ge r q with h' | h'
    · exact h'
    · have := rval_le hr h'; omega
  · exact rval_lt hq
theorem rval_zero_iff {r : Nat} (hr : r ≤ f.infRung) : rval f r = 0 ↔ r = 0 := by
  constructor
  · intro h
    have := rval_lt_iff (f := f) (r := 0) (q := r) (by omega) hr
    rw [rval_zero] at this; omega
  · intro h; rw [h, rval_zero]

theorem svalcmp {a b : Nat} (ha : rung f a ≤ f.infRung) (hb : rung f b ≤ f.infRung) : sval f a < sval f b ↔ srung f a < srung f b := by
  have h1 := rval_lt_iff ha hb
  have h2 := rval_lt_iff hb ha
  have z1 := rval_zero_iff ha
  have z2 := rval_zero_iff hb
  unfold sval srung
  split <;> split <;> omega

/-- THE ORDER OF WORDS THAT ARE NO NaN IS THAT OF THEIR SIGNED RUNGS. -/
theorem order_eq (hB : 1 ≤ f.exponentBits) {a b : Nat} (ha : rung f a ≤ f.infRung) (hb : rung f b ≤ f.infRung) : f.order a b = some (compare (srung f a) (srung f b)) := by
  have hpos : 0 < f.infRung := by have := binade_le_inf hB; have := binade_pos (f := f); omega
  rcases Nat.lt_or_eq_of_le ha with ha' | ha' <;> rcases Nat.lt_or_eq_of_le hb with hb' | hb'
  · rw [order_fin ha' hb']
    congr 1
    exact compare_congr (svalcmp ha hb) (svalcmp hb ha)
  · obtain ⟨m, i, hra, _⟩ := read_fin ha'
    unfold Format.order
    rw [hra, read_inf hB hb']
    simp only [Datum.order]
    congr 1
    unfold srung
    cases h : sgn f b
    · rw [Int.compare_eq_lt.2 (by simp only [Bool.false_eq_true, if_false]; split <;> omega)]; rfl
    · rw [Int.compare_eq_gt.2 (by simp only [if_true]; split <;> omega)]; rfl
  · obtain ⟨m, i, hrb, _⟩ := read_fin hb'
    unfold Format.order
    rw [hrb, read_inf hB ha']
    simp only [Datum.order]
    congr 1
    unfold srung
    cases h : sgn f a
    · rw [Int.compare_eq_gt.2 (by simp only [Bool.false_eq_true, if_false]; split <;> omega)]; rfl
    · rw [Int.compare_eq_lt.2 (by simp only [if_true]; split <;> omega)]; rfl
  · unfold Format.order
    rw [read_inf hB ha', read_inf hB hb']
    simp only [Datum.order]
    congr 1
    unfold srung
    rw [ha', hb']
    cases h1 : sgn f a <;> cases h2 : sgn f b <;> simp
    · rw [Int.compare_eq_gt.2 (by omega)]; rfl
    · rw [Int.compare_eq_lt.2 (by omega)]; rfl

theorem order_nan_left (hB : 1 ≤ f.exponentBits) {a b : Nat} (ha : f.infRung < rung f a) : f.order a b = none := by
  obtain ⟨t, hr⟩ := read_nan hB ha
  unfold Format.order; rw [hr]; cases f.read b <;> rfl
theorem order_nan_right (hB : 1 ≤ f.exponentBits) {a b : Nat} (hb : f.infRung < rung f b) : f.order a b = none := by
  obtain ⟨t, hr⟩ := read_nan hB hb
  unfold Format.order; rw [hr]; cases f.read a <;> rfl

/-- the sum of two finite words -/
def sumSign (s t : Bool) (v : Int) : Bool := if v = 0 then s && t else decide (v < 0)

theorem sum_fin {s t : Bool} {m n : Nat} {i j : Int} (hi : f.leastPlace ≤ i) (hj : f.leastPlace ≤ j) :
    ((Datum.number s m i).sum (.number t n j)).map f.write =
      some (f.word (sumSign s t (signed s m (i - f.leastPlace).toNat + signed t n (j - f.leastPlace).toNat)) (rungOf f (signed s m (i - f.leastPlace).toNat + signed t n (j - f.leastPlace).toNat).natAbs f.leastPlace)) := by
  simp only [Datum.sum, Option.map_some, Format.write, nearest_eq]
  have e1 : (i - f.leastPlace).toNat = (i - min i j).toNat + (min i j - f.leastPlace).toNat := by omega
  have e2 : (j - f.leastPlace).toNat = (j - min i j).toNat + (min i j - f.leastPlace).toNat := by omega
  rw [e1, e2, signed_scale, signed_scale, ← Int.add_mul]
  have hle : f.leastPlace ≤ min i j := by omega
  generalize signed s m (i - min i j).toNat + signed t n (j - min i j).toNat = T
  generalize hc : (min i j - f.leastPlace).toNat = c
  have hpos : (0 : Int) < ((2 ^ c : Nat) : Int) := by have := Nat.two_pow_pos c; omega
  congr 1
  congr 1
  · unfold sumSign
    by_cases h0 : T = 0
    · simp [h0]
    · rw [if_neg h0, if_neg (by intro h; rcases Int.mul_eq_zero.1 h with h | h <;> omega)]
      rw [decide_eq_decide]
      constructor
      · intro h; exact Int.mul_neg_of_neg_of_pos h hpos
      · intro h
        rcases (by omega : T < 0 ∨ 0 ≤ T) with h' | h'
        · exact h'
        · have := Int.mul_nonneg h' (Int.le_of_lt hpos); omega
  · rw [Int.natAbs_mul, Int.natAbs_natCast]
    apply rungOf_eq2 (b := f.leastPlace) hle (Int.le_refl _)
    rw [hc]; simp

theorem add_fin {a b : Nat} (ha : rung f a < f.infRung) (hb : rung f b < f.infRung) :
    f.add a b = some (f.word (sumSign (sgn f a) (sgn f b) (sval f a + sval f b)) (rungOf f (sval f a + sval f b).natAbs f.leastPlace)) := by
  obtain ⟨m, i, hra, hi, hva⟩ := read_fin ha
  obtain ⟨n, j, hrb, hj, hvb⟩ := read_fin hb
  unfold Format.add
  rw [hra, hrb, sum_fin hi hj, sval_eq hi hva, sval_eq hj hvb]

theorem signed_not (s : Bool) (m j : Nat) : signed (!s) m j = -signed s m j := by
  rw [signed_eq, signed_eq]; cases s <;> simp

theorem sub_fin {a b : Nat} (ha : rung f a < f.infRung) (hb : rung f b < f.infRung) :
    f.sub a b = some (f.word (sumSign (sgn f a) (!sgn f b) (sval f a - sval f b)) (rungOf f (sval f a - sval f b).natAbs f.leastPlace)) := by
  obtain ⟨m, i, hra, hi, hva⟩ := read_fin ha
  obtain ⟨n, j, hrb, hj, hvb⟩ := read_fin hb
  unfold Format.sub
  rw [hra, hrb]
  simp only [Datum.opposite]
  rw [sum_fin hi hj, sval_eq hi hva, sval_eq hj hvb, signed_not]
  rfl

theorem mul_fin {a b : Nat} (ha : rung f a < f.infRung) (hb : rung f b < f.infRung) :
    f.mul a b = some (f.word (sgn f a ^^ sgn f b) (rungOf f (rval f (rung f a) * rval f (rung f b)) (f.leastPlace + f.leastPlace))) := by
  obtain ⟨m, i, hra, hi, hva⟩ := read_fin ha
  obtain ⟨n, j, hrb, hj, hvb⟩ := read_fin hb
  unfold Format.mul
  rw [hra, hrb]
  simp only [Datum.product, Option.map_some, Format.write, nearest_eq]
  congr 2
  apply rungOf_eq2 (b := f.leastPlace + f.leastPlace) (by omega) (Int.le_refl _)
  rw [← hva, ← hvb]
  have : (i + j - (f.leastPlace + f.leastPlace)).toNat = (i - f.leastPlace).toNat + (j - f.leastPlace).toNat := by omega
  rw [this, Nat.pow_add]
  simp
  rw [Nat.mul_assoc, Nat.mul_assoc]
  congr 1
  rw [← Nat.mul_assoc, Nat.mul_comm n, Nat.mul_assoc]

/-- a number whose digits fit is met exactly -/
theorem rval_raw {K l : Nat} (hK : K < 2 * f.binade) (h : l = 0 ∨ f.binade ≤ K) : rval f (l * f.binade + K) = K * 2 ^ l := by
  have hp : 0 < f.binade := binade_pos
  unfold rval
  rcases Nat.lt_or_ge K f.binade with h1 | h1
  · have : l = 0 := by omega
    subst this
    simp [h1]
  · rw [if_neg (by omega)]
    have e : l * f.binade + K = (K - f.binade) + f.binade * (l + 1) := by rw [Nat.mul_add, Nat.mul_comm]; omega
    have hd : (l * f.binade + K) / f.binade = l + 1 := by
      rw [e, Nat.add_mul_div_left _ _ hp, Nat.div_eq_of_lt (by omega)]; omega
    have hm : (l * f.binade + K) % f.binade = K - f.binade := by
      rw [e, Nat.add_mul_mod_self_left, Nat.mod_eq_of_lt (by omega)]
    rw [hd, hm]
    have : f.binade + (K - f.binade) = K := by omega
    rw [this]; simp

theorem rval_exact {m : Nat} {p : Int} (hm : m < 2 * f.binade) (hp : f.leastPlace ≤ p) (hi : rungOf f m p < f.infRung) :
    rval f (rungOf f m p) = m * 2 ^ (p - f.leastPlace).toNat := by
  by_cases h0 : m = 0
  · subst h0; unfold rungOf; simp [rval_zero]
  have hlog : m.log2 ≤ f.fractionBits := by
    have : m.log2 < f.fractionBits + 1 := by
      rw [Nat.log2_lt h0, Nat.pow_succ]; unfold Format.binade at hm; omega
    omega
  have hlast : lastOf f m p ≤ p := by unfold lastOf; omega
  have hge := last_ge (f := f) m p
  have hup := @Nat.lt_log2_self m
  have hlo := Nat.log2_self_le h0
  have hk : keptOf f m p = m * 2 ^ (p - lastOf f m p).toNat := by
    unfold keptOf
    have : (lastOf f m p - p).toNat = 0 := by omega
    rw [this, Nat.pow_zero, rne_one]
  have hraw : rungOf f m p = rungRaw f m p := by
    unfold rungOf at *; rw [if_neg h0] at *; omega
  rw [hraw]
  unfold rungRaw
  have hg2 := last_ge2 (f := f) m p
  have hKlt : keptOf f m p < 2 * f.binade := by
    rw [hk]
    have e : 2 * f.binade = 2 ^ (f.fractionBits + 1) := by unfold Format.binade; rw [Nat.pow_succ, Nat.mul_comm]
    rw [e]
    calc m * 2 ^ (p - lastOf f m p).toNat < 2 ^ (m.log2 + 1) * 2 ^ (p - lastOf f m p).toNat := (Nat.mul_lt_mul_right (Nat.two_pow_pos _)).2 hup
      _ = 2 ^ (m.log2 + 1 + (p - lastOf f m p).toNat) := by rw [← Nat.pow_add]
      _ ≤ 2 ^ (f.fractionBits + 1) := Nat.pow_le_pow_right (by omega) (by omega)
  rw [rval_raw hKlt]
  · rw [hk, Nat.mul_assoc, ← Nat.pow_add]
    congr 2; omega
  · rcases Int.lt_or_eq_of_le hge with h | h
    · right; exact kept_lower h0 p h
    · left; omega
end
section
open Go.RowKit

theorem eb (k : FloatKind) : 1 ≤ k.format.exponentBits := by cases k <;> decide

/-- a word's class: itself, but all NaNs are one -/
def cls (k : FloatKind) (b : Nat) : Option Nat := if rung k.format b ≤ k.format.infRung then some b else none
/-- '+', '-', '*', '/' on classes -/
def fop (op : BinOp) (k : FloatKind) : Option Nat → Option Nat → Option Nat
  | some a, some b => floatBits op k a b
  | _, _ => none
def ford (k : FloatKind) : Option Nat → Option Nat → Option Ordering
  | some a, some b => k.format.order a b
  | _, _ => none

theorem cls_none_iff {k : FloatKind} {b : Nat} : cls k b = none ↔ (k.decode b).isNaN = true := by
  unfold cls FloatKind.decode
  rw [isNaN_read (eb k)]
  split <;> simp <;> omega
theorem cls_some {k : FloatKind} {b c : Nat} (h : cls k b = some c) : c = b ∧ rung k.format b ≤ k.format.infRung := by
  unfold cls at h; split at h
  · rename_i h1; exact ⟨by injection h with h; exact h.symm, h1⟩
  · cases h

theorem order_cls (k : FloatKind) (a b : Nat) : k.format.order a b = ford k (cls k a) (cls k b) := by
  unfold cls
  split <;> split
  · rfl
  · rw [order_nan_right (eb k) (by omega)]; rfl
  · rw [order_nan_left (eb k) (by omega)]; rfl
  · rw [order_nan_left (eb k) (by omega)]; rfl

theorem rung_write_num {f : Format} (s : Bool) (m : Nat) (p : Int) : rung f (f.write (.number s m p)) = rungOf f m p := by
  show rung f (f.nearest s m p) = _
  rw [nearest_eq, word_rung s (Nat.lt_of_le_of_lt (rungOf_le_inf m p) inf_lt_sw)]
theorem rung_write {f : Format} {d : Datum} (hd : d.isNaN = false) : rung f (f.write d) ≤ f.infRung := by
  cases d with
  | number s m p => rw [rung_write_num]; exact rungOf_le_inf m p
  | infinity s =>
    show rung f (f.word s f.infRung) ≤ _
    rw [word_rung s inf_lt_sw]; exact Nat.le_refl _
  | nan s t => cases hd

theorem sum_nn {a b d : Datum} (h : a.sum b = some d) : d.isNaN = false ∧ a.isNaN = false ∧ b.isNaN = false := by
  cases a <;> cases b <;> simp [Datum.sum] at h <;> try (first | (subst h; exact ⟨rfl, rfl, rfl⟩) | (obtain ⟨_, h⟩ := h; subst h; exact ⟨rfl, rfl, rfl⟩))
theorem product_nn {a b d : Datum} (h : a.product b = some d) : d.isNaN = false ∧ a.isNaN = false ∧ b.isNaN = false := by
  cases a <;> cases b <;> simp [Datum.product] at h <;> try (first | (subst h; exact ⟨rfl, rfl, rfl⟩) | (obtain ⟨_, h⟩ := h; subst h; exact ⟨rfl, rfl, rfl⟩))
theorem quotient_nn {n : Nat} {a b d : Datum} (h : a.quotient n b = some d) : d.isNaN = false ∧ a.isNaN = false ∧ b.isNaN = false := by
  cases a <;> cases b <;> simp only [Datum.quotient] at h <;> try (first | (cases h; done) | (injection h with h; subst h; exact ⟨rfl, rfl, rfl⟩))
  split at h
  · split at h
    · cases h
    · injection h with h; subst h; exact ⟨rfl, rfl, rfl⟩
  · injection h with h; subst h; exact ⟨rfl, rfl, rfl⟩
theorem root_nn {n : Nat} {a d : Datum} (h : a.root n = some d) : d.isNaN = false ∧ a.isNaN = false := by
  cases a <;> simp only [Datum.root] at h
  · split at h
    · injection h with h; subst h; exact ⟨rfl, rfl⟩
    · split at h
      · cases h
      · injection h with h; subst h; exact ⟨rfl, rfl⟩
  · split at h
    · cases h
    · injection h with h; subst h; exact ⟨rfl, rfl⟩
  · cases h

theorem opposite_nn (d : Datum) : d.opposite.isNaN = d.isNaN := by cases d <;> rfl

theorem nn_read {f : Format} (hB : 1 ≤ f.exponentBits) {b : Nat} (h : (f.read b).isNaN = false) : rung f b ≤ f.infRung := by
  rw [isNaN_read hB] at h; simpa using h

/-- a valid operation's operands and result are no NaN -/
theorem floatBits_nn {op : BinOp} {k : FloatKind} {a b r : Nat} (h : floatBits op k a b = some r) : cls k r = some r ∧ cls k a = some a ∧ cls k b = some b := by
  have key : rung k.format r ≤ k.format.infRung ∧ rung k.format a ≤ k.format.infRung ∧ rung k.format b ≤ k.format.infRung := by
    cases op <;> simp only [floatBits] at h <;> try (cases h; done)
    · unfold Format.add at h
      obtain ⟨d, hd, hr⟩ := Option.map_eq_some_iff.1 h
      obtain ⟨n1, n2, n3⟩ := sum_nn hd
      subst hr
      exact ⟨rung_write n1, nn_read (eb k) n2, nn_read (eb k) n3⟩
    · unfold Format.sub at h
      obtain ⟨d, hd, hr⟩ := Option.map_eq_some_iff.1 h
      obtain ⟨n1, n2, n3⟩ := sum_nn hd
      subst hr
      rw [opposite_nn] at n3
      exact ⟨rung_write n1, nn_read (eb k) n2, nn_read (eb k) n3⟩
    · unfold Format.mul at h
      obtain ⟨d, hd, hr⟩ := Option.map_eq_some_iff.1 h
      obtain ⟨n1, n2, n3⟩ := product_nn hd
      subst hr
      exact ⟨rung_write n1, nn_read (eb k) n2, nn_read (eb k) n3⟩
    · unfold Format.div at h
      obtain ⟨d, hd, hr⟩ := Option.map_eq_some_iff.1 h
      obtain ⟨n1, n2, n3⟩ := quotient_nn hd
      subst hr
      exact ⟨rung_write n1, nn_read (eb k) n2, nn_read (eb k) n3⟩
  obtain ⟨h1, h2, h3⟩ := key
  unfold cls
  rw [if_pos h1, if_pos h2, if_pos h3]
  exact ⟨rfl, rfl, rfl⟩

theorem fop_some {op : BinOp} {k : FloatKind} {a b r : Nat} (h : floatBits op k a b = some r) : cls k r = fop op k (cls k a) (cls k b) := by
  obtain ⟨h1, h2, h3⟩ := floatBits_nn h
  rw [h1, h2, h3]; exact h.symm
theorem fop_none {op : BinOp} {k : FloatKind} {a b : Nat} (h : floatBits op k a b = none) : fop op k (cls k a) (cls k b) = none := by
  unfold cls
  split <;> split <;> first | rfl | exact h

theorem nan_cut (k : FloatKind) (q : Question) (t : Nat) (h : (∃ x y, q = .nanBits k x y) ∨ ∃ x, q = .nanConv k x) : cls k (q.cut t) = none ∧ q.cut t < 2 ^ k.format.width ∧ q.forced = false := by
  have key : ∀ (v : Nat), k.format.infRung < rung k.format v → cls k v = none := fun v hv => by unfold cls; rw [if_neg (by omega)]
  rcases h with ⟨x, y, rfl⟩ | ⟨x, rfl⟩
  all_goals
    refine ⟨key _ ?_, ?_, rfl⟩
    · cases k
      · show 2139095040 < ((t % 2) * 2 ^ 31 + 0x7f800000 + 1 + (t / 2) % (2 ^ 23 - 1)) % 2147483648
        have h1 := Nat.mod_lt t (by omega : 0 < 2)
        have h2 := Nat.mod_lt (t / 2) (by omega : 0 < 2 ^ 23 - 1)
        have e : (2 : Nat) ^ 23 - 1 = 8388607 := rfl
        rw [e] at h2 ⊢
        have e2 : (2 : Nat) ^ 31 = 2147483648 := rfl
        rw [e2]
        generalize t % 2 = a at *
        generalize t / 2 % 8388607 = c at *
        have ha : a = 0 ∨ a = 1 := by omega
        rcases ha with rfl | rfl <;> omega
      · show 9218868437227405312 < ((t % 2) * 2 ^ 63 + 0x7ff0000000000000 + 1 + (t / 2) % (2 ^ 52 - 1)) % 9223372036854775808
        have h1 := Nat.mod_lt t (by omega : 0 < 2)
        have h2 := Nat.mod_lt (t / 2) (by omega : 0 < 2 ^ 52 - 1)
        have e : (2 : Nat) ^ 52 - 1 = 4503599627370495 := rfl
        rw [e] at h2 ⊢
        have e2 : (2 : Nat) ^ 63 = 9223372036854775808 := rfl
        rw [e2]
        generalize t % 2 = a at *
        generalize t / 2 % 4503599627370495 = c at *
        have ha : a = 0 ∨ a = 1 := by omega
        rcases ha with rfl | rfl <;> omega
    · cases k
      · show ((t % 2) * 2 ^ 31 + 0x7f800000 + 1 + (t / 2) % (2 ^ 23 - 1)) < 4294967296
        have h1 := Nat.mod_lt t (by omega : 0 < 2)
        have h2 := Nat.mod_lt (t / 2) (by omega : 0 < 2 ^ 23 - 1)
        have e : (2 : Nat) ^ 23 - 1 = 8388607 := rfl
        rw [e] at h2 ⊢
        have e2 : (2 : Nat) ^ 31 = 2147483648 := rfl
        rw [e2]
        generalize t % 2 = a at *
        generalize t / 2 % 8388607 = c at *
        have ha : a = 0 ∨ a = 1 := by omega
        rcases ha with rfl | rfl <;> omega
      · show ((t % 2) * 2 ^ 63 + 0x7ff0000000000000 + 1 + (t / 2) % (2 ^ 52 - 1)) < 18446744073709551616
        have h1 := Nat.mod_lt t (by omega : 0 < 2)
        have h2 := Nat.mod_lt (t / 2) (by omega : 0 < 2 ^ 52 - 1)
        have e : (2 : Nat) ^ 52 - 1 = 4503599627370495 := rfl
        rw [e] at h2 ⊢
        have e2 : (2 : Nat) ^ 63 = 9223372036854775808 := rfl
        rw [e2]
        generalize t % 2 = a at *
        generalize t / 2 % 4503599627370495 = c at *
        have ha : a = 0 ∨ a = 1 := by omega
        rcases ha with rfl | rfl <;> omega

variable {P : Program} (w : World)

theorem run_choose (q : Question) (h : q.forced = false) : (choose q).run P w = .ok (q.cut (w.tape w.drawn q)) w.drew := by
  unfold choose
  simp only [Sem.run]
  rw [h]
  simp

def isArith : BinOp → Bool
  | .add | .sub | .mul | .quo => true
  | _ => false

/-- AN OPERATION ON FLOATS, VALID OR NOT: its class; its bits fit; the world may have drawn. -/
theorem run_fop (op : BinOp) (hop : isArith op = true) (t : TypeId) (k : FloatKind) (x y : Nat) :
    ∃ r n, (binOp op t (.float k x) (.float k y)).run P w = .ok (.float k r) (w.drewN n) ∧ cls k r = fop op k (cls k x) (cls k y) ∧ r < 2 ^ k.format.width := by
  cases h : floatBits op k x y with
  | some r =>
    refine ⟨r, 0, run_float_arith w op t k x y r h, fop_some h, ?_⟩
    have := floatBits_wf h
    cases k
    · show r < 4294967296; simpa [Lit.wf] using this
    · show r < 18446744073709551616; simpa [Lit.wf] using this
  | none =>
    obtain ⟨h1, h2, h3⟩ := nan_cut k (.nanBits k x y) (w.tape w.drawn (.nanBits k x y)) (.inl ⟨x, y, rfl⟩)
    refine ⟨_, 1, ?_, ?_, h2⟩
    · have hr := run_choose (P := P) w (.nanBits k x y) h3
      unfold floatBits at h
      cases op <;> simp only [isArith] at hop <;> first | (cases hop; done) | skip
      all_goals (simp only at h; simp [binOp, Op.floatArith, h]; rfl)
    · rw [h1, fop_none h]
end
section
open Go.RowKit

/-- the bits of a number in the other kind -/
def conv (s k : FloatKind) (b : Nat) : Nat := k.encode (s.decode b)
def fconv (s k : FloatKind) (o : Option Nat) : Option Nat := o.map (conv s k)

theorem conv_rung {s k : FloatKind} {b : Nat} (h : rung s.format b < s.format.infRung) : rung k.format (conv s k b) = rungOf k.format (rval s.format (rung s.format b)) s.format.leastPlace := by
  obtain ⟨m, e, hr, he, hv⟩ := read_fin h
  unfold conv FloatKind.encode FloatKind.decode
  rw [hr, rung_write_num]
  apply rungOf_eq2 (b := s.format.leastPlace) he (Int.le_refl _)
  rw [hv]; simp
theorem conv_sgn {s k : FloatKind} {b : Nat} (h : rung s.format b ≤ s.format.infRung) : sgn k.format (conv s k b) = sgn s.format b := by
  unfold conv FloatKind.encode FloatKind.decode
  rcases Nat.lt_or_eq_of_le h with h | h
  · obtain ⟨m, e, hr, he, hv⟩ := read_fin h
    rw [hr]
    show sgn k.format (k.format.nearest _ _ _) = _
    rw [nearest_eq, word_sgn _ (Nat.lt_of_le_of_lt (rungOf_le_inf m e) inf_lt_sw)]
  · rw [read_inf (eb s) h]
    show sgn k.format (k.format.word _ _) = _
    rw [word_sgn _ inf_lt_sw]
theorem conv_inf {s k : FloatKind} {b : Nat} (h : rung s.format b = s.format.infRung) : rung k.format (conv s k b) = k.format.infRung := by
  unfold conv FloatKind.encode FloatKind.decode
  rw [read_inf (eb s) h]
  show rung k.format (k.format.word _ _) = _
  rw [word_rung _ inf_lt_sw]
theorem conv_nn {s k : FloatKind} {b : Nat} (h : rung s.format b ≤ s.format.infRung) : rung k.format (conv s k b) ≤ k.format.infRung := by
  rcases Nat.lt_or_eq_of_le h with h | h
  · rw [conv_rung h]; exact rungOf_le_inf _ _
  · rw [conv_inf h]; exact Nat.le_refl _

/-- a conversion that does not pass the format's greatest number -/
def NoOver (s k : FloatKind) (b : Nat) : Prop := rung s.format b < s.format.infRung → rungOf k.format (rval s.format (rung s.format b)) s.format.leastPlace < k.format.infRung

theorem noOver_le {s k : FloatKind} {b c : Nat} (hc : rungOf k.format (rval s.format c) s.format.leastPlace < k.format.infRung) (hc2 : c ≤ s.format.infRung) (h : rung s.format b ≤ c) : NoOver s k b := fun _ =>
  Nat.lt_of_le_of_lt (rungOf_mono (rval_le hc2 h) _) hc

theorem noOver_widen (b : Nat) : NoOver .f32 .f64 b := fun h => by
  have h' : rung FloatKind.f32.format b ≤ 2139095039 := by
    have e : FloatKind.f32.format.infRung = 2139095040 := rfl
    omega
  exact Nat.lt_of_le_of_lt (rungOf_mono (rval_le (by decide) h') _) (by decide +kernel)

variable {P : Program} (w : World)

theorem sem_conv (s k : FloatKind) (hne : s ≠ k) (b : Nat) (hno : NoOver s k b) :
    ∃ r n, (Conv.floatToFloat s b k).run P w = .ok (.float k r) (w.drewN n) ∧ cls k r = fconv s k (cls s b) ∧ r < 2 ^ k.format.width := by
  rcases Nat.lt_trichotomy (rung s.format b) s.format.infRung with h | h | h
  · obtain ⟨m, e, hr, he, hv⟩ := read_fin h
    refine ⟨conv s k b, 0, ?_, ?_, ?_⟩
    · have hno' := hno h
      have hinf : (k.decode (k.encode (.number (sgn s.format b) m e))).isInfinity = false := by
        have e1 : k.encode (.number (sgn s.format b) m e) = conv s k b := by unfold conv FloatKind.decode; rw [hr]
        rw [e1]
        unfold FloatKind.decode
        rw [isInf_read (eb k), conv_rung h]
        simp; omega
      have hd : s.decode b = .number (sgn s.format b) m e := hr
      simp only [Conv.floatToFloat, if_neg hne, hd, hinf]
      have e1 : conv s k b = k.encode (.number (sgn s.format b) m e) := by unfold conv; rw [hd]
      rw [e1]
      rfl
    · unfold cls fconv
      rw [if_pos (conv_nn (Nat.le_of_lt h)), if_pos (Nat.le_of_lt h)]
      rfl
    · unfold conv FloatKind.encode; exact k.format.write_lt _
  · refine ⟨conv s k b, 0, ?_, ?_, ?_⟩
    · have hd : s.decode b = .infinity (sgn s.format b) := read_inf (eb s) h
      simp only [Conv.floatToFloat, if_neg hne, hd]
      have e1 : conv s k b = k.encode (.infinity (sgn s.format b)) := by unfold conv; rw [hd]
      rw [e1]
      rfl
    · unfold cls fconv
      rw [if_pos (conv_nn (Nat.le_of_eq h)), if_pos (Nat.le_of_eq h)]
      rfl
    · unfold conv FloatKind.encode; exact k.format.write_lt _
  · obtain ⟨t, hr⟩ := read_nan (eb s) h
    obtain ⟨h1, h2, h3⟩ := nan_cut k (.nanConv k b) (w.tape w.drawn (.nanConv k b)) (.inr ⟨b, rfl⟩)
    refine ⟨_, 1, ?_, ?_, h2⟩
    · have hd : s.decode b = .nan (sgn s.format b) t := hr
      simp only [Conv.floatToFloat, if_neg hne, hd]
      simp; rfl
    · rw [h1]
      unfold cls fconv
      rw [if_neg (by omega)]; rfl

theorem run_conv (src dst : TypeId) (s k : FloatKind) (hne : s ≠ k) (b : Nat) (hs : (P.underlying src).isSome = true) (hd : P.underlying dst = some (.float k)) (hno : NoOver s k b) :
    ∃ r n, (convert src dst (.float s b)).run P w = .ok (.float k r) (w.drewN n) ∧ cls k r = fconv s k (cls s b) ∧ r < 2 ^ k.format.width := by
  obtain ⟨r, n, h1, h2, h3⟩ := sem_conv (P := P) w s k hne b hno
  refine ⟨r, n, ?_, h2, h3⟩
  obtain ⟨u, hs'⟩ := Option.isSome_iff_exists.1 hs
  cases u <;> simp [convert, run_underlying hs', run_underlying hd, h1]

theorem run_conv_same (src dst : TypeId) (k : FloatKind) (b : Nat) (hs : (P.underlying src).isSome = true) (hd : P.underlying dst = some (.float k)) :
    (convert src dst (.float k b)).run P w = .ok (.float k b) w := by
  obtain ⟨u, hs'⟩ := Option.isSome_iff_exists.1 hs
  cases u <;> simp [convert, run_underlying hs', run_underlying hd, Conv.floatToFloat]

/-- the square root on classes -/
def fsqrt : Option Nat → Option Nat
  | some a => FloatKind.f64.format.sqrt a
  | none => none

theorem sqrt_nn {a r : Nat} (h : FloatKind.f64.format.sqrt a = some r) : cls .f64 r = some r ∧ cls .f64 a = some a := by
  unfold Format.sqrt at h
  obtain ⟨d, hd, hr⟩ := Option.map_eq_some_iff.1 h
  obtain ⟨n1, n2⟩ := root_nn hd
  subst hr
  unfold cls
  rw [if_pos (rung_write n1), if_pos (nn_read (eb .f64) n2)]
  exact ⟨rfl, rfl⟩

theorem sem_sqrt (b : Nat) :
    ∃ r n, (Extern.MathSqrt.sqrt #[.float .f64 b]).run P w = .ok (.float .f64 r) (w.drewN n) ∧ cls .f64 r = fsqrt (cls .f64 b) ∧ r < 2 ^ 64 := by
  cases h : FloatKind.f64.format.sqrt b with
  | some r =>
    obtain ⟨h1, h2⟩ := sqrt_nn h
    refine ⟨r, 0, ?_, ?_, ?_⟩
    · show (match FloatKind.f64.format.sqrt b with
        | some r => pure (Value.float .f64 r)
        | none => do pure (Value.float .f64 (← choose (.nanBits .f64 b b))) : Sem Value).run P w = _
      rw [h]; rfl
    · rw [h1, h2]; exact h.symm
    · exact FloatKind.f64.format.sqrt_lt h
  | none =>
    obtain ⟨h1, h2, h3⟩ := nan_cut .f64 (.nanBits .f64 b b) (w.tape w.drawn (.nanBits .f64 b b)) (.inl ⟨b, b, rfl⟩)
    refine ⟨_, 1, ?_, ?_, h2⟩
    · show (match FloatKind.f64.format.sqrt b with
        | some r => pure (Value.float .f64 r)
        | none => do pure (Value.float .f64 (← choose (.nanBits .f64 b b))) : Sem Value).run P w = _
      rw [h]
      simp; rfl
    · rw [h1]
      unfold cls
      split
      · exact h.symm
      · rfl
end
section
open Go.RowKit

/-- some NaN's bits -/
def Tp (k : FloatKind) : Type := { t : Nat // k.format.infRung < rung k.format t ∧ t < 2 ^ k.format.width }
/-- the word of a class, with the bits that it has where it is a NaN -/
def rep (k : FloatKind) (c : Option Nat) (t : Tp k) : Nat := c.getD t.1
/-- a class that some word has -/
def Wfc (k : FloatKind) (c : Option Nat) : Prop := ∀ b, c = some b → rung k.format b ≤ k.format.infRung ∧ b < 2 ^ k.format.width

theorem cls_rep {k : FloatKind} {c : Option Nat} (h : Wfc k c) (t : Tp k) : cls k (rep k c t) = c := by
  cases c with
  | none => unfold rep cls; simp only [Option.getD_none]; rw [if_neg (by have := t.2.1; omega)]
  | some b => unfold rep cls; simp only [Option.getD_some]; rw [if_pos (h b rfl).1]
theorem rep_lt {k : FloatKind} {c : Option Nat} (h : Wfc k c) (t : Tp k) : rep k c t < 2 ^ k.format.width := by
  cases c with
  | none => exact t.2.2
  | some b => exact (h b rfl).2
theorem wfc_cls {k : FloatKind} {b : Nat} (h : b < 2 ^ k.format.width) : Wfc k (cls k b) := fun c hc => by
  obtain ⟨rfl, h2⟩ := cls_some hc
  exact ⟨h2, h⟩
theorem wfc_fop (op : BinOp) (k : FloatKind) (a b : Option Nat) : Wfc k (fop op k a b) := fun r hr => by
  cases a with
  | none => cases hr
  | some a =>
    cases b with
    | none => cases hr
    | some b =>
      have h1 := (floatBits_nn hr).1
      have h2 := (cls_some h1).2
      refine ⟨h2, ?_⟩
      have := floatBits_wf hr
      cases k
      · show r < 4294967296; simpa [Lit.wf] using this
      · show r < 18446744073709551616; simpa [Lit.wf] using this
theorem wfc_fconv (s k : FloatKind) (a : Option Nat) (h : Wfc s a) : Wfc k (fconv s k a) := fun r hr => by
  cases a with
  | none => cases hr
  | some b =>
    have e : r = conv s k b := by unfold fconv at hr; simp at hr; exact hr.symm
    subst e
    exact ⟨conv_nn (h b rfl).1, by unfold conv FloatKind.encode; exact k.format.write_lt _⟩
theorem wfc_fsqrt (a : Option Nat) : Wfc .f64 (fsqrt a) := fun r hr => by
  cases a with
  | none => cases hr
  | some b =>
    have h1 := (sqrt_nn hr).1
    exact ⟨(cls_some h1).2, FloatKind.f64.format.sqrt_lt hr⟩
theorem wfc_none (k : FloatKind) : Wfc k none := fun _ h => by cases h
theorem wfc_some {k : FloatKind} {b : Nat} (h : rung k.format b ≤ k.format.infRung) (h2 : b < 2 ^ k.format.width) : Wfc k (some b) := fun c hc => by cases hc; exact ⟨h, h2⟩

/-- some NaN -/
def nanT : (k : FloatKind) → Tp k
  | .f32 => ⟨2143289344, by decide⟩
  | .f64 => ⟨9221120237041090561, by decide⟩
theorem exists_rep {k : FloatKind} {b : Nat} (h : b < 2 ^ k.format.width) : ∃ t, b = rep k (cls k b) t := by
  by_cases hn : rung k.format b ≤ k.format.infRung
  · exact ⟨nanT k, by unfold rep cls; rw [if_pos hn]; rfl⟩
  · exact ⟨⟨b, by omega, h⟩, by unfold rep cls; rw [if_neg hn]; rfl⟩
theorem exists_of {k : FloatKind} {b : Nat} {c : Option Nat} (hc : cls k b = c) (h : b < 2 ^ k.format.width) : ∃ t, b = rep k c t := by
  subst hc; exact exists_rep h

theorem rep_some (k : FloatKind) (b : Nat) (t : Tp k) : rep k (some b) t = b := rfl

variable {P : Program} {ops : Array Oper} {rest : List Oper} {o : Oper} {a : Act} {w : World} {Q : Exit → Act → World → Prop}

theorem wpList_fop (hgd : o.guard = none) (op : BinOp) (t t' : TypeId) (x y : Operand) (ho : o.op = .binOp op t x y t') (hop : isArith op = true)
    (k : FloatKind) (bx b2 : Nat) (hx : a.eval x = .float k bx) (hy : a.eval y = .float k b2)
    (h : ∀ (τ : Tp k) (n : Nat), wpList P ops Q rest (a.put o.dst (.float k (rep k (fop op k (cls k bx) (cls k b2)) τ))) (w.drewN n)) : wpList P ops Q (o :: rest) a w :=
  wpList_plain hgd fun K hK => by
    obtain ⟨r, n, hr, hc, hlt⟩ := run_fop (P := P) w op hop t k bx b2
    obtain ⟨τ, hτ⟩ := exists_of hc hlt
    have hh := hK _ _ (h τ n)
    rw [← hτ] at hh
    unfold Oper.wp execOp
    simp only [ho, hx, hy, eqGuard_at_float, Sem.run_bind, Sem.run_pure, Result.andThen_ok, hr]
    exact hh

theorem wpList_conv (hgd : o.guard = none) (src dst : TypeId) (x : Operand) (ho : o.op = .convert src dst x) 
    (s k : FloatKind) (b : Nat) (hx : a.eval x = .float s b) (hne : s ≠ k) (hs : (P.underlying src).isSome = true) (hd : P.underlying dst = some (.float k)) (hno : NoOver s k b)
    (h : ∀ (τ : Tp k) (n : Nat), wpList P ops Q rest (a.put o.dst (.float k (rep k (fconv s k (cls s b)) τ))) (w.drewN n)) : wpList P ops Q (o :: rest) a w :=
  wpList_plain hgd fun K hK => by
    obtain ⟨r, n, hr, hc, hlt⟩ := run_conv (P := P) w src dst s k hne b hs hd hno
    obtain ⟨τ, hτ⟩ := exists_of hc hlt
    have hh := hK _ _ (h τ n)
    rw [← hτ] at hh
    unfold Oper.wp execOp
    simp only [ho, hx, Sem.run_bind, Sem.run_pure, Result.andThen_ok, hr]
    exact hh
end
section
open Go.RowKit

/-- a class that is no word beyond infinity -/
def Nn (k : FloatKind) (c : Option Nat) : Prop := ∀ b, c = some b → rung k.format b ≤ k.format.infRung
theorem Wfc.nn {k : FloatKind} {c : Option Nat} (h : Wfc k c) : Nn k c := fun b hb => (h b hb).1

@[go_sem] theorem cls_rep' {k : FloatKind} {c : Option Nat} (h : Nn k c) (t : Tp k) : cls k (rep k c t) = c := by
  cases c with
  | none => unfold rep cls; simp only [Option.getD_none]; rw [if_neg (by have := t.2.1; omega)]
  | some b => unfold rep cls; simp only [Option.getD_some]; rw [if_pos (h b rfl)]
@[go_sem] theorem nn_cls (k : FloatKind) (b : Nat) : Nn k (cls k b) := fun _ hc => by
  obtain ⟨rfl, h2⟩ := cls_some hc
  exact h2
@[go_sem] theorem nn_fop (op : BinOp) (k : FloatKind) (a b : Option Nat) : Nn k (fop op k a b) := (wfc_fop op k a b).nn
@[go_sem] theorem nn_none (k : FloatKind) : Nn k none := (wfc_none k).nn
@[go_sem] theorem nn_fsqrt (a : Option Nat) : Nn .f64 (fsqrt a) := (wfc_fsqrt a).nn
theorem conv_lt (s k : FloatKind) (b : Nat) : conv s k b < 2 ^ k.format.width := by unfold conv FloatKind.encode; exact k.format.write_lt _
@[go_sem] theorem nn_fconv (s k : FloatKind) (a : Option Nat) (h : Nn s a) : Nn k (fconv s k a) := fun r hr => by
  cases a with
  | none => cases hr
  | some b =>
    have e : r = conv s k b := by unfold fconv at hr; simp at hr; exact hr.symm
    subst e
    exact conv_nn (h b rfl)
theorem wfc_fconv' (s k : FloatKind) (a : Option Nat) (h : Nn s a) : Wfc k (fconv s k a) := fun r hr => by
  refine ⟨nn_fconv s k a h r hr, ?_⟩
  cases a with
  | none => cases hr
  | some b =>
    have e : r = conv s k b := by unfold fconv at hr; simp at hr; exact hr.symm
    subst e
    exact conv_lt s k b

@[go_sem] theorem order_walk (k : FloatKind) (a b : Nat) : k.format.order a b = ford k (cls k a) (cls k b) := order_cls k a b

theorem ford_none_left (k : FloatKind) (c : Option Nat) : ford k none c = none := rfl
theorem ford_none_right (k : FloatKind) (c : Option Nat) : ford k c none = none := by cases c <;> rfl

/-- a class is none, or a word that is equal to itself -/
theorem cls_cases (k : FloatKind) (b : Nat) : (cls k b = none ∧ k.format.infRung < rung k.format b) ∨ (cls k b = some b ∧ rung k.format b ≤ k.format.infRung) := by
  unfold cls
  split
  · exact .inr ⟨rfl, by assumption⟩
  · exact .inl ⟨rfl, by omega⟩
theorem ford_some {k : FloatKind} {a b : Nat} (ha : rung k.format a ≤ k.format.infRung) (hb : rung k.format b ≤ k.format.infRung) : ford k (some a) (some b) = some (compare (srung k.format a) (srung k.format b)) := order_eq (eb k) ha hb
theorem ford_self {k : FloatKind} {b : Nat} (hb : rung k.format b ≤ k.format.infRung) : ford k (some b) (some b) = some .eq := by
  rw [ford_some hb hb]; simp
theorem ford_class_self {k : FloatKind} {c : Option Nat} (h : Nn k c) : ford k c c = if c.isSome then some .eq else none := by
  cases c with
  | none => rfl
  | some b => rw [ford_self (h b rfl)]; rfl

theorem xor_word {n r : Nat} (hr : r < 2 ^ n) : r ^^^ 2 ^ n = 2 ^ n + r ∧ (2 ^ n + r) ^^^ 2 ^ n = r := by
  have hx : 2 ^ n + r = 2 ^ n ^^^ r := by
    have := Nat.two_pow_add_eq_or_of_lt hr 1
    simp at this
    rw [this]
    apply Nat.eq_of_testBit_eq
    intro i
    simp only [Nat.testBit_or, Nat.testBit_xor, Nat.testBit_two_pow]
    by_cases hi : n = i
    · subst hi
      have : r.testBit n = false := Nat.testBit_lt_two_pow hr
      simp [this]
    · simp [hi]
  constructor
  · rw [hx, Nat.xor_comm]
  · rw [hx, Nat.xor_comm (2 ^ n) r, Nat.xor_assoc, Nat.xor_self, Nat.xor_zero]
theorem negFloat_eq {k : FloatKind} {b : Nat} (h : b < 2 ^ k.format.width) : Op.negFloat k b = k.format.word (!sgn k.format b) (rung k.format b) := by
  have hw := word_of h
  have hr := rung_lt (f := k.format) b
  unfold Op.negFloat
  conv => lhs; rw [← hw]
  obtain ⟨h1, h2⟩ := xor_word (n := k.format.exponentBits + k.format.fractionBits) hr
  cases sgn k.format b
  · exact h1
  · exact h2

/-- the class with the other sign -/
def fneg (k : FloatKind) (c : Option Nat) : Option Nat := c.map (Op.negFloat k)

theorem neg_rung {k : FloatKind} {b : Nat} (h : b < 2 ^ k.format.width) : rung k.format (Op.negFloat k b) = rung k.format b := by
  rw [negFloat_eq h, word_rung _ (rung_lt b)]
theorem neg_sgn {k : FloatKind} {b : Nat} (h : b < 2 ^ k.format.width) : sgn k.format (Op.negFloat k b) = !sgn k.format b := by
  rw [negFloat_eq h, word_sgn _ (rung_lt b)]
theorem neg_lt {k : FloatKind} {b : Nat} (h : b < 2 ^ k.format.width) : Op.negFloat k b < 2 ^ k.format.width := by
  rw [negFloat_eq h]; exact k.format.word_lt _ (rung_lt b)
theorem cls_neg {k : FloatKind} {b : Nat} (h : b < 2 ^ k.format.width) : cls k (Op.negFloat k b) = fneg k (cls k b) := by
  unfold cls fneg
  rw [neg_rung h]
  split <;> rfl

variable {P : Program} {ops : Array Oper} {rest : List Oper} {o : Oper} {a : Act} {w : World} {Q : Exit → Act → World → Prop}

theorem wpList_wanted (hw : Region.wanted o (yielded ops a.tmps) = true)
    (h : ∀ K : Act → World → Prop, (∀ a w, wpList P ops Q rest a w → K a w) → o.wp P a w K Q) : wpList P ops Q (o :: rest) a w :=
  wpList_step fun K hK => by rw [if_pos hw]; exact h K hK

/-- the same laws at a guarded operation that is wanted -/
theorem wpList_fop_g (hw : Region.wanted o (yielded ops a.tmps) = true) (op : BinOp) (t t' : TypeId) (x y : Operand) (ho : o.op = .binOp op t x y t') (hop : isArith op = true)
    (k : FloatKind) (bx b2 : Nat) (hx : a.eval x = .float k bx) (hy : a.eval y = .float k b2)
    (h : ∀ (τ : Tp k) (n : Nat), wpList P ops Q rest (a.put o.dst (.float k (rep k (fop op k (cls k bx) (cls k b2)) τ))) (w.drewN n)) : wpList P ops Q (o :: rest) a w :=
  wpList_wanted hw fun K hK => by
    obtain ⟨r, n, hr, hc, hlt⟩ := run_fop (P := P) w op hop t k bx b2
    obtain ⟨τ, hτ⟩ := exists_of hc hlt
    have hh := hK _ _ (h τ n)
    rw [← hτ] at hh
    unfold Oper.wp execOp
    simp only [ho, hx, hy, eqGuard_at_float, Sem.run_bind, Sem.run_pure, Result.andThen_ok, hr]
    exact hh

theorem wpList_conv_g (hw : Region.wanted o (yielded ops a.tmps) = true) (src dst : TypeId) (x : Operand) (ho : o.op = .convert src dst x) 
    (s k : FloatKind) (b : Nat) (hx : a.eval x = .float s b) (hne : s ≠ k) (hs : (P.underlying src).isSome = true) (hd : P.underlying dst = some (.float k)) (hno : NoOver s k b)
    (h : ∀ (τ : Tp k) (n : Nat), wpList P ops Q rest (a.put o.dst (.float k (rep k (fconv s k (cls s b)) τ))) (w.drewN n)) : wpList P ops Q (o :: rest) a w :=
  wpList_wanted hw fun K hK => by
    obtain ⟨r, n, hr, hc, hlt⟩ := run_conv (P := P) w src dst s k hne b hs hd hno
    obtain ⟨τ, hτ⟩ := exists_of hc hlt
    have hh := hK _ _ (h τ n)
    rw [← hτ] at hh
    unfold Oper.wp execOp
    simp only [ho, hx, Sem.run_bind, Sem.run_pure, Result.andThen_ok, hr]
    exact hh

/-- a conversion to the same kind -/
@[go_sem] theorem run_conv_id (src dst : TypeId) (k : FloatKind) (b : Nat) (w : World) (hs : (P.underlying src).isSome = true) (hd : P.underlying dst = some (.float k)) :
    (convert src dst (.float k b)).run P w = .ok (.float k b) w := run_conv_same w src dst k b hs hd

@[go_sem] theorem run_neg_float (w : World) (k : FloatKind) (b : Nat) : (Op.unary .neg (.float k b)).run P w = .ok (.float k (Op.negFloat k b)) w := rfl
@[go_sem] theorem run_store_float (w : World) (a : Addr) (m : Mode) (k : FloatKind) (b : Nat) : (store a (.float k b) m).run P w = stored P w a (.float k b) m := run_store P w a _ m rfl
@[go_sem] theorem run_store_complex (w : World) (a : Addr) (m : Mode) (k : FloatKind) (x y : Nat) : (store a (.complex k x y) m).run P w = stored P w a (.complex k x y) m := run_store P w a _ m rfl

/-- the bits that the functions tell of a class -/
def bitsZ : Option Nat → Int
  | none => 2143289344
  | some b => b
/-- whether a number is finite, as both texts ask -/
def finB (c : Option Nat) : Bool := ford .f32 (fop .sub .f32 c c) (cls .f32 0) == some .eq
end

section
open Go.RowKit
variable {P : Program} {ops : Array Oper} {o : Oper} {a : Act} {w : World} {K : Act → World → Prop} {Q : Exit → Act → World → Prop} {E : Prop}
/-- a conversion as a step of a region that draws its order -/
theorem step_conv (hgd : o.guard = none) (src dst : TypeId) (x : Operand) (ho : o.op = .convert src dst x)
    (s k : FloatKind) (b : Nat) (hx : a.eval x = .float s b) (hne : s ≠ k) (hs : (P.underlying src).isSome = true) (hd : P.underlying dst = some (.float k)) (hno : NoOver s k b)
    (h : ∀ (τ : Tp k) (n : Nat), K (a.put o.dst (.float k (rep k (fconv s k (cls s b)) τ))) (w.drewN n)) :
    if Region.wanted o (yielded ops a.tmps) = true then Oper.wp P o a w K Q else E := by
  rw [if_pos (by simp [Region.wanted, hgd])]
  obtain ⟨r, n, hr, hc, hlt⟩ := run_conv (P := P) w src dst s k hne b hs hd hno
  obtain ⟨τ, hτ⟩ := exists_of hc hlt
  have hh := h τ n
  rw [← hτ] at hh
  unfold Oper.wp execOp
  simp only [ho, hx, Sem.run_bind, Sem.run_pure, Result.andThen_ok, hr]
  exact hh
/-- an operation as a step of a region that draws its order -/
theorem step_fop (hgd : o.guard = none) (op : BinOp) (t t' : TypeId) (x y : Operand) (ho : o.op = .binOp op t x y t') (hop : isArith op = true)
    (k : FloatKind) (bx b2 : Nat) (hx : a.eval x = .float k bx) (hy : a.eval y = .float k b2)
    (h : ∀ (τ : Tp k) (n : Nat), K (a.put o.dst (.float k (rep k (fop op k (cls k bx) (cls k b2)) τ))) (w.drewN n)) :
    if Region.wanted o (yielded ops a.tmps) = true then Oper.wp P o a w K Q else E := by
  rw [if_pos (by simp [Region.wanted, hgd])]
  obtain ⟨r, n, hr, hc, hlt⟩ := run_fop (P := P) w op hop t k bx b2
  obtain ⟨τ, hτ⟩ := exists_of hc hlt
  have hh := h τ n
  rw [← hτ] at hh
  unfold Oper.wp execOp
  simp only [ho, hx, hy, eqGuard_at_float, Sem.run_bind, Sem.run_pure, Result.andThen_ok, hr]
  exact hh
end

section
open Go.RowKit
variable {P : Program} {o : Oper} {a : Act} {w : World} {K : Act → World → Prop} {Q : Exit → Act → World → Prop}
/-- a conversion that stands half run -/
theorem upon_conv (src dst : TypeId) (s k : FloatKind) (b : Nat) (hne : s ≠ k) (hs : (P.underlying src).isSome = true) (hd : P.underlying dst = some (.float k)) (hno : NoOver s k b)
    (h : ∀ (τ : Tp k) (n : Nat), K (a.put o.dst (.float k (rep k (fconv s k (cls s b)) τ))) (w.drewN n)) :
    Oper.upon P o a K Q ((Sem.run P (convert src dst (.float s b)) w).andThen fun v w' => .ok (.value v) w') := by
  obtain ⟨r, n, hr, hc, hlt⟩ := run_conv (P := P) w src dst s k hne b hs hd hno
  obtain ⟨τ, hτ⟩ := exists_of hc hlt
  have hh := h τ n
  rw [← hτ] at hh
  rw [hr]
  exact hh
theorem upon_fop (op : BinOp) (hop : isArith op = true) (t : TypeId) (k : FloatKind) (bx b2 : Nat)
    (h : ∀ (τ : Tp k) (n : Nat), K (a.put o.dst (.float k (rep k (fop op k (cls k bx) (cls k b2)) τ))) (w.drewN n)) :
    Oper.upon P o a K Q ((Sem.run P (binOp op t (.float k bx) (.float k b2)) w).andThen fun v w' => .ok (.value v) w') := by
  obtain ⟨r, n, hr, hc, hlt⟩ := run_fop (P := P) w op hop t k bx b2
  obtain ⟨τ, hτ⟩ := exists_of hc hlt
  have hh := h τ n
  rw [← hτ] at hh
  rw [hr]
  exact hh
end

/-- whether an integer lies in a range -/
def inB (n lo hi : Int) : Bool := decide (lo ≤ n) && decide (n ≤ hi)
end Flt
