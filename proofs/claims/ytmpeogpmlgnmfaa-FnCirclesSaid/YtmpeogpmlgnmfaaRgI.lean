/- Intervals of floats as data; the whole number below a float of an interval. -/
import Derived.Test.YtmpeogpmlgnmfaaRgQ
import Derived.Test.YtmpeogpmlgnmfaaTen
namespace Flt
open Go Ieee
set_option exponentiation.threshold 3000

theorem cut_down (neg : Bool) (n drop : Nat) : Toward.down.cut neg n drop = n / 2 ^ drop + (neg && n % 2 ^ drop != 0).toNat := by
  unfold Toward.cut
  simp only [Nat.one_shiftLeft]
  by_cases h : drop ≤ n.log2 + 2
  · rw [Nat.min_eq_left h]
  · have h' : n.log2 + 2 ≤ drop := by omega
    rw [Nat.min_eq_right h']
    have hn : n < 2 ^ (n.log2 + 1) := Nat.lt_log2_self
    have e2 : 2 ^ (n.log2 + 2) = 2 * 2 ^ (n.log2 + 1) := by rw [Nat.pow_succ 2 (n.log2 + 1), Nat.mul_comm]
    have e3 : 2 ^ (n.log2 + 2) ≤ 2 ^ drop := Nat.pow_le_pow_right (by omega) h'
    rw [Nat.div_eq_of_lt (by omega), Nat.div_eq_of_lt (by omega), Nat.mod_eq_of_lt (by omega), Nat.mod_eq_of_lt (by omega)]
/-- the floor, in integers -/
theorem flr_int2 {b : Nat} (hfin : rung FloatKind.f64.format b < FloatKind.f64.format.infRung) :
    ∃ (c : Nat) (n : Int), flr b = FloatKind.f64.format.word (sgn FloatKind.f64.format b) (rungOf FloatKind.f64.format c 0) ∧ n = (if sgn FloatKind.f64.format b = true then -(c : Int) else c) ∧ n * ((2 ^ 1074 : Nat) : Int) ≤ sval FloatKind.f64.format b ∧ sval FloatKind.f64.format b < (n + 1) * ((2 ^ 1074 : Nat) : Int) := by
  obtain ⟨m, e, hr, he, hv⟩ := read_fin hfin
  have e0 : flr b = FloatKind.f64.format.word (sgn FloatKind.f64.format b) (rungOf FloatKind.f64.format (Toward.down.cut (sgn FloatKind.f64.format b) (m <<< e.toNat) (-e).toNat) 0) := by
    show FloatKind.f64.format.write ((FloatKind.f64.format.read b).integral .down) = _
    rw [hr]
    show FloatKind.f64.format.nearest _ _ _ = _
    rw [nearest_eq]
  rw [cut_down, Nat.shiftLeft_eq] at e0
  refine ⟨_, _, e0, rfl, ?_⟩
  have e1 : FloatKind.f64.format.leastPlace = -1074 := rfl
  rw [e1] at he hv
  generalize hR : rval FloatKind.f64.format (rung FloatKind.f64.format b) = R at *
  -- R * 2^D = W * 2^1074
  have hRW : R * 2 ^ (-e).toNat = m * 2 ^ e.toNat * 2 ^ 1074 := by
    rw [← hv, Nat.mul_assoc, Nat.mul_assoc, ← Nat.pow_add, ← Nat.pow_add]
    congr 2
    omega
  generalize m * 2 ^ e.toNat = W at *
  generalize (-e).toNat = D at *
  have hD := Nat.two_pow_pos D
  have hdm := Nat.div_add_mod W (2 ^ D)
  have hml := Nat.mod_lt W hD
  have hU : 0 < 2 ^ 1074 := Nat.two_pow_pos _
  unfold sval
  rw [hR]
  generalize hUU : 2 ^ 1074 = T at *
  generalize hDD : 2 ^ D = G at *
  generalize hq : W / G = t at *
  generalize hr' : W % G = r at *
  cases hs : sgn FloatKind.f64.format b
  · simp only [Bool.false_eq_true, if_false, Bool.false_and, Bool.toNat_false, Nat.add_zero]
    constructor
    · have : t * T ≤ R := by
        apply Nat.le_of_mul_le_mul_right (c := G) _ hD
        rw [hRW]
        calc t * T * G = G * t * T := by ac_rfl
          _ ≤ W * T := Nat.mul_le_mul_right _ (by omega)
      exact_mod_cast this
    · have : R < (t + 1) * T := by
        apply Nat.lt_of_mul_lt_mul_right (a := G)
        rw [hRW]
        calc W * T < (G * t + G) * T := Nat.mul_lt_mul_of_pos_right (by omega) hU
          _ = (t + 1) * T * G := by rw [← Nat.mul_succ]; show G * (t + 1) * T = _; ac_rfl
      exact_mod_cast this
  · simp only [if_true, Bool.true_and]
    rw [Int.neg_mul]
    have x1 : R ≤ (t + (r != 0).toNat) * T := by
      apply Nat.le_of_mul_le_mul_right (c := G) _ hD
      rw [hRW]
      have : W ≤ G * (t + (r != 0).toNat) := by
        rw [Nat.mul_add]
        by_cases h0 : r = 0
        · subst h0; simp; omega
        · have : (r != 0) = true := by simpa using h0
          rw [this]
          simp
          omega
      calc W * T ≤ G * (t + (r != 0).toNat) * T := Nat.mul_le_mul_right _ this
        _ = (t + (r != 0).toNat) * T * G := by ac_rfl
    have x2 : (t + (r != 0).toNat) * T < R + T := by
      apply Nat.lt_of_mul_lt_mul_right (a := G)
      rw [Nat.add_mul R, hRW]
      have : G * (t + (r != 0).toNat) < W + G := by
        rw [Nat.mul_add]
        by_cases h0 : r = 0
        · subst h0; simp; omega
        · have : (r != 0) = true := by simpa using h0
          rw [this]
          simp
          omega
      calc (t + (r != 0).toNat) * T * G = G * (t + (r != 0).toNat) * T := by ac_rfl
        _ < (W + G) * T := Nat.mul_lt_mul_of_pos_right this hU
        _ = W * T + T * G := by rw [Nat.add_mul, Nat.mul_comm G]
    have y1 : (R : Int) ≤ ((t + (r != 0).toNat : Nat) : Int) * (T : Int) := by exact_mod_cast x1
    have y2 : ((t + (r != 0).toNat : Nat) : Int) * (T : Int) < (R : Int) + (T : Int) := by exact_mod_cast x2
    rw [Int.add_mul, Int.neg_mul]
    omega
theorem flr_rg {v : Nat} {lo hi : Int} (h : Rg .f64 40 (some v) lo hi) (hl : lo.natAbs < 9007199254740992) (hh : hi.natAbs < 9007199254740992) :
    ∃ n, floatToIntVal .f64 (flr v) .i64 = some n ∧ n * 1099511627776 ≤ hi ∧ lo < (n + 1) * 1099511627776 := by
  obtain ⟨b, e, hf, hw, a1, a2⟩ := h
  cases e
  obtain ⟨c, n, h1, h2, h3, h4⟩ := flr_int2 hf
  have eU : U .f64 = 1074 := by decide
  rw [eU] at a1 a2
  have hT : (0 : Int) < ((2 ^ 1074 : Nat) : Int) := by decide +kernel
  have eG : ((2 ^ 40 : Nat) : Int) = 1099511627776 := by decide
  rw [eG] at a1 a2
  generalize ((2 ^ 1074 : Nat) : Int) = T at *
  have k1 : n * 1099511627776 ≤ hi := by
    apply Int.le_of_mul_le_mul_right _ hT
    rw [Int.mul_right_comm]
    omega
  have k2 : lo < (n + 1) * 1099511627776 := by
    apply Int.lt_of_mul_lt_mul_right _ (Int.le_of_lt hT)
    rw [Int.mul_right_comm]
    omega
  have hc : c = n.natAbs := by rw [h2]; split <;> simp
  have hV : V .f64 (flr v) n := by
    rw [h1, hc]
    refine V.word (fun h0 => ?_) (by show n.natAbs < 9007199254740992; omega)
    cases hs : sgn FloatKind.f64.format v
    · rw [hs] at h2
      simp at h2
      exact (decide_eq_false (by omega)).symm
    · rw [hs] at h2
      simp at h2
      exact (decide_eq_true (by omega)).symm
  exact ⟨n, hV.toInt (by omega), k1, k2⟩

/-- intervals as data; none where they leave the grid's reach -/
abbrev Iv := Option (Int × Int)
def okI (lo hi : Int) : Iv := bif decide (lo.natAbs < 9007199254740992) && decide (hi.natAbs < 9007199254740992) then some (lo, hi) else none
def addI : Iv → Iv → Iv
  | some (a, b), some (c, d) => okI (a + c) (b + d)
  | _, _ => none
def subI : Iv → Iv → Iv
  | some (a, b), some (c, d) => okI (a - d) (b - c)
  | _, _ => none
def min4 (a b c d : Int) : Int := min (min a b) (min c d)
def max4 (a b c d : Int) : Int := max (max a b) (max c d)
def mulI : Iv → Iv → Iv
  | some (a, b), some (c, d) => okI (min4 (a * c) (a * d) (b * c) (b * d) / 1099511627776) (-(-(max4 (a * c) (a * d) (b * c) (b * d)) / 1099511627776))
  | _, _ => none
def quoI : Iv → Iv → Iv
  | some (a, b), some (c, d) => bif decide (0 < c) && decide (0 < d) then okI (min (a * 1099511627776 / c) (a * 1099511627776 / d)) (max (-(-(b * 1099511627776) / c)) (-(-(b * 1099511627776) / d))) else none
  | _, _ => none
def RgO (c : Option Nat) (o : Iv) : Prop := ∀ p, o = some p → Rg .f64 40 c p.1 p.2
theorem okI_some {lo hi : Int} {p : Int × Int} (h : okI lo hi = some p) : p = (lo, hi) ∧ lo.natAbs < 9007199254740992 ∧ hi.natAbs < 9007199254740992 := by
  unfold okI at h
  cases hx : (decide (lo.natAbs < 9007199254740992) && decide (hi.natAbs < 9007199254740992))
  · rw [hx] at h; cases h
  · rw [hx] at h
    cases h
    simp at hx
    exact ⟨rfl, hx⟩
theorem RgO.add {c d : Option Nat} {x y : Iv} (hc : RgO c x) (hd : RgO d y) : RgO (fop .add .f64 c d) (addI x y) := fun p hp => by
  match x, y, hc, hd, hp with
  | some (a, b), some (e, f), hc, hd, hp =>
    obtain ⟨rfl, h1, h2⟩ := okI_some hp
    exact (hc _ rfl).add (hd _ rfl) h1 h2 (by decide)
theorem RgO.sub {c d : Option Nat} {x y : Iv} (hc : RgO c x) (hd : RgO d y) : RgO (fop .sub .f64 c d) (subI x y) := fun p hp => by
  match x, y, hc, hd, hp with
  | some (a, b), some (e, f), hc, hd, hp =>
    obtain ⟨rfl, h1, h2⟩ := okI_some hp
    exact (hc _ rfl).sub (hd _ rfl) h1 h2 (by decide)
theorem dn_le {m x : Int} (h : m ≤ x) : m / 1099511627776 * ((2 ^ 40 : Nat) : Int) ≤ x := by
  show m / 1099511627776 * 1099511627776 ≤ x
  omega
theorem le_up {m x : Int} (h : x ≤ m) : x ≤ -(-m / 1099511627776) * ((2 ^ 40 : Nat) : Int) := by
  show x ≤ -(-m / 1099511627776) * 1099511627776
  omega
theorem RgO.mul {c d : Option Nat} {x y : Iv} (hc : RgO c x) (hd : RgO d y) : RgO (fop .mul .f64 c d) (mulI x y) := fun p hp => by
  match x, y, hc, hd, hp with
  | some (a, b), some (e, f), hc, hd, hp =>
    obtain ⟨rfl, h1, h2⟩ := okI_some hp
    exact (hc _ rfl).mul (hd _ rfl) (dn_le (by unfold min4; show _ ≤ a * e; omega)) (dn_le (by unfold min4; show _ ≤ a * f; omega)) (dn_le (by unfold min4; show _ ≤ b * e; omega)) (dn_le (by unfold min4; show _ ≤ b * f; omega))
      (le_up (by unfold max4; show a * e ≤ _; omega)) (le_up (by unfold max4; show a * f ≤ _; omega)) (le_up (by unfold max4; show b * e ≤ _; omega)) (le_up (by unfold max4; show b * f ≤ _; omega)) h1 h2 (by decide)
theorem quo_dn_le {x s t : Int} (hs : 0 < s) (h : t ≤ x / s) : t * s ≤ x := by
  have h1 := Int.mul_le_mul_of_nonneg_right h (Int.le_of_lt hs)
  have h2 := Int.ediv_mul_le x (b := s) (by omega)
  omega
theorem quo_up_le {x s t : Int} (hs : 0 < s) (h : -(-x / s) ≤ t) : x ≤ t * s := by
  have h1 := quo_dn_le (x := -x) (t := -t) hs (by omega)
  rw [Int.neg_mul] at h1
  omega
theorem RgO.quo {c d : Option Nat} {x y : Iv} (hc : RgO c x) (hd : RgO d y) : RgO (fop .quo .f64 c d) (quoI x y) := fun p hp => by
  match x, y, hc, hd, hp with
  | some (a, b), some (e, f), hc, hd, hp =>
    unfold quoI at hp
    cases hx : (decide (0 < e) && decide (0 < f))
    · simp only [hx, cond_false] at hp; cases hp
    · simp only [hx, cond_true] at hp
      obtain ⟨rfl, h1, h2⟩ := okI_some hp
      simp at hx
      exact (hc _ rfl).quo (hd _ rfl) hx.1 (quo_dn_le hx.1 (Int.min_le_left _ _)) (quo_dn_le hx.2 (Int.min_le_right _ _)) (quo_up_le hx.1 (Int.le_max_left _ _)) (quo_up_le hx.2 (Int.le_max_right _ _)) h1 h2 (by decide)
/-- the test of a closed number -/
def rgB (c : Option Nat) (p : Int × Int) : Bool := c.any fun b => decide (rung FloatKind.f64.format b < FloatKind.f64.format.infRung) && decide (b < 18446744073709551616) && decide (p.1 * ((2 ^ 1074 : Nat) : Int) ≤ sval FloatKind.f64.format b * ((2 ^ 40 : Nat) : Int)) && decide (sval FloatKind.f64.format b * ((2 ^ 40 : Nat) : Int) ≤ p.2 * ((2 ^ 1074 : Nat) : Int))
theorem rgB_some {c : Option Nat} {p : Int × Int} (h : rgB c p = true) : RgO c (some p) := fun q hq => by
  cases hq
  cases c with
  | none => cases h
  | some b =>
    simp only [rgB, Option.any_some, Bool.and_eq_true, decide_eq_true_eq] at h
    exact ⟨b, rfl, h.1.1.1, h.1.1.2, h.1.2, h.2⟩
theorem V.rgO {b : Nat} {n : Int} (h : V .f64 b n) : RgO (some b) (some (n * 1099511627776, n * 1099511627776)) := fun q hq => by
  cases hq
  refine ⟨b, rfl, h.1, h.2.2, ?_⟩
  rw [h.2.1]
  have : n * 1099511627776 * ((2 ^ U .f64 : Nat) : Int) = n * ((2 ^ U .f64 : Nat) : Int) * ((2 ^ 40 : Nat) : Int) := Int.mul_right_comm _ _ _
  show n * 1099511627776 * _ ≤ _ ∧ _ ≤ n * 1099511627776 * _
  rw [this]
  exact ⟨Int.le_refl _, Int.le_refl _⟩
end Flt
