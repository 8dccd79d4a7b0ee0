/- Bounds of floats: no number beyond a rung. -/
import Derived.Test.YtmpeogpmlgnmfaaFlt
namespace Flt
open Go Ieee
set_option exponentiation.threshold 3000

/-- no number beyond a rung -/
def Bd (k : FloatKind) (C : Nat) (c : Option Nat) : Prop := ∀ b, c = some b → rung k.format b ≤ C
theorem Bd.none (k : FloatKind) (C : Nat) : Bd k C none := fun _ h => by cases h
theorem Bd.mono {k : FloatKind} {C D : Nat} {c : Option Nat} (h : Bd k C c) (hd : C ≤ D) : Bd k D c := fun b hb => Nat.le_trans (h b hb) hd
theorem Bd.cls {k : FloatKind} {C b : Nat} (h : rung k.format b ≤ C) : Bd k C (cls k b) := fun c hc => by
  obtain ⟨rfl, _⟩ := cls_some hc
  exact h
theorem noOver_bd {s k : FloatKind} {C b : Nat} (h : Bd s C (Flt.cls s b)) (hc : rungOf k.format (rval s.format C) s.format.leastPlace < k.format.infRung) (hC : C ≤ s.format.infRung) : NoOver s k b := fun hlt =>
  noOver_le hc hC (h b (by unfold Flt.cls; rw [if_pos (Nat.le_of_lt hlt)])) hlt

theorem natAbs_sval {f : Format} (b : Nat) : (sval f b).natAbs = rval f (rung f b) := by
  unfold sval; split <;> simp

theorem bd_mul {k : FloatKind} {a b : Option Nat} {C D E : Nat} (ha : Bd k C a) (hb : Bd k D b) (hC : C < k.format.infRung) (hD : D < k.format.infRung)
    (hE : rungOf k.format (rval k.format C * rval k.format D) (k.format.leastPlace + k.format.leastPlace) ≤ E) : Bd k E (fop .mul k a b) := fun r hr => by
  cases a with
  | none => cases hr
  | some a =>
    cases b with
    | none => cases hr
    | some b =>
      have h1 := ha a rfl
      have h2 := hb b rfl
      have e : k.format.mul a b = some r := hr
      rw [mul_fin (by omega) (by omega)] at e
      cases e
      rw [word_rung _ (Nat.lt_of_le_of_lt (rungOf_le_inf _ _) inf_lt_sw)]
      exact Nat.le_trans (rungOf_mono (Nat.mul_le_mul (rval_le (Nat.le_of_lt hC) h1) (rval_le (Nat.le_of_lt hD) h2)) _) hE

theorem bd_add {k : FloatKind} {a b : Option Nat} {C D E : Nat} (ha : Bd k C a) (hb : Bd k D b) (hC : C < k.format.infRung) (hD : D < k.format.infRung)
    (hE : rungOf k.format (rval k.format C + rval k.format D) k.format.leastPlace ≤ E) : Bd k E (fop .add k a b) := fun r hr => by
  cases a with
  | none => cases hr
  | some a =>
    cases b with
    | none => cases hr
    | some b =>
      have h1 := ha a rfl
      have h2 := hb b rfl
      have e : k.format.add a b = some r := hr
      rw [add_fin (by omega) (by omega)] at e
      cases e
      rw [word_rung _ (Nat.lt_of_le_of_lt (rungOf_le_inf _ _) inf_lt_sw)]
      refine Nat.le_trans (rungOf_mono ?_ _) hE
      have e1 := natAbs_sval (f := k.format) a
      have e2 := natAbs_sval (f := k.format) b
      have g1 := rval_le (Nat.le_of_lt hC) h1
      have g2 := rval_le (Nat.le_of_lt hD) h2
      omega

theorem bd_sub {k : FloatKind} {a b : Option Nat} {C D E : Nat} (ha : Bd k C a) (hb : Bd k D b) (hC : C < k.format.infRung) (hD : D < k.format.infRung)
    (hE : rungOf k.format (rval k.format C + rval k.format D) k.format.leastPlace ≤ E) : Bd k E (fop .sub k a b) := fun r hr => by
  cases a with
  | none => cases hr
  | some a =>
    cases b with
    | none => cases hr
    | some b =>
      have h1 := ha a rfl
      have h2 := hb b rfl
      have e : k.format.sub a b = some r := hr
      rw [sub_fin (by omega) (by omega)] at e
      cases e
      rw [word_rung _ (Nat.lt_of_le_of_lt (rungOf_le_inf _ _) inf_lt_sw)]
      refine Nat.le_trans (rungOf_mono ?_ _) hE
      have e1 := natAbs_sval (f := k.format) a
      have e2 := natAbs_sval (f := k.format) b
      have g1 := rval_le (Nat.le_of_lt hC) h1
      have g2 := rval_le (Nat.le_of_lt hD) h2
      omega

theorem bd_neg {k : FloatKind} {a : Option Nat} {C : Nat} (ha : Bd k C a) (hw : Wfc k a) : Bd k C (fneg k a) := fun r hr => by
  cases a with
  | none => cases hr
  | some a =>
    have e : r = Op.negFloat k a := by unfold fneg at hr; simp at hr; exact hr.symm
    subst e
    rw [neg_rung (hw a rfl).2]
    exact ha a rfl

theorem bd_conv {s k : FloatKind} {a : Option Nat} {C E : Nat} (ha : Bd s C a) (hC : C < s.format.infRung)
    (hE : rungOf k.format (rval s.format C) s.format.leastPlace ≤ E) : Bd k E (fconv s k a) := fun r hr => by
  cases a with
  | none => cases hr
  | some a =>
    have e : r = conv s k a := by unfold fconv at hr; simp at hr; exact hr.symm
    subst e
    have h1 := ha a rfl
    rw [conv_rung (by omega)]
    exact Nat.le_trans (rungOf_mono (rval_le (Nat.le_of_lt hC) h1) _) hE

/-- a quotient of finite numbers, roughly -/
theorem div_fin {f : Format} {a b r K s : Nat} (ha : rung f a < f.infRung) (hb : rung f b < f.infRung) (hb0 : rval f (rung f b) ≠ 0)
    (h : rval f (rung f a) * 2 ^ s ≤ rval f (rung f b) * K) (hr : f.div a b = some r) : rung f r ≤ rungOf f (2 * K) (-(s : Int)) := by
  obtain ⟨m, i, hra, hi, hva⟩ := read_fin ha
  obtain ⟨n, j, hrb, hj, hvb⟩ := read_fin hb
  unfold Format.div at hr
  rw [hra, hrb] at hr
  have hn : n ≠ 0 := by
    rintro rfl
    rw [Nat.zero_mul] at hvb
    omega
  simp only [Datum.quotient, if_neg hn, Option.map_some, Option.some.injEq] at hr
  subst hr
  rw [rung_write_num]
  generalize hM : f.fractionBits + 2 + n.log2 - m.log2 = M
  rw [Nat.shiftLeft_eq]
  generalize hQ : m * 2 ^ M / n = Q
  generalize hS : (m * 2 ^ M % n != 0).toNat = S
  have hQ1 : Q * n ≤ m * 2 ^ M := by rw [← hQ]; exact Nat.div_mul_le_self _ _
  have hS1 : S ≤ 1 := by rw [← hS]; cases (m * 2 ^ M % n != 0) <;> simp
  have hQ0 : m = 0 ∨ 1 ≤ Q := by
    rcases Nat.eq_zero_or_pos m with h0 | h0
    · exact .inl h0
    · right
      rw [← hQ]
      apply (Nat.one_le_div_iff (by omega)).2
      have h1 := @Nat.lt_log2_self n
      have h2 := Nat.log2_self_le (show m ≠ 0 by omega)
      calc n ≤ 2 ^ (n.log2 + 1) := Nat.le_of_lt h1
        _ ≤ 2 ^ (m.log2 + M) := Nat.pow_le_pow_right (by omega) (by omega)
        _ = 2 ^ m.log2 * 2 ^ M := Nat.pow_add _ _ _
        _ ≤ m * 2 ^ M := Nat.mul_le_mul_right _ h2
  rcases hQ0 with h0 | h0
  · subst h0
    have e1 : Q = 0 := by rw [← hQ]; simp
    have e2 : S = 0 := by rw [← hS]; simp
    rw [e1, e2]
    unfold rungOf; simp
  -- a common place
  generalize hB : min (i - j - (M : Int) - 1) (-(s : Int)) - 1 = B
  apply rungOf_mono2 (b := B) (by omega) (by omega)
  have hmag : (2 * Q + S) * n ≤ 3 * (m * 2 ^ M) := by
    have : (2 * Q + S) * n ≤ 3 * (Q * n) := by
      have : (2 * Q + S) * n ≤ (3 * Q) * n := Nat.mul_le_mul_right _ (by omega)
      rw [Nat.mul_assoc] at this; exact this
    omega
  -- cancel the divisor
  have hpos : 0 < rval f (rung f b) := by omega
  apply Nat.le_of_mul_le_mul_right (c := rval f (rung f b)) _ hpos
  generalize hX : (i - j - (M : Int) - 1 - B).toNat = X
  generalize hY : (-(s : Int) - B).toNat = Y
  have hexp : M + X + (j - f.leastPlace).toNat + 1 = (i - f.leastPlace).toNat + (s + Y) := by omega
  have l1 : (2 * Q + S) * 2 ^ X * rval f (rung f b) = ((2 * Q + S) * n) * (2 ^ X * 2 ^ (j - f.leastPlace).toNat) := by
    rw [← hvb]
    ac_rfl
  have l2 : ((2 * Q + S) * n) * (2 ^ X * 2 ^ (j - f.leastPlace).toNat) ≤ 3 * (m * 2 ^ M) * (2 ^ X * 2 ^ (j - f.leastPlace).toNat) := Nat.mul_le_mul_right _ hmag
  have l3 : 3 * (m * 2 ^ M) * (2 ^ X * 2 ^ (j - f.leastPlace).toNat) = 3 * m * 2 ^ (M + X + (j - f.leastPlace).toNat) := by
    rw [Nat.pow_add, Nat.pow_add]; ac_rfl
  have l4 : 2 * (m * 2 ^ (M + X + (j - f.leastPlace).toNat)) = rval f (rung f a) * 2 ^ s * 2 ^ Y := by
    rw [← hva]
    have : 2 * (m * 2 ^ (M + X + (j - f.leastPlace).toNat)) = m * 2 ^ (M + X + (j - f.leastPlace).toNat + 1) := by
      rw [Nat.pow_succ]; ac_rfl
    rw [this, hexp, Nat.pow_add, Nat.pow_add]; ac_rfl
  have l5 : rval f (rung f a) * 2 ^ s * 2 ^ Y ≤ rval f (rung f b) * K * 2 ^ Y := Nat.mul_le_mul_right _ h
  have l6 : 2 * K * 2 ^ Y * rval f (rung f b) = 2 * (rval f (rung f b) * K * 2 ^ Y) := by ac_rfl
  rw [l1, l6]
  rw [l3] at l2
  have l7 : 3 * m * 2 ^ (M + X + (j - f.leastPlace).toNat) = 3 * (m * 2 ^ (M + X + (j - f.leastPlace).toNat)) := by rw [Nat.mul_assoc]
  rw [l7] at l2
  generalize m * 2 ^ (M + X + (j - f.leastPlace).toNat) = Z at *
  omega

theorem lp_le (k : FloatKind) : k.format.leastPlace ≤ 0 := by cases k <;> decide

/-- no number but is at least a rung -/
def Lo (k : FloatKind) (C : Nat) (c : Option Nat) : Prop := ∀ b, c = some b → C ≤ rung k.format b

theorem div_zero {f : Format} {a b r : Nat} (ha : rung f a < f.infRung) (hb : rung f b = f.infRung) (hB : 1 ≤ f.exponentBits) (hr : f.div a b = some r) : rung f r = 0 := by
  obtain ⟨m, i, hra, hi, hva⟩ := read_fin ha
  unfold Format.div at hr
  rw [hra, read_inf hB hb] at hr
  simp only [Datum.quotient, Option.map_some, Option.some.injEq] at hr
  subst hr
  rw [rung_write_num]
  unfold rungOf; simp

theorem bd_quo {k : FloatKind} {a b : Option Nat} {C D E : Nat} (ha : Bd k C a) (hb : Lo k D b) (hC : C < k.format.infRung) (hn : Nn k b) (s : Nat) (K : Nat)
    (hD : 0 < rval k.format D) (h : rval k.format C * 2 ^ s ≤ rval k.format D * K)
    (hE : rungOf k.format (2 * K) (-(s : Int)) ≤ E) : Bd k E (fop .quo k a b) := fun r hr => by
  cases a with
  | none => cases hr
  | some a =>
    cases b with
    | none => cases hr
    | some b =>
      have h1 := ha a rfl
      have h2 := hb b rfl
      have h3 := hn b rfl
      have e : k.format.div a b = some r := hr
      rcases Nat.lt_or_eq_of_le h3 with h4 | h4
      · have g1 := rval_le (f := k.format) h3 h2
        refine Nat.le_trans (div_fin (K := K) (s := s) (by omega) h4 (by omega) ?_ e) hE
        exact Nat.le_trans (Nat.mul_le_mul_right _ (rval_le (Nat.le_of_lt hC) h1)) (Nat.le_trans h (Nat.mul_le_mul_right _ g1))
      · rw [div_zero (by omega) h4 (eb k) e]; omega

/-- a quotient of numbers of which the lower is no less -/
theorem bd_quo_le {k : FloatKind} {a b : Nat} (h : rung k.format a ≤ rung k.format b) (ha : rung k.format a < k.format.infRung) (hn : rung k.format b ≤ k.format.infRung) (h0 : rung k.format b ≠ 0) : Bd k (rungOf k.format 2 0) (fop .quo k (some a) (some b)) := fun r hr => by
  have e : k.format.div a b = some r := hr
  rcases Nat.lt_or_eq_of_le hn with h4 | h4
  · refine div_fin (K := 1) (s := 0) ha h4 ?_ ?_ e
    · intro hz; exact h0 ((rval_zero_iff hn).1 hz)
    · have := rval_le (f := k.format) hn h
      omega
  · rw [div_zero ha h4 (eb k) e]; omega

/-- a root of a finite number, roughly -/
theorem rootFrom_le (n : Nat) : ∀ (todo root : Nat), root * root ≤ n → Datum.rootFrom n todo root * Datum.rootFrom n todo root ≤ n
  | 0, root, h => h
  | todo + 1, root, h => by
    unfold Datum.rootFrom
    apply rootFrom_le
    split <;> assumption

theorem sqrt_fin {f : Format} {a r : Nat} {q : Int} (ha : rung f a < f.infRung) (hq : f.leastPlace ≤ 2 * q) (h : rval f (rung f a) ≤ 2 ^ (2 * q - f.leastPlace).toNat)
    (hr : f.sqrt a = some r) : rung f r ≤ rungOf f 1 (q + 1) := by
  obtain ⟨m, i, hra, hi, hva⟩ := read_fin ha
  unfold Format.sqrt at hr
  rw [hra] at hr
  simp only [Datum.root] at hr
  split at hr
  · rename_i h0
    simp only [Option.map_some, Option.some.injEq] at hr
    subst hr
    rw [rung_write_num, h0]
    unfold rungOf; simp
  rename_i hm
  split at hr
  · cases hr
  simp only [Option.map_some, Option.some.injEq] at hr
  subst hr
  rw [rung_write_num]
  generalize hM : 2 * (f.fractionBits + 2) - m.log2 = M0
  generalize hM2 : M0 + ((i - (M0 : Int)) % 2).toNat = M
  have hpar : (i - (M : Int)) % 2 = 0 := by omega
  rw [Nat.shiftLeft_eq]
  generalize hN : m * 2 ^ M = N
  have hw := rootFrom_le N (N.log2 / 2 + 1) 0 (by simp)
  generalize Datum.rootFrom N (N.log2 / 2 + 1) 0 = W at *
  generalize hS : (W * W != N).toNat = S
  have hS1 : S ≤ 1 := by rw [← hS]; cases (W * W != N) <;> simp
  have hN1 : 1 ≤ N := by rw [← hN]; exact Nat.mul_pos (by omega) (Nat.two_pow_pos _)
  generalize hB : min (min ((i - (M : Int)) / 2 - 1) (q + 1)) 0 - 1 - (f.leastPlace.natAbs : Int) = B
  apply rungOf_mono2 (b := B) (by omega) (by omega)
  generalize hX : ((i - (M : Int)) / 2 - 1 - B).toNat = X
  generalize hY : (q + 1 - B).toNat = Y
  rw [Nat.one_mul]
  have hWN : W ≤ N := by
    rcases Nat.eq_zero_or_pos W with h0 | h0
    · omega
    · exact Nat.le_trans (Nat.le_mul_of_pos_right W h0) hw
  have hsq : (2 * W + S) * (2 * W + S) ≤ 9 * N := by
    have hle : (2 * W + S) * (2 * W + S) ≤ (2 * W + 1) * (2 * W + 1) := Nat.mul_le_mul (by omega) (by omega)
    have : (2 * W + 1) * (2 * W + 1) = 4 * (W * W) + 4 * W + 1 := by
      simp only [Nat.add_mul, Nat.mul_add, Nat.one_mul, Nat.mul_one]
      have : 2 * W * (2 * W) = 4 * (W * W) := by rw [Nat.mul_mul_mul_comm]
      omega
    omega
  apply Nat.mul_self_le_mul_self_iff.1
  have e1 : (2 * W + S) * 2 ^ X * ((2 * W + S) * 2 ^ X) = ((2 * W + S) * (2 * W + S)) * (2 ^ X * 2 ^ X) := by ac_rfl
  rw [e1]
  refine Nat.le_trans (Nat.mul_le_mul_right _ hsq) ?_
  -- 9 N 4^X = 9 m 2^(M + 2 X); 4 m 2^(M+2X) ... 
  have hval : m * 2 ^ (i - f.leastPlace).toNat ≤ 2 ^ (2 * q - f.leastPlace).toNat := by rw [hva]; exact h
  -- M + 2 X + 2 + lp-part
  have e2 : 9 * N * (2 ^ X * 2 ^ X) = 9 * (m * 2 ^ (M + X + X)) := by rw [← hN, Nat.pow_add, Nat.pow_add]; ac_rfl
  rw [e2]
  apply Nat.le_of_mul_le_mul_right (c := 4) _ (by omega)
  -- M + 2X + 2 = i - 2B ; 2Y = 2q + 2 - 2B
  generalize hZ : (-2 * B + f.leastPlace).toNat = Z
  have x1 : M + X + X + 2 = (i - f.leastPlace).toNat + Z := by omega
  have x2 : Y + Y = (2 * q - f.leastPlace).toNat + Z + 2 := by omega
  have e3 : 9 * (m * 2 ^ (M + X + X)) * 4 = 9 * (m * 2 ^ (i - f.leastPlace).toNat * 2 ^ Z) := by
    have : m * 2 ^ (M + X + X) * 4 = m * 2 ^ (M + X + X + 2) := by rw [Nat.pow_add 2 (M + X + X) 2]; ac_rfl
    rw [Nat.mul_assoc, this, x1, Nat.pow_add, Nat.mul_assoc]
  have e4 : 2 ^ Y * 2 ^ Y * 4 = 16 * (2 ^ (2 * q - f.leastPlace).toNat * 2 ^ Z) := by
    rw [← Nat.pow_add, x2, Nat.pow_add, Nat.pow_add]; omega
  rw [e3, e4]
  have := Nat.mul_le_mul_right (2 ^ Z) hval
  omega

/-- cut towards zero -/
theorem cut_zero (neg : Bool) (n drop : Nat) : Toward.zero.cut neg n drop = n / 2 ^ drop := by
  unfold Toward.cut
  simp only [Nat.one_shiftLeft]
  by_cases h : drop ≤ n.log2 + 2
  · rw [Nat.min_eq_left h]; simp
  · have h' : n.log2 + 2 ≤ drop := by omega
    rw [Nat.min_eq_right h']
    have hn : n < 2 ^ (n.log2 + 1) := Nat.lt_log2_self
    have e2 : 2 ^ (n.log2 + 2) = 2 * 2 ^ (n.log2 + 1) := by rw [Nat.pow_succ 2 (n.log2 + 1), Nat.mul_comm]
    have e3 : 2 ^ (n.log2 + 2) ≤ 2 ^ drop := Nat.pow_le_pow_right (by omega) h'
    rw [Nat.div_eq_of_lt (by omega), Nat.div_eq_of_lt (by omega)]
    rfl

theorem toInt_fin {f : Format} {b : Nat} (hlp : f.leastPlace ≤ 0) (hb : rung f b < f.infRung) :
    ∃ t : Nat, (f.read b).toInt .zero = some (signed (sgn f b) t 0) ∧ t * 2 ^ (-f.leastPlace).toNat ≤ rval f (rung f b) ∧ rval f (rung f b) < (t + 1) * 2 ^ (-f.leastPlace).toNat := by
  obtain ⟨m, i, hr, hi, hv⟩ := read_fin hb
  refine ⟨m * 2 ^ i.toNat / 2 ^ (-i).toNat, ?_, ?_, ?_⟩
  · rw [hr]; unfold Datum.toInt Datum.integral; simp only [cut_zero, Nat.shiftLeft_eq]
  · rw [← hv]
    rcases (by omega : 0 ≤ i ∨ i < 0) with h | h
    · have e : (-i).toNat = 0 := by omega
      rw [e, Nat.pow_zero, Nat.div_one, Nat.mul_assoc, ← Nat.pow_add]
      have : i.toNat + (-f.leastPlace).toNat = (i - f.leastPlace).toNat := by omega
      rw [this]; exact Nat.le_refl _
    · have e : i.toNat = 0 := by omega
      rw [e, Nat.pow_zero, Nat.mul_one]
      have : (-f.leastPlace).toNat = (-i).toNat + (i - f.leastPlace).toNat := by omega
      rw [this, Nat.pow_add, ← Nat.mul_assoc]
      exact Nat.mul_le_mul_right _ (Nat.div_mul_le_self _ _)
  · rw [← hv]
    rcases (by omega : 0 ≤ i ∨ i < 0) with h | h
    · have e : (-i).toNat = 0 := by omega
      rw [e, Nat.pow_zero, Nat.div_one, Nat.add_mul, Nat.mul_assoc, ← Nat.pow_add]
      have : i.toNat + (-f.leastPlace).toNat = (i - f.leastPlace).toNat := by omega
      rw [this]
      have := Nat.two_pow_pos (-f.leastPlace).toNat
      omega
    · have e : i.toNat = 0 := by omega
      rw [e, Nat.pow_zero, Nat.mul_one]
      have : (-f.leastPlace).toNat = (-i).toNat + (i - f.leastPlace).toNat := by omega
      rw [this, Nat.pow_add, ← Nat.mul_assoc]
      apply Nat.mul_lt_mul_of_pos_right _ (Nat.two_pow_pos _)
      have h1 := Nat.div_add_mod m (2 ^ (-i).toNat)
      have h2 := Nat.mod_lt m (Nat.two_pow_pos (-i).toNat)
      rw [Nat.add_mul, Nat.one_mul, Nat.mul_comm (m / 2 ^ (-i).toNat)]
      omega

/-- an integer of up to 53 digits, as a float64 -/
theorem floatOfInt_fin (n : Int) (h : n.natAbs < 9007199254740992) :
    rung FloatKind.f64.format (floatOfInt .f64 n) < FloatKind.f64.format.infRung ∧ sval FloatKind.f64.format (floatOfInt .f64 n) = n * (2 ^ 1074 : Nat) := by
  have e : rung FloatKind.f64.format (floatOfInt .f64 n) = rungOf FloatKind.f64.format n.natAbs 0 := by
    show rung FloatKind.f64.format (FloatKind.f64.format.write (.number _ _ 0)) = _
    rw [rung_write_num]
  have hlt : rungOf FloatKind.f64.format n.natAbs 0 < FloatKind.f64.format.infRung :=
    Nat.lt_of_le_of_lt (rungOf_mono (show n.natAbs ≤ 9007199254740992 by omega) 0) (by decide +kernel)
  refine ⟨by rw [e]; exact hlt, ?_⟩
  have hs : sgn FloatKind.f64.format (floatOfInt .f64 n) = decide (n < 0) := by
    show sgn FloatKind.f64.format (FloatKind.f64.format.nearest (decide (n < 0)) n.natAbs 0) = _
    rw [nearest_eq, word_sgn _ (Nat.lt_of_le_of_lt (rungOf_le_inf _ _) inf_lt_sw)]
  have hv : rval FloatKind.f64.format (rungOf FloatKind.f64.format n.natAbs 0) = n.natAbs * 2 ^ 1074 := by
    rw [rval_exact (show n.natAbs < 2 * FloatKind.f64.format.binade from h) (by decide) hlt]
    rfl
  unfold sval
  rw [hs, e, hv]
  rw [Int.natCast_mul]
  generalize ((2 ^ 1074 : Nat) : Int) = U
  by_cases hn : n < 0
  · simp only [hn, decide_true, if_true]
    rw [show ((n.natAbs : Nat) : Int) = -n by omega, Int.neg_mul, Int.neg_neg]
  · simp only [hn, decide_false]
    rw [show ((n.natAbs : Nat) : Int) = n by omega]
    rfl

/-- a number below 2^52 has a whole part, and less than one beside it -/
theorem whole_part {b : Nat} (hb : rung FloatKind.f64.format b < 4841369599423283200) :
    ∃ n, floatToIntVal .f64 b .i64 = some n ∧ Bd .f64 4607182418800017408 (fop .sub .f64 (Flt.cls .f64 b) (Flt.cls .f64 (floatOfInt .f64 n))) := by
  have hfin : rung FloatKind.f64.format b < FloatKind.f64.format.infRung := Nat.lt_trans hb (by decide +kernel)
  obtain ⟨t, h1, h2, h3⟩ := toInt_fin (lp_le .f64) hfin
  have eU : (-FloatKind.f64.format.leastPlace).toNat = 1074 := by decide
  rw [eU] at h2 h3
  have ht : t < 4503599627370496 := by
    have : rval FloatKind.f64.format (rung FloatKind.f64.format b) < rval FloatKind.f64.format 4841369599423283200 := rval_lt (by decide +kernel) hb
    have e : rval FloatKind.f64.format 4841369599423283200 = 4503599627370496 * 2 ^ 1074 := by decide +kernel
    rw [e] at this
    have := Nat.lt_of_le_of_lt h2 this
    exact Nat.lt_of_mul_lt_mul_right this
  generalize hn : signed (sgn FloatKind.f64.format b) t 0 = n at *
  have hn' : n = if sgn FloatKind.f64.format b then -(t : Int) else t := by
    rw [← hn, signed_eq]; split <;> simp
  have habs : n.natAbs = t := by rw [hn']; split <;> simp
  refine ⟨n, ?_, ?_⟩
  · unfold floatToIntVal
    have : (FloatKind.f64.decode b).toInt .zero = some n := h1
    rw [this]
    have e1 : IntKind.i64.min = -9223372036854775808 := rfl
    have e2 : IntKind.i64.max = 9223372036854775807 := rfl
    simp only [e1, e2]
    rw [if_pos (by omega)]
  · obtain ⟨f1, f2⟩ := floatOfInt_fin n (by omega)
    intro r hr
    have hc1 : Flt.cls .f64 b = some b := by unfold Flt.cls; rw [if_pos (Nat.le_of_lt hfin)]
    have hc2 : Flt.cls .f64 (floatOfInt .f64 n) = some (floatOfInt .f64 n) := by unfold Flt.cls; rw [if_pos (Nat.le_of_lt f1)]
    rw [hc1, hc2] at hr
    have e : FloatKind.f64.format.sub b (floatOfInt .f64 n) = some r := hr
    rw [sub_fin hfin f1] at e
    cases e
    rw [word_rung _ (Nat.lt_of_le_of_lt (rungOf_le_inf _ _) inf_lt_sw), f2]
    have hle : (sval FloatKind.f64.format b - n * ((2 ^ 1074 : Nat) : Int)).natAbs ≤ 2 ^ 1074 := by
      have hs : sval FloatKind.f64.format b = if sgn FloatKind.f64.format b then -(rval FloatKind.f64.format (rung FloatKind.f64.format b) : Int) else (rval FloatKind.f64.format (rung FloatKind.f64.format b) : Int) := rfl
      rw [hs, hn']
      rw [Nat.add_mul, Nat.one_mul] at h3
      generalize rval FloatKind.f64.format (rung FloatKind.f64.format b) = V at *
      generalize 2 ^ 1074 = U at *
      have e2 : (t : Int) * (U : Int) = ((t * U : Nat) : Int) := by simp
      split
      · rw [Int.neg_mul, e2]; omega
      · rw [e2]; omega
    exact Nat.le_trans (rungOf_mono hle _) (by decide +kernel)
end Flt
