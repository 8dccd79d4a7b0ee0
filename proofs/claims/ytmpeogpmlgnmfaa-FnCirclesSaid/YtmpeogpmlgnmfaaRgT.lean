/- The tenths of N sixty-fourths, by intervals. -/
import Derived.Test.YtmpeogpmlgnmfaaRgI
namespace Flt
open Go Ieee Go.Proofs.Ytmpeogpmlgnmfaa
set_option exponentiation.threshold 20000

theorem rg_one : RgO (cls .f64 4607182418800017408) (some (1099511627776, 1099511627776)) := rgB_some (by decide +kernel)
theorem rg_two : RgO (cls .f64 4611686018427387904) (some (2199023255552, 2199023255552)) := rgB_some (by decide +kernel)
theorem rg_zero : RgO (cls .f64 0) (some (0, 0)) := rgB_some (by decide +kernel)
theorem rg_ln2 : RgO (cls .f64 4604418534313441775) (some (762123384785, 762123384786)) := rgB_some (by decide +kernel)
theorem rg_dec : RgO (cls .f64 4631308968768463603) (some (47751183273157, 47751183273158)) := rgB_some (by decide +kernel)
theorem rg_half : RgO (cls .f64 4602678819172646912) (some (549755813888, 549755813888)) := rgB_some (by decide +kernel)
def kN (j : Nat) : Nat := 1099511627776 / (25 - 2 * j)
theorem rg_k' : ∀ j : Nat, j < 13 → rgB (fop .quo .f64 (cls .f64 4607182418800017408) (lnK j)) ((kN j : Nat), ((kN j + 1 : Nat) : Int)) = true := by decide +kernel
theorem rg_k {j : Nat} (h : j < 13) : Rg .f64 40 (fop .quo .f64 (cls .f64 4607182418800017408) (lnK j)) (kN j : Nat) ((kN j + 1 : Nat) : Int) := rgB_some (rg_k' j h) _ rfl
theorem kN_lt {j : Nat} : kN j ≤ 1099511627776 := Nat.div_le_self _ _
/-- products of intervals of nonnegative numbers -/
theorem Rg.mulN {c d : Option Nat} {a b x y lo hi : Nat} (hc : Rg .f64 40 c (a : Int) b) (hd : Rg .f64 40 d (x : Int) y) (hab : a ≤ b) (hxy : x ≤ y) (h1 : lo * 1099511627776 ≤ a * x) (h2 : b * y ≤ hi * 1099511627776) (h3 : hi < 9007199254740992) (h4 : lo ≤ hi) :
    Rg .f64 40 (fop .mul .f64 c d) (lo : Int) hi := by
  have m1 : a * x ≤ a * y := Nat.mul_le_mul_left _ hxy
  have m2 : a * x ≤ b * x := Nat.mul_le_mul_right _ hab
  have m3 : b * x ≤ b * y := Nat.mul_le_mul_left _ hxy
  have m4 : a * y ≤ b * y := Nat.mul_le_mul_right _ hab
  have e : ((2 ^ 40 : Nat) : Int) = ((1099511627776 : Nat) : Int) := by decide
  refine hc.mul hd ?_ ?_ ?_ ?_ ?_ ?_ ?_ ?_ (by show (lo : Int).natAbs < 9007199254740992; omega) (by show (hi : Int).natAbs < 9007199254740992; omega) (by decide) <;> rw [e, ← Int.natCast_mul, ← Int.natCast_mul] <;> apply Int.ofNat_le.2 <;> omega
/-- the square of an interval's number -/
theorem Rg.sqN {c : Option Nat} {a b lo hi : Nat} (hc : Rg .f64 40 c (a : Int) b ∨ Rg .f64 40 c (-(b : Int)) (-(a : Int))) (hab : a ≤ b) (h1 : lo * 1099511627776 ≤ a * a) (h2 : b * b ≤ hi * 1099511627776) (h3 : hi < 9007199254740992) (h4 : lo ≤ hi) :
    Rg .f64 40 (fop .mul .f64 c c) (lo : Int) hi := by
  rcases hc with hc | hc
  · exact hc.mulN hc hab hab h1 h2 h3 h4
  · have m1 : a * a ≤ a * b := Nat.mul_le_mul_left _ hab
    have m2 : a * a ≤ b * a := Nat.mul_le_mul_right _ hab
    have m3 : b * a ≤ b * b := Nat.mul_le_mul_left _ hab
    have m4 : a * b ≤ b * b := Nat.mul_le_mul_right _ hab
    have e : ((2 ^ 40 : Nat) : Int) = ((1099511627776 : Nat) : Int) := by decide
    refine hc.mul hc ?_ ?_ ?_ ?_ ?_ ?_ ?_ ?_ (by show (lo : Int).natAbs < 9007199254740992; omega) (by show (hi : Int).natAbs < 9007199254740992; omega) (by decide) <;> rw [Int.neg_mul_neg, e, ← Int.natCast_mul, ← Int.natCast_mul] <;> apply Int.ofNat_le.2 <;> omega
/-- the product of a nonpositive number and a nonnegative one -/
theorem Rg.mulM {c d : Option Nat} {a b x y lo hi : Nat} (hc : Rg .f64 40 c (-(b : Int)) (-(a : Int))) (hd : Rg .f64 40 d (x : Int) y) (hab : a ≤ b) (hxy : x ≤ y) (h1 : lo * 1099511627776 ≤ a * x) (h2 : b * y ≤ hi * 1099511627776) (h3 : hi < 9007199254740992) (h4 : lo ≤ hi) :
    Rg .f64 40 (fop .mul .f64 c d) (-(hi : Int)) (-(lo : Int)) := by
  have m1 : a * x ≤ a * y := Nat.mul_le_mul_left _ hxy
  have m2 : a * x ≤ b * x := Nat.mul_le_mul_right _ hab
  have m3 : b * x ≤ b * y := Nat.mul_le_mul_left _ hxy
  have m4 : a * y ≤ b * y := Nat.mul_le_mul_right _ hab
  have e : ((2 ^ 40 : Nat) : Int) = ((1099511627776 : Nat) : Int) := by decide
  refine hc.mul hd ?_ ?_ ?_ ?_ ?_ ?_ ?_ ?_ (by show (-(hi : Int)).natAbs < 9007199254740992; omega) (by show (-(lo : Int)).natAbs < 9007199254740992; omega) (by decide) <;> rw [Int.neg_mul, Int.neg_mul, e, ← Int.natCast_mul, ← Int.natCast_mul] <;> apply Int.neg_le_neg <;> apply Int.ofNat_le.2 <;> omega
/-- evaluates a number ahead of its use -/
def force (n : Nat) (k : Nat → Bool) : Bool := match n with | 0 => k 0 | n + 1 => k (n + 1)
theorem force_eq (n : Nat) (k : Nat → Bool) : force n k = k n := by cases n <;> rfl
def qN (ulo uhi : Nat) (K : Nat → Nat → Bool) : Nat → Nat → Nat → Bool
  | 0, x, y => K x y
  | f + 1, x, y => force (kN (12 - f) + ulo * x / 1099511627776) fun x' => force (kN (12 - f) + 2 + uhi * y / 1099511627776) fun y' => Nat.blt y' 1125899906842624 && qN ulo uhi K f x' y'
theorem qN_ok {u : Option Nat} {ulo uhi : Nat} {K : Nat → Nat → Bool} (hu : Rg .f64 40 u (ulo : Int) uhi) (hlu : ulo ≤ uhi) (huu : uhi < 8796093022208) :
    ∀ f x y : Nat, f ≤ 13 → x ≤ y → y < 1125899906842624 → Rg .f64 40 (lnQ u (13 - f)) (x : Int) y → qN ulo uhi K f x y = true → ∃ x y : Nat, x ≤ y ∧ y < 1125899906842624 ∧ Rg .f64 40 (lnQ u 13) (x : Int) y ∧ K x y = true
  | 0, x, y, _, hxy, hy, h, hq => ⟨x, y, hxy, hy, h, hq⟩
  | f + 1, x, y, hf, hxy, hy, h, hq => by
    unfold qN at hq
    rw [force_eq, force_eq, Bool.and_eq_true] at hq
    obtain ⟨h1, h2⟩ := hq
    have h1' : kN (12 - f) + 2 + uhi * y / 1099511627776 < 1125899906842624 := Nat.le_of_ble_eq_true h1
    have hdiv : ulo * x / 1099511627776 ≤ uhi * y / 1099511627776 := Nat.div_le_div_right (Nat.mul_le_mul hlu hxy)
    refine qN_ok hu hlu huu f _ _ (by omega) (by omega) h1' ?_ h2
    have e : 13 - f = (12 - f) + 1 := by omega
    have e2 : 13 - (f + 1) = 12 - f := by omega
    rw [e2] at h
    rw [e]
    have hm := hu.mulN (lo := ulo * x / 1099511627776) (hi := uhi * y / 1099511627776 + 1) h hlu hxy (Nat.div_mul_le_self _ _) (by omega) (by omega) (by omega)
    have ha := (rg_k (j := 12 - f) (by omega)).add hm (by show _ < 9007199254740992; omega) (by show _ < 9007199254740992; omega) (by decide)
    refine ha.mono ?_ ?_ <;> (generalize kN (12 - f) = q; generalize ulo * x / 1099511627776 = v; generalize uhi * y / 1099511627776 = w; omega)
/-- twice s times its sum, from the bounds of s -/
def core (a b : Nat) (K : Nat → Nat → Bool) : Bool :=
  Nat.ble a b && (Nat.blt b 2199023255552 && force (a * a / 1099511627776) fun ulo => force (b * b / 1099511627776 + 1) fun uhi =>
    qN ulo uhi (fun x y => force (2 * (a * x / 1099511627776)) fun X => force (2 * (b * y / 1099511627776 + 1)) fun Y => Nat.blt Y 549755813888 && K X Y) 13 0 0)
def lnM (s : Option Nat) : Option Nat := fop .mul .f64 (cls .f64 4611686018427387904) (fop .mul .f64 s (lnQ (fop .mul .f64 s s) 13))
theorem core_ok {s : Option Nat} {a b : Nat} {K : Nat → Nat → Bool} {g : Bool} (hs : (g = true ∧ Rg .f64 40 s (a : Int) b) ∨ (g = false ∧ Rg .f64 40 s (-(b : Int)) (-(a : Int)))) (h : core a b K = true) :
    ∃ X Y : Nat, X ≤ Y ∧ Y < 549755813888 ∧ K X Y = true ∧ ((g = true ∧ Rg .f64 40 (lnM s) (X : Int) Y) ∨ (g = false ∧ Rg .f64 40 (lnM s) (-(Y : Int)) (-(X : Int)))) := by
  unfold core at h
  rw [Bool.and_eq_true, Bool.and_eq_true, force_eq, force_eq] at h
  obtain ⟨h1, h2, h3⟩ := h
  have hab : a ≤ b := Nat.le_of_ble_eq_true h1
  have hb : b < 2199023255552 := Nat.le_of_ble_eq_true h2
  have hbb : b * b ≤ 4835703278458516698824704 := Nat.mul_le_mul (Nat.le_of_lt hb) (Nat.le_of_lt hb)
  have haa : a * a ≤ b * b := Nat.mul_le_mul hab hab
  have hu := Rg.sqN (c := s) (a := a) (b := b) (lo := a * a / 1099511627776) (hi := b * b / 1099511627776 + 1) (hs.imp And.right And.right) hab (Nat.div_mul_le_self _ _) (by omega) (by omega) (by omega)
  have hz0 : Rg .f64 40 (cls .f64 0) (0 : Int) 0 := rg_zero (0, 0) rfl
  have hz : Rg .f64 40 (lnQ (fop .mul .f64 s s) (13 - 13)) ((0 : Nat) : Int) ((0 : Nat) : Int) := hz0
  obtain ⟨x, y, hxy, hy, hq, hK⟩ := qN_ok hu (by omega) (by omega) 13 0 0 (Nat.le_refl _) (Nat.le_refl _) (by decide) hz h3
  rw [force_eq, force_eq, Bool.and_eq_true] at hK
  obtain ⟨hY4, hK⟩ := hK
  have hY4 := Nat.le_of_ble_eq_true hY4
  have hby : b * y ≤ 2475880078570760549798248448 := Nat.mul_le_mul (Nat.le_of_lt hb) (Nat.le_of_lt hy)
  have hax : a * x ≤ b * y := Nat.mul_le_mul hab hxy
  refine ⟨_, _, by omega, hY4, hK, ?_⟩
  have two := rg_two _ rfl
  rcases hs with ⟨hg, hs⟩ | ⟨hg, hs⟩
  · left
    have h4 := hs.mulN (lo := a * x / 1099511627776) (hi := b * y / 1099511627776 + 1) hq hab hxy (Nat.div_mul_le_self _ _) (by omega) (by omega) (by omega)
    exact ⟨hg, Rg.mulN (a := 2199023255552) (b := 2199023255552) two h4 (Nat.le_refl _) (by omega) (by omega) (by omega) (by omega) (by omega)⟩
  · right
    have h4 := hs.mulM (lo := a * x / 1099511627776) (hi := b * y / 1099511627776 + 1) hq hab hxy (Nat.div_mul_le_self _ _) (by omega) (by omega) (by omega)
    refine ⟨hg, ?_⟩
    have e : ((2 ^ 40 : Nat) : Int) = 1099511627776 := by decide
    have hvw : a * x / 1099511627776 ≤ b * y / 1099511627776 := Nat.div_le_div_right hax
    refine two.mul h4 ?_ ?_ ?_ ?_ ?_ ?_ ?_ ?_ (by show _ < 9007199254740992; omega) (by show _ < 9007199254740992; omega) (by decide) <;> rw [e] <;> (generalize a * x / 1099511627776 = v at hvw ⊢; generalize b * y / 1099511627776 = w at hvw ⊢; omega)
/-- a logarithm of the base 2, in 1024ths -/
def lg (c : Nat) : Nat := (c ^ 1024).log2
theorem log2_div {X k : Nat} (h : 2 ^ k ≤ X) : X.log2 = k + (X / 2 ^ k).log2 := by
  have hp := Nat.two_pow_pos k
  have hX : X ≠ 0 := by omega
  have hq : X / 2 ^ k ≠ 0 := by
    have := (Nat.one_le_div_iff hp).2 h
    omega
  apply Nat.le_antisymm
  · have h1 : X < 2 ^ (k + (X / 2 ^ k).log2 + 1) := by
      rw [Nat.add_assoc, Nat.pow_add, Nat.mul_comm]
      exact (Nat.div_lt_iff_lt_mul hp).1 (Nat.lt_log2_self)
    have := (Nat.log2_lt hX).2 h1
    omega
  · rw [Nat.le_log2 hX, Nat.pow_add, Nat.mul_comm]
    exact (Nat.le_div_iff_mul_le hp).1 (Nat.log2_self_le hq)
def lgP (d : Nat) : Nat := ((1024 + d) ^ 1024 / 2 ^ 10240).log2
theorem lg_P (d : Nat) : lg (1024 + d) = 10240 + lgP d := by
  unfold lg lgP
  refine log2_div ?_
  rw [show 10240 = 10 * 1024 by rfl, Nat.pow_mul]
  exact Nat.pow_le_pow_left (by omega) _
def lgM (c : Nat) : Nat := (c ^ 1024 / 2 ^ 9800).log2
theorem lgM_768 : 2 ^ 9800 ≤ 768 ^ 1024 := by decide +kernel
theorem lg_M {c : Nat} (h : 768 ≤ c) : lg c = 9800 + lgM c := by
  unfold lg lgM
  exact log2_div (Nat.le_trans lgM_768 (Nat.pow_le_pow_left h _))
def allN (f : Nat → Bool) : Nat → Bool
  | 0 => true
  | n + 1 => f n && allN f n
theorem allN_iff {f : Nat → Bool} : ∀ {n : Nat}, allN f n = true → ∀ i, i < n → f i = true
  | n + 1, h, i, hi => by
    simp only [allN, Bool.and_eq_true] at h
    rcases Nat.lt_or_eq_of_le (Nat.le_of_lt_succ hi) with h1 | h1
    · exact allN_iff h.2 i h1
    · rw [h1]; exact h.1
theorem lgM_le {c : Nat} (h : c ≤ 1024) : lgM c ≤ 440 := by
  unfold lgM
  have h1 : c ^ 1024 / 2 ^ 9800 < 2 ^ 441 := by
    rw [Nat.div_lt_iff_lt_mul (Nat.two_pow_pos _), ← Nat.pow_add]
    exact Nat.lt_of_le_of_lt (Nat.pow_le_pow_left h 1024) (by decide +kernel)
  rcases Nat.eq_zero_or_pos (c ^ 1024 / 2 ^ 9800) with h0 | h0
  · rw [h0]; decide
  · have := (Nat.log2_lt (by omega)).2 h1
    omega
/-- numbers from 1 + d/1024 -/
def cellP (d : Nat) : Bool :=
  force (d * 1099511627776 / (d + 2049)) fun a => force ((d + 1) * 1099511627776 / (d + 2048) + 1) fun b => core a b fun X Y =>
    Nat.ble (Y * 48897211671712768000 + 12089258196146291747061760) (1208925819614629174706176 * (143360 + 30103 * lgP d)) && Nat.ble (1208925819614629174706176 * (30103 * lgP (d + 1)) + 12089258196146291747061760) (X * 48897211671712768000 + 173311605499953238485877391360)
/-- numbers down from 1 - d/1024 -/
def cellM (d : Nat) : Bool :=
  force (d * 1099511627776 / (2048 - d)) fun a => force ((d + 1) * 1099511627776 / (2047 - d) + 1) fun b => core a b fun X Y =>
    Nat.ble (1208925819614629174706176 * (30103 * (440 - lgM (1023 - d))) + 12089258196146291747061760) (X * 48897211671712768000 + 173311605499953238485877391360) && Nat.ble (Y * 48897211671712768000 + 12089258196146291747061760) (1208925819614629174706176 * (30103 * (440 - lgM (1024 - d)) + 143360))
set_option maxRecDepth 100000 in
theorem cells_P : allN cellP 512 = true := by decide +kernel
set_option maxRecDepth 100000 in
theorem cells_M : allN cellM 256 = true := by decide +kernel
theorem cell_P {c : Option Nat} {d : Nat} (hd : d < 512) (h : Rg .f64 40 c ((1024 + d : Nat) * 1073741824 : Int) ((1025 + d : Nat) * 1073741824 : Int)) :
    ∃ X Y : Nat, X ≤ Y ∧ Y < 549755813888 ∧ Rg .f64 40 (lnM (lnS c)) (X : Int) Y ∧ Y * 48897211671712768000 + 12089258196146291747061760 ≤ 1208925819614629174706176 * (143360 + 30103 * lgP d) ∧ 1208925819614629174706176 * (30103 * lgP (d + 1)) + 12089258196146291747061760 ≤ X * 48897211671712768000 + 173311605499953238485877391360 := by
  have hc := allN_iff cells_P d hd
  unfold cellP at hc
  rw [force_eq, force_eq] at hc
  have one := rg_one _ rfl
  have h1 := h.sub one (by show _ < 9007199254740992; omega) (by show _ < 9007199254740992; omega) (by decide)
  have h2 := h.add one (by show _ < 9007199254740992; omega) (by show _ < 9007199254740992; omega) (by decide)
  obtain ⟨r, hr⟩ : ∃ r, r = d + 2048 := ⟨_, rfl⟩
  have hr2 : d + 2049 = r + 1 := by omega
  rw [hr2, ← hr] at hc
  have q1 : d * 1099511627776 / (r + 1) * (r + 1) ≤ d * 1099511627776 := Nat.div_mul_le_self _ _
  have q2 : (d + 1) * 1099511627776 < (d + 1) * 1099511627776 / r * r + r := Nat.lt_div_mul_add (by omega)
  have q3 : d * 1099511627776 / (r + 1) ≤ 1099511627776 := Nat.div_le_of_le_mul (by omega)
  have q4 : (d + 1) * 1099511627776 / r ≤ 1099511627776 := Nat.div_le_of_le_mul (by omega)
  obtain ⟨a, ha⟩ : ∃ a, a = d * 1099511627776 / (r + 1) := ⟨_, rfl⟩
  obtain ⟨b, hb⟩ : ∃ b, b = (d + 1) * 1099511627776 / r := ⟨_, rfl⟩
  rw [← ha, ← hb] at hc
  rw [← ha] at q1 q3
  rw [← hb] at q2 q4
  clear ha hb
  have e : ((2 ^ 40 : Nat) : Int) = 1099511627776 := by decide
  rw [Nat.mul_add] at q1
  have ca : (a : Int) * (r : Int) = ((a * r : Nat) : Int) := (Int.natCast_mul _ _).symm
  have cb : ((b + 1 : Nat) : Int) * (r : Int) = ((b * r + r : Nat) : Int) := by rw [← Int.natCast_mul, Nat.add_mul, Nat.one_mul]
  have z1 : ((1024 + d : Nat) : Int) * 1073741824 + 1099511627776 = (r : Int) * 1073741824 := by omega
  have z2 : ((1025 + d : Nat) : Int) * 1073741824 + 1099511627776 = ((r : Int) + 1) * 1073741824 := by omega
  have z3 : ((1024 + d : Nat) : Int) * 1073741824 - 1099511627776 = (d : Int) * 1073741824 := by omega
  have z4 : ((1025 + d : Nat) : Int) * 1073741824 - 1099511627776 = ((d : Int) + 1) * 1073741824 := by omega
  rw [z1, z2] at h2
  rw [z3, z4] at h1
  have hs : Rg .f64 40 (lnS c) (a : Int) ((b + 1 : Nat) : Int) := by
    refine h1.quo h2 (by omega) ?_ ?_ ?_ ?_ (by show _ < 9007199254740992; omega) (by show _ < 9007199254740992; omega) (by decide) <;> rw [e]
    · rw [← Int.mul_assoc, ca]
      omega
    · rw [← Int.mul_assoc, Int.mul_add, ca]
      omega
    · rw [← Int.mul_assoc, cb]
      omega
    · rw [← Int.mul_assoc, Int.mul_add, cb]
      omega
  obtain ⟨X, Y, hXY, hY, hK, hM⟩ := core_ok (g := true) (.inl ⟨rfl, hs⟩) hc
  rw [Bool.and_eq_true] at hK
  rcases hM with ⟨_, hM⟩ | ⟨hg, _⟩
  · exact ⟨X, Y, hXY, hY, hM, Nat.le_of_ble_eq_true hK.1, Nat.le_of_ble_eq_true hK.2⟩
  · cases hg
theorem cell_M {c : Option Nat} {d : Nat} (hd : d < 256) (h : Rg .f64 40 c ((1023 - d : Nat) * 1073741824 : Int) ((1024 - d : Nat) * 1073741824 : Int)) :
    ∃ X Y : Nat, X ≤ Y ∧ Y < 549755813888 ∧ Rg .f64 40 (lnM (lnS c)) (-(Y : Int)) (-(X : Int)) ∧ 1208925819614629174706176 * (30103 * (440 - lgM (1023 - d))) + 12089258196146291747061760 ≤ X * 48897211671712768000 + 173311605499953238485877391360 ∧ Y * 48897211671712768000 + 12089258196146291747061760 ≤ 1208925819614629174706176 * (30103 * (440 - lgM (1024 - d)) + 143360) := by
  have hc := allN_iff cells_M d hd
  unfold cellM at hc
  rw [force_eq, force_eq] at hc
  have one := rg_one _ rfl
  have h1 := h.sub one (by show _ < 9007199254740992; omega) (by show _ < 9007199254740992; omega) (by decide)
  have h2 := h.add one (by show _ < 9007199254740992; omega) (by show _ < 9007199254740992; omega) (by decide)
  obtain ⟨r, hr⟩ : ∃ r, r = 2047 - d := ⟨_, rfl⟩
  have hr2 : 2048 - d = r + 1 := by omega
  rw [hr2, ← hr] at hc
  have q1 : d * 1099511627776 / (r + 1) * (r + 1) ≤ d * 1099511627776 := Nat.div_mul_le_self _ _
  have q2 : (d + 1) * 1099511627776 < (d + 1) * 1099511627776 / r * r + r := Nat.lt_div_mul_add (by omega)
  have q3 : d * 1099511627776 / (r + 1) ≤ 1099511627776 := Nat.div_le_of_le_mul (by omega)
  have q4 : (d + 1) * 1099511627776 / r ≤ 1099511627776 := Nat.div_le_of_le_mul (by omega)
  obtain ⟨a, ha⟩ : ∃ a, a = d * 1099511627776 / (r + 1) := ⟨_, rfl⟩
  obtain ⟨b, hb⟩ : ∃ b, b = (d + 1) * 1099511627776 / r := ⟨_, rfl⟩
  rw [← ha, ← hb] at hc
  rw [← ha] at q1 q3
  rw [← hb] at q2 q4
  clear ha hb
  have e : ((2 ^ 40 : Nat) : Int) = 1099511627776 := by decide
  rw [Nat.mul_add] at q1
  have ca : (a : Int) * (r : Int) = ((a * r : Nat) : Int) := (Int.natCast_mul _ _).symm
  have cb : (b : Int) * (r : Int) = ((b * r : Nat) : Int) := (Int.natCast_mul _ _).symm
  have z1 : ((1023 - d : Nat) : Int) * 1073741824 + 1099511627776 = (r : Int) * 1073741824 := by omega
  have z2 : ((1024 - d : Nat) : Int) * 1073741824 + 1099511627776 = ((r : Int) + 1) * 1073741824 := by omega
  have z3 : ((1023 - d : Nat) : Int) * 1073741824 - 1099511627776 = -((d : Int) + 1) * 1073741824 := by omega
  have z4 : ((1024 - d : Nat) : Int) * 1073741824 - 1099511627776 = -(d : Int) * 1073741824 := by omega
  rw [z1, z2] at h2
  rw [z3, z4] at h1
  have hs : Rg .f64 40 (lnS c) (-((b + 1 : Nat) : Int)) (-(a : Int)) := by
    refine h1.quo h2 (by omega) ?_ ?_ ?_ ?_ (by show _ < 9007199254740992; omega) (by show _ < 9007199254740992; omega) (by decide) <;> rw [e]
    · rw [← Int.mul_assoc, Int.neg_mul, Int.natCast_add, Int.add_mul, cb]
      omega
    · rw [← Int.mul_assoc, Int.neg_mul, Int.natCast_add, Int.add_mul, Int.mul_add, cb]
      omega
    · rw [← Int.mul_assoc, Int.neg_mul a, ca]
      omega
    · rw [← Int.mul_assoc, Int.neg_mul a, Int.mul_add, ca]
      omega
  obtain ⟨X, Y, hXY, hY, hK, hM⟩ := core_ok (g := false) (.inr ⟨rfl, hs⟩) hc
  rw [Bool.and_eq_true] at hK
  rcases hM with ⟨hg, _⟩ | ⟨_, hM⟩
  · cases hg
  · exact ⟨X, Y, hXY, hY, hM, Nat.le_of_ble_eq_true hK.1, Nat.le_of_ble_eq_true hK.2⟩
/-- the tenths from the logarithm of the mantissa -/
theorem fin_step {M : Option Nat} {p q n : Int} (hM : Rg .f64 40 M p q) (hp : -549755813888 ≤ p) (hpq : p ≤ q) (hq : q ≤ 549755813888) (hn1 : -6 ≤ n) (hn2 : n ≤ 10) :
    ∃ v k, fop .add .f64 (fop .mul .f64 (fop .add .f64 M (fop .mul .f64 (cls .f64 (floatOfInt .f64 n)) (cls .f64 4604418534313441775))) (cls .f64 4631308968768463603)) (cls .f64 4602678819172646912) = some v ∧ floatToIntVal .f64 (flr v) .i64 = some k ∧ k * 1099511627776 ≤ (q + n * 762123384785 + 10) * 47751183273157 / 1099511627776 + 549755813897 ∧ (p + n * 762123384785 - 6) * 47751183273157 / 1099511627776 + 549755813880 < (k + 1) * 1099511627776 := by
  have hv := (V.ofInt (k := .f64) (n := n) (by show _ < 9007199254740992; omega)).1
  have hN := hv.rgO _ rfl
  rw [← hv.cls] at hN
  have e : ((2 ^ 40 : Nat) : Int) = 1099511627776 := by decide
  have hL : Rg .f64 40 (fop .mul .f64 (cls .f64 (floatOfInt .f64 n)) (cls .f64 4604418534313441775)) (n * 762123384785 - 6) (n * 762123384785 + 10) := by
    refine hN.mul (rg_ln2 _ rfl) ?_ ?_ ?_ ?_ ?_ ?_ ?_ ?_ (by show _ < 9007199254740992; omega) (by show _ < 9007199254740992; omega) (by decide) <;> rw [e] <;> omega
  have hC := hM.add hL (by show _ < 9007199254740992; omega) (by show _ < 9007199254740992; omega) (by decide)
  have hD : Rg .f64 40 (fop .mul .f64 (fop .add .f64 M (fop .mul .f64 (cls .f64 (floatOfInt .f64 n)) (cls .f64 4604418534313441775))) (cls .f64 4631308968768463603)) ((p + n * 762123384785 - 6) * 47751183273157 / 1099511627776 - 8) ((q + n * 762123384785 + 10) * 47751183273157 / 1099511627776 + 9) := by
    refine hC.mul (rg_dec _ rfl) ?_ ?_ ?_ ?_ ?_ ?_ ?_ ?_ (by show _ < 9007199254740992; omega) (by show _ < 9007199254740992; omega) (by decide) <;> rw [e] <;> omega
  have hE := hD.add (rg_half _ rfl) (by show _ < 9007199254740992; omega) (by show _ < 9007199254740992; omega) (by decide)
  have hE2 := hE
  obtain ⟨v, hv, _⟩ := hE
  rw [hv] at hE2
  obtain ⟨k, h1, h2, h3⟩ := flr_rg hE2 (by omega) (by omega)
  exact ⟨v, k, hv, h1, by omega, by omega⟩
theorem ten_cell {Y c : Nat} {n : Int} (h1 : 768 ≤ c) (h2 : c < 1536) (h : Rg .f64 40 (cls .f64 Y) ((c : Int) * 1073741824) (((c + 1 : Nat) : Int) * 1073741824)) (hn1 : -6 ≤ n) (hn2 : n ≤ 10) :
    ∃ v k, fop .add .f64 (fop .mul .f64 (lnC Y n) (cls .f64 4631308968768463603)) (cls .f64 4602678819172646912) = some v ∧ floatToIntVal .f64 (flr v) .i64 = some k ∧ k * 1024000 ≤ 655360 + 30103 * ((lg c : Int) + 1024 * n - 10240) ∧ -655360 + 30103 * ((lg (c + 1) : Int) + 1024 * n - 10240) ≤ k * 1024000 := by
  rcases Nat.lt_or_ge c 1024 with hc | hc
  · obtain ⟨d, hd⟩ : ∃ d, c = 1023 - d ∧ d < 256 := ⟨1023 - c, by omega⟩
    have e1 : c + 1 = 1024 - d := by omega
    rw [e1, hd.1] at h
    obtain ⟨X, Y', hXY, hY, hM, k1, k2⟩ := cell_M hd.2 h
    obtain ⟨v, k, w1, w2, w3, w4⟩ := fin_step hM (by omega) (by omega) (by omega) hn1 hn2
    refine ⟨v, k, w1, w2, ?_, ?_⟩
    · have := lgM_le (c := 1023 - d) (by omega)
      rw [hd.1, lg_M (by omega)]
      omega
    · have := lgM_le (c := 1024 - d) (by omega)
      rw [e1, lg_M (by omega)]
      omega
  · obtain ⟨d, hd⟩ : ∃ d, c = 1024 + d ∧ d < 512 := ⟨c - 1024, by omega⟩
    have e1 : c + 1 = 1025 + d := by omega
    rw [e1, hd.1] at h
    obtain ⟨X, Y', hXY, hY, hM, k1, k2⟩ := cell_P hd.2 h
    obtain ⟨v, k, w1, w2, w3, w4⟩ := fin_step hM (by omega) (by omega) (by omega) hn1 hn2
    refine ⟨v, k, w1, w2, ?_, ?_⟩
    · rw [hd.1, lg_P]
      omega
    · rw [e1, show 1025 + d = 1024 + (d + 1) by omega, lg_P]
      omega
end Flt
