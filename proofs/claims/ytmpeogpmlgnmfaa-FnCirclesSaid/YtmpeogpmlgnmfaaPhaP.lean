/- The point of the unit circle at some turns: the pure part, and the walks. -/
import Derived.Test.YtmpeogpmlgnmfaaSinT
import Derived.Test.YtmpeogpmlgnmfaaRoot
namespace Flt
open Go Ieee
set_option exponentiation.threshold 3000
/-- a number below 2^52 has a whole part, and a number less than one beside it -/
theorem whole_some {b : Nat} (hb : rung FloatKind.f64.format b < 4841369599423283200) :
    ∃ n, floatToIntVal .f64 b .i64 = some n ∧ Bd .f64 4607182418800017408 (fop .sub .f64 (Flt.cls .f64 b) (Flt.cls .f64 (floatOfInt .f64 n))) ∧ (fop .sub .f64 (Flt.cls .f64 b) (Flt.cls .f64 (floatOfInt .f64 n))).isSome = true := by
  obtain ⟨n, hn, hbd⟩ := whole_part hb
  refine ⟨n, hn, hbd, ?_⟩
  have hfin : rung FloatKind.f64.format b < FloatKind.f64.format.infRung := Nat.lt_trans hb (by decide +kernel)
  obtain ⟨t, h1, h2, h3⟩ := toInt_fin (lp_le .f64) hfin
  have eU : (-FloatKind.f64.format.leastPlace).toNat = 1074 := by decide
  rw [eU] at h2
  have ht : t < 4503599627370496 := by
    have : rval FloatKind.f64.format (rung FloatKind.f64.format b) < rval FloatKind.f64.format 4841369599423283200 := rval_lt (by decide +kernel) hb
    have e : rval FloatKind.f64.format 4841369599423283200 = 4503599627370496 * 2 ^ 1074 := by decide +kernel
    rw [e] at this
    exact Nat.lt_of_mul_lt_mul_right (Nat.lt_of_le_of_lt h2 this)
  have habs : n.natAbs = t := by
    have h1' : (FloatKind.f64.decode b).toInt .zero = some (signed (sgn FloatKind.f64.format b) t 0) := h1
    unfold floatToIntVal at hn
    rw [h1'] at hn
    simp only at hn
    split at hn
    · cases hn
      rw [signed_eq]; split <;> simp
    · cases hn
  obtain ⟨f1, _⟩ := floatOfInt_fin n (by omega)
  rw [show Flt.cls .f64 b = some b by unfold Flt.cls; rw [if_pos (Nat.le_of_lt hfin)], show Flt.cls .f64 (floatOfInt .f64 n) = some (floatOfInt .f64 n) by unfold Flt.cls; rw [if_pos (Nat.le_of_lt f1)]]
  show (FloatKind.f64.format.sub _ _).isSome = true
  rw [sub_fin hfin f1]; rfl
end Flt
namespace Go.Proofs.Ytmpeogpmlgnmfaa
open Go.RowKit Flt
set_option exponentiation.threshold 3000

/-- the sine of a small word -/
def sinW (v : Nat) : Option Nat := sinF (fr1 (fr0 v ((Go.floatToIntVal .f64 v .i64).getD 0)))
theorem sinW_of {v : Nat} (h : rung FloatKind.f64.format v < 4841369599423283200) : ∃ n, Go.floatToIntVal .f64 v .i64 = some n ∧ sinW v = sinF (fr1 (fr0 v n)) ∧ Bd .f64 (pw 118) (sinW v) := by
  obtain ⟨n, hn, hb⟩ := whole_part h
  have e : sinW v = sinF (fr1 (fr0 v n)) := by unfold sinW; rw [hn]; rfl
  exact ⟨n, hn, e, by rw [e]; exact bd_sinF (bd_fr1 hb)⟩
theorem sinI (v : Nat) (w : World) (h : rung FloatKind.f64.format v < 4841369599423283200) :
    Calls Try.prog 39 #[.float .f64 v] w fun e w' => ∃ r, e = .returned (.float .f64 r) ∧ cls .f64 r = sinW v ∧ Drew w w' := by
  obtain ⟨n, hn, e, _⟩ := sinW_of h
  refine (sine_any v n w hn).mono ?_
  rintro e' w' ⟨r, rfl, hr, _, hd⟩
  exact ⟨r, rfl, hr.trans e.symm, hd⟩
/-- at least a quarter -/
def qtr (c : Option Nat) : Bool := ford .f64 c (cls .f64 4598175219545276416) == some .gt || ford .f64 c (cls .f64 4598175219545276416) == some .eq
/-- what is left after some quarters -/
def phF (c : Option Nat) : Nat → Option Nat
  | 0 => c
  | j + 1 => fop .sub .f64 (phF c j) (cls .f64 4598175219545276416)
def Stops (c : Option Nat) (j : Nat) : Prop := (∀ i < j, qtr (phF c i) = true) ∧ qtr (phF c j) = false
theorem Stops.unique {c : Option Nat} {i j : Nat} (h : Stops c i) (k : Stops c j) : i = j := by
  rcases Nat.lt_trichotomy i j with hlt | heq | hlt
  · have := k.1 i hlt; rw [h.2] at this; cases this
  · exact heq
  · have := h.1 j hlt; rw [k.2] at this; cases this
/-- some quarters, as a word -/
def qW (g : Nat) : Nat := rungOf FloatKind.f64.format g (-2)
theorem qW_next : ∀ g : Nat, g < 9 → 1 ≤ g → rungOf FloatKind.f64.format (rval FloatKind.f64.format (qW g) - rval FloatKind.f64.format 4598175219545276416) FloatKind.f64.format.leastPlace ≤ qW (g - 1) := by decide +kernel
theorem qW_fin : ∀ g : Nat, g < 9 → qW g < FloatKind.f64.format.infRung := by decide +kernel
theorem qW_small : ∀ g : Nat, g < 9 → qW g ≤ pw 1 := by decide +kernel
theorem qtr_pos {v : Nat} (h : qtr (cls .f64 v) = true) (hv : rung FloatKind.f64.format v ≤ FloatKind.f64.format.infRung) : sgn FloatKind.f64.format v = false ∧ 4598175219545276416 ≤ rung FloatKind.f64.format v := by
  unfold qtr at h
  rw [cls_of_le hv, cls_of_le (k := .f64) (b := 4598175219545276416) (by decide +kernel), ford_some hv (by decide +kernel)] at h
  have s2 : srung FloatKind.f64.format 4598175219545276416 = 4598175219545276416 := by decide +kernel
  rw [s2] at h
  have s1 : srung FloatKind.f64.format v = if sgn FloatKind.f64.format v then -(rung FloatKind.f64.format v : Int) else (rung FloatKind.f64.format v : Int) := rfl
  have hle : (4598175219545276416 : Int) ≤ srung FloatKind.f64.format v := by
    rcases Int.lt_trichotomy (srung FloatKind.f64.format v) 4598175219545276416 with hl | hl | hl
    · rw [Int.compare_eq_lt.2 hl] at h; simp at h
    · omega
    · omega
  rw [s1] at hle
  cases hs : sgn FloatKind.f64.format v
  · rw [hs] at hle
    have hle' : (4598175219545276416 : Int) ≤ (rung FloatKind.f64.format v : Int) := hle
    exact ⟨rfl, by omega⟩
  · rw [hs] at hle
    have hle' : (4598175219545276416 : Int) ≤ -(rung FloatKind.f64.format v : Int) := hle
    omega
/-- a quarter less -/
theorem quarter_less {v g : Nat} (hg : g < 9) (h : qtr (cls .f64 v) = true) (hv : rung FloatKind.f64.format v ≤ qW g) : 1 ≤ g ∧ ∃ u, fop .sub .f64 (cls .f64 v) (cls .f64 4598175219545276416) = some u ∧ rung FloatKind.f64.format u ≤ qW (g - 1) := by
  have hfin := Nat.lt_of_le_of_lt hv (qW_fin g hg)
  obtain ⟨h1, h2⟩ := qtr_pos h (Nat.le_of_lt hfin)
  have hg1 : 1 ≤ g := by
    rcases Nat.eq_zero_or_pos g with h0 | h0
    · subst h0
      have : qW 0 = 0 := by decide +kernel
      omega
    · exact h0
  refine ⟨hg1, ?_⟩
  rw [cls_of_le (Nat.le_of_lt hfin), cls_of_le (k := .f64) (b := 4598175219545276416) (by decide +kernel)]
  refine ⟨_, sub_fin hfin (by decide +kernel), ?_⟩
  rw [word_rung _ (Nat.lt_of_le_of_lt (rungOf_le_inf _ _) inf_lt_sw)]
  refine Nat.le_trans (rungOf_mono ?_ _) (qW_next g hg hg1)
  have s1 : sval FloatKind.f64.format v = (rval FloatKind.f64.format (rung FloatKind.f64.format v) : Int) := by unfold sval; rw [h1]; rfl
  have s2 : sval FloatKind.f64.format 4598175219545276416 = (rval FloatKind.f64.format 4598175219545276416 : Int) := by decide +kernel
  rw [s1, s2]
  have g1 := rval_le (f := FloatKind.f64.format) (Nat.le_of_lt (qW_fin g hg)) hv
  have g2 := rval_le (f := FloatKind.f64.format) (Nat.le_of_lt hfin) h2
  generalize rval FloatKind.f64.format (rung FloatKind.f64.format v) = x at *
  generalize rval FloatKind.f64.format 4598175219545276416 = y at *
  omega
/-- the complement to a quarter -/
theorem quarter_rest {v : Nat} (hv : rung FloatKind.f64.format v ≤ pw 1) : ∃ u, fop .sub .f64 (cls .f64 4598175219545276416) (cls .f64 v) = some u ∧ rung FloatKind.f64.format u < 4841369599423283200 := by
  have hfin := Nat.lt_of_le_of_lt hv (show pw 1 < FloatKind.f64.format.infRung by decide +kernel)
  have hb : Bd .f64 (pw 2) (fop .sub .f64 (cls .f64 4598175219545276416) (cls .f64 v)) := bd_sub (C := 4598175219545276416) (Bd.cls (by decide +kernel)) (Bd.cls hv) (by decide +kernel) (by decide +kernel) (by decide +kernel)
  have e : (fop .sub .f64 (cls .f64 4598175219545276416) (cls .f64 v)).isSome = true := by
    rw [cls_of_le (Nat.le_of_lt hfin), cls_of_le (k := .f64) (b := 4598175219545276416) (by decide +kernel)]
    show (FloatKind.f64.format.sub _ _).isSome = true
    rw [sub_fin (by decide +kernel) hfin]; rfl
  obtain ⟨u, hu⟩ := Option.isSome_iff_exists.1 e
  exact ⟨u, hu, Nat.lt_of_le_of_lt (hb u hu) (by decide +kernel)⟩
/-- the parts, from the two sines -/
def phRe (j : Nat) (c s : Option Nat) : Option Nat := fconv .f64 .f32 (if j = 1 then fop .sub .f64 (cls .f64 0) s else if j = 2 then fop .sub .f64 (cls .f64 0) c else if j = 3 then s else c)
def phIm (j : Nat) (c s : Option Nat) : Option Nat := fconv .f64 .f32 (if j = 1 then c else if j = 2 then fop .sub .f64 (cls .f64 0) s else if j = 3 then fop .sub .f64 (cls .f64 0) c else s)
def phC (c : Option Nat) (j : Nat) : Option Nat := sinW ((fop .sub .f64 (cls .f64 4598175219545276416) (phF c j)).getD 0)
def phS (c : Option Nat) (j : Nat) : Option Nat := sinW ((phF c j).getD 0)
/-- the point at some turns -/
def Pha (b : Nat) (re im : Nat) : Prop :=
  if finC .f64 (cls .f64 b) = true then
    if 4841369599423283200 ≤ rung FloatKind.f64.format b then cls .f32 re = some 1065353216 ∧ cls .f32 im = some 0
    else ∃ j, Stops (fr1 (fr0 b ((Go.floatToIntVal .f64 b .i64).getD 0))) j ∧ cls .f32 re = phRe j (phC (fr1 (fr0 b ((Go.floatToIntVal .f64 b .i64).getD 0))) j) (phS (fr1 (fr0 b ((Go.floatToIntVal .f64 b .i64).getD 0))) j) ∧ cls .f32 im = phIm j (phC (fr1 (fr0 b ((Go.floatToIntVal .f64 b .i64).getD 0))) j) (phS (fr1 (fr0 b ((Go.floatToIntVal .f64 b .i64).getD 0))) j)
  else cls .f32 re = none ∧ cls .f32 im = none
theorem Pha.unique {b r i r' i' : Nat} (h : Pha b r i) (k : Pha b r' i') : cls .f32 r = cls .f32 r' ∧ cls .f32 i = cls .f32 i' := by
  unfold Pha at *
  split at h
  · rename_i hf
    rw [if_pos hf] at k
    split at h
    · rename_i hg
      rw [if_pos hg] at k
      exact ⟨h.1.trans k.1.symm, h.2.trans k.2.symm⟩
    · rename_i hg
      rw [if_neg hg] at k
      obtain ⟨j, s, h1, h2⟩ := h
      obtain ⟨j', s', k1, k2⟩ := k
      obtain rfl := s.unique s'
      exact ⟨h1.trans k1.symm, h2.trans k2.symm⟩
  · rename_i hf
    rw [if_neg hf] at k
    exact ⟨h.1.trans k.1.symm, h.2.trans k.2.symm⟩
theorem bd_zero_less {c : Option Nat} (h : Bd .f64 (pw 118) c) : Bd .f64 (pw 119) (fop .sub .f64 (cls .f64 0) c) := bd_sub (C := 0) (Bd.cls (by decide +kernel)) h (by decide +kernel) (by decide +kernel) (by decide +kernel)
theorem noOver_119 {b : Nat} (h : Bd .f64 (pw 119) (cls .f64 b)) : NoOver .f64 .f32 b := noOver_bd h (by decide +kernel) (by decide +kernel)

theorem fr_small {b : Nat} {n : Int} (hb : Bd .f64 4607182418800017408 (fop .sub .f64 (cls .f64 b) (cls .f64 (floatOfInt .f64 n)))) (hs : (fop .sub .f64 (cls .f64 b) (cls .f64 (floatOfInt .f64 n))).isSome = true) (r : Nat) (hr : cls .f64 r = fr1 (fr0 b n)) : rung FloatKind.f64.format r ≤ qW 8 := by
  have h1 : Bd .f64 (pw 1) (fr1 (fr0 b n)) := bd_fr1 hb
  have h2 : (fr1 (fr0 b n)).isSome = true := by
    unfold fr1
    split
    · obtain ⟨v, hv⟩ := Option.isSome_iff_exists.1 hs
      have hv' : fr0 b n = some v := hv
      have hl := hb v hv
      rw [hv', cls_of_le (k := .f64) (b := 4607182418800017408) (by decide +kernel)]
      show (FloatKind.f64.format.add _ _).isSome = true
      rw [add_fin (Nat.lt_of_le_of_lt hl (by decide +kernel)) (by decide +kernel)]; rfl
    · exact hs
  obtain ⟨v, hv⟩ := Option.isSome_iff_exists.1 h2
  rw [hv] at hr
  obtain ⟨rfl, _⟩ := cls_some hr
  exact Nat.le_trans (h1 _ hv) (by decide +kernel)
theorem isFinite64_any (b : Nat) (w : World) :
    Calls Try.prog 35 #[.float .f64 b] w fun e w' => ∃ n, e = .returned (.bool (ford .f64 (fop .sub .f64 (cls .f64 b) (cls .f64 b)) (cls .f64 0) == some .eq)) ∧ w' = w.drewN n := by
  go_enter Try.func35, Try.ntmps35
  go_wp2_with (first | (refine wpList_fop rfl .sub _ _ _ _ rfl rfl .f64 _ _ rfl rfl ?_; intro τ n))
  go_ret
  exact ⟨_, rfl, rfl⟩
end Go.Proofs.Ytmpeogpmlgnmfaa
