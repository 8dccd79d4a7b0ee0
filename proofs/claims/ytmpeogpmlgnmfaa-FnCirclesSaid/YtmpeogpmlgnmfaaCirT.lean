/- The tenths that FnCircles asks for. -/
import Derived.Test.YtmpeogpmlgnmfaaRgU
import Derived.Test.YtmpeogpmlgnmfaaCirW
namespace Go.Proofs.Ytmpeogpmlgnmfaa
open Go.RowKit Flt
set_option exponentiation.threshold 20000
theorem V.rg {k : FloatKind} {b : Nat} {n : Int} (g : Nat) (h : V k b n) : Rg k g (cls k b) (n * ((2 ^ g : Nat) : Int)) (n * ((2 ^ g : Nat) : Int)) := by
  rw [h.cls]
  refine ⟨b, rfl, h.1, h.2.2, ?_⟩
  rw [h.2.1]
  have : n * ((2 ^ g : Nat) : Int) * ((2 ^ U k : Nat) : Int) = n * ((2 ^ U k : Nat) : Int) * ((2 ^ g : Nat) : Int) := Int.mul_right_comm _ _ _
  rw [this]
  exact ⟨Int.le_refl _, Int.le_refl _⟩
theorem eight_word : Go.floatOfInt .f32 8 = 1090519040 := by decide +kernel
/-- eighths -/
theorem cir_eighth {i : Nat} (hi : i < 200) : ∃ x, fop .quo .f32 (cls .f32 (Go.floatOfInt .f32 (1 + (i : Int)))) (cls .f32 1090519040) = some x ∧ Rg .f32 6 (some x) ((8 * (i + 1) : Nat) : Int) ((8 * (i + 1) : Nat) : Int) ∧ x < 4294967296 := by
  have h1 := V.rg 6 (V.ofInt (k := .f32) (n := 1 + (i : Int)) (by show _ < 16777216; omega)).1
  have h2 := V.rg 6 (V.ofInt (k := .f32) (n := 8) (by decide)).1
  rw [eight_word] at h2
  have e : ((2 ^ 6 : Nat) : Int) = 64 := by decide
  rw [e] at h1 h2
  have h3 : Rg .f32 6 (fop .quo .f32 (cls .f32 (Go.floatOfInt .f32 (1 + (i : Int)))) (cls .f32 1090519040)) ((8 * (i + 1) : Nat) : Int) ((8 * (i + 1) : Nat) : Int) := by
    refine h1.quo h2 (by decide) ?_ ?_ ?_ ?_ (by show _ < 16777216; omega) (by show _ < 16777216; omega) (by decide) <;> rw [e] <;> omega
  have h4 := h3
  obtain ⟨x, hx, hf, hw, _⟩ := h3
  rw [hx] at h4
  exact ⟨x, hx, h4, hw⟩
theorem cir_prod {x y i j : Nat} (hx : Rg .f32 6 (some x) ((8 * (i + 1) : Nat) : Int) ((8 * (i + 1) : Nat) : Int)) (hy : Rg .f32 6 (some y) ((8 * (j + 1) : Nat) : Int) ((8 * (j + 1) : Nat) : Int)) (hi : i < 200) (hj : j < 200) :
    ∃ z, fop .mul .f32 (cls .f32 x) (cls .f32 y) = some z ∧ Rg .f32 6 (some z) (((i + 1) * (j + 1) : Nat) : Int) (((i + 1) * (j + 1) : Nat) : Int) ∧ z < 4294967296 := by
  have hm : (i + 1) * (j + 1) ≤ 200 * 200 := Nat.mul_le_mul (by omega) (by omega)
  have e : ((2 ^ 6 : Nat) : Int) = 64 := by decide
  have e2 : ((8 * (i + 1) : Nat) : Int) * ((8 * (j + 1) : Nat) : Int) = (((i + 1) * (j + 1) : Nat) : Int) * 64 := by
    rw [← Int.natCast_mul, Nat.mul_mul_mul_comm, Nat.mul_comm, Int.natCast_mul]
    rfl
  have h3 : Rg .f32 6 (fop .mul .f32 (cls .f32 x) (cls .f32 y)) (((i + 1) * (j + 1) : Nat) : Int) (((i + 1) * (j + 1) : Nat) : Int) := by
    refine hx.cls.1.mul hy.cls.1 ?_ ?_ ?_ ?_ ?_ ?_ ?_ ?_ (by show _ < 16777216; omega) (by show _ < 16777216; omega) (by decide) <;> rw [e, e2] <;> exact Int.le_refl _
  have h4 := h3
  obtain ⟨z, hz, hf, hw, _⟩ := h3
  rw [hz] at h4
  exact ⟨z, hz, h4, hw⟩
theorem ten_small {b N : Nat} (h : Rg .f32 6 (some b) (N : Int) (N : Int)) (hN : 0 < N) (hN2 : N < 65536) : -1000 ≤ tenN b ∧ tenN b ≤ 1000 := by
  obtain ⟨_, h1, h2⟩ := ten_sixty h hN hN2
  have h3 : lg N ≤ lg (1 * 2 ^ 16) := lg_mono (by omega)
  rw [lg_pow 16 (by decide), show lg 1 = 0 by decide +kernel] at h3
  omega
/-- what the law asks of three numbers -/
def TensE (x y z : Nat) : Prop := tenO x = true ∧ tenO y = true ∧ tenO z = true ∧ tenN x + tenN y - tenN z ≤ 1 ∧ tenN z - tenN x - tenN y ≤ 1 ∧ -1000 ≤ tenN x ∧ tenN x ≤ 1000 ∧ -1000 ≤ tenN y ∧ tenN y ≤ 1000 ∧ -1000 ≤ tenN z ∧ tenN z ≤ 1000
theorem cir_tens {x y z i j : Nat} (hx : Rg .f32 6 (some x) ((8 * (i + 1) : Nat) : Int) ((8 * (i + 1) : Nat) : Int)) (hy : Rg .f32 6 (some y) ((8 * (j + 1) : Nat) : Int) ((8 * (j + 1) : Nat) : Int)) (hz : Rg .f32 6 (some z) (((i + 1) * (j + 1) : Nat) : Int) (((i + 1) * (j + 1) : Nat) : Int)) (hi : i < 200) (hj : j < 200) : TensE x y z := by
  have hm : (i + 1) * (j + 1) ≤ 200 * 200 := Nat.mul_le_mul (by omega) (by omega)
  have hp := Nat.mul_pos (show 0 < i + 1 by omega) (show 0 < j + 1 by omega)
  obtain ⟨a, b, c, d, e⟩ := tens_near hx hy hz (by omega) (by omega) (by omega) (by omega)
  have f := ten_small hx (by omega) (by omega)
  have g := ten_small hy (by omega) (by omega)
  have k := ten_small hz (by omega) (by omega)
  exact ⟨a, b, c, d, e, f.1, f.2, g.1, g.2, k.1, k.2⟩
set_option maxRecDepth 100000 in
theorem ten_one : tenO 1065353216 = true ∧ tenN 1065353216 = 0 := by decide +kernel
theorem same_unit : sameB (cls .f32 1048576000) (cls .f32 0) = false := by decide +kernel
end Go.Proofs.Ytmpeogpmlgnmfaa
