/- Plain laws of decimal digits: no program in sight. -/
import Derived.Test.YtmpeogpmlgnmfaaDoorFlt
import Derived.Lib.ItoaNum
namespace Dec
open Go.Lib

theorem digits_small {u : Nat} (h : u < 10) : decDigits u = [UInt8.ofNat (48 + u % 10)] := by
  unfold decDigits; rw [dif_pos h, show u % 10 = u by omega]
theorem digits_more {u : Nat} (h : ¬ u < 10) : decDigits u = decDigits (u / 10) ++ [UInt8.ofNat (48 + u % 10)] := by
  conv => lhs; unfold decDigits
  rw [dif_neg h]
/-- what is left, and the digits that are told -/
def DInv (u v : Nat) (l : List UInt8) : Prop :=
  v * 10 ^ l.length ≤ u ∧ l.length ≤ 19 ∧ ((l = [] ∧ v = u) ∨ (l ≠ [] ∧ ((v = 0 ∧ l = decDigits u) ∨ (0 < v ∧ decDigits u = decDigits v ++ l))))
theorem DInv.start (u : Nat) : DInv u u [] := ⟨by simp, by simp, .inl ⟨rfl, rfl⟩⟩
theorem DInv.few {u v : Nat} {l : List UInt8} (h : DInv u v l) (hu : u ≤ 9223372036854775808) (hg : l = [] ∨ v ≠ 0) : l.length ≤ 18 := by
  rcases hg with rfl | hv
  · simp
  · rcases Nat.lt_or_ge l.length 19 with h1 | h1
    · omega
    · have h2 : 10 ^ 19 ≤ 10 ^ l.length := Nat.pow_le_pow_right (by decide) h1
      have h3 : 1 * 10 ^ l.length ≤ v * 10 ^ l.length := Nat.mul_le_mul_right _ (by omega)
      have h4 := h.1
      have h5 : (10 : Nat) ^ 19 = 10000000000000000000 := by decide
      omega
theorem DInv.step {u v : Nat} {l : List UInt8} (h : DInv u v l) (hu : u ≤ 9223372036854775808) (hg : l = [] ∨ v ≠ 0) : DInv u (v / 10) (UInt8.ofNat (48 + v % 10) :: l) := by
  have hf := h.few hu hg
  obtain ⟨h1, h2, h3⟩ := h
  refine ⟨?_, by simp; omega, .inr ⟨by simp, ?_⟩⟩
  · have e : v / 10 * 10 ^ (UInt8.ofNat (48 + v % 10) :: l).length = v / 10 * 10 * 10 ^ l.length := by
      rw [List.length_cons, Nat.pow_succ, Nat.mul_comm (10 ^ l.length) 10, Nat.mul_assoc]
    rw [e]
    exact Nat.le_trans (Nat.mul_le_mul_right _ (Nat.div_mul_le_self v 10)) h1
  · have hd : decDigits u = decDigits v ++ l := by
      rcases h3 with ⟨rfl, rfl⟩ | ⟨hl, ⟨rfl, _⟩ | ⟨_, h⟩⟩
      · simp
      · rcases hg with h | h
        · exact absurd h hl
        · exact absurd rfl h
      · exact h
    by_cases hv : v < 10
    · refine .inl ⟨by omega, ?_⟩
      rw [hd, digits_small hv]; rfl
    · refine .inr ⟨by omega, ?_⟩
      rw [hd, digits_more hv]; simp
theorem DInv.stop {u : Nat} {l : List UInt8} (h : DInv u 0 l) (hl : l ≠ []) : l = decDigits u := by
  rcases h.2.2 with ⟨h, _⟩ | ⟨_, ⟨_, h⟩ | ⟨h, _⟩⟩
  · exact absurd h hl
  · exact h
  · omega
theorem byte_of (v : Nat) : ((UInt8.ofNat (48 + v % 10)).toNat : Int) = 48 + (v : Int) % 10 := by
  rw [UInt8.toNat_ofNat']
  omega
end Dec
