/- The plain law of eight hexadecimal digits. -/
import Derived.Test.YtmpeogpmlgnmfaaDoorBase
namespace Go.Proofs.YtmpeogpmlgnmfaaDoor

/-- a hexadecimal digit -/
def hexD (d : Nat) : UInt8 := UInt8.ofNat (if d < 10 then 48 + d else 87 + d)
/-- the last k hexadecimal digits, the first ahead -/
def hexN : Nat → Nat → List UInt8
  | 0, _ => []
  | k + 1, u => hexN k (u / 16) ++ [hexD (u % 16)]
/-- the hexadecimal numeral, as short as it can be -/
def hexMin (u : Nat) : List UInt8 := if _h : u < 16 then [hexD u] else hexMin (u / 16) ++ [hexD (u % 16)]
termination_by u
decreasing_by omega
theorem hexMin_small {u : Nat} (h : u < 16) : hexMin u = [hexD u] := by rw [hexMin, dif_pos h]
theorem hexMin_big {u : Nat} (h : ¬ u < 16) : hexMin u = hexMin (u / 16) ++ [hexD (u % 16)] := by rw [hexMin, dif_neg h]
theorem hexN_len : ∀ (k u : Nat), (hexN k u).length = k
  | 0, _ => rfl
  | k + 1, u => by simp [hexN, hexN_len k]
theorem hexN_zero : ∀ (k : Nat), hexN k 0 = List.replicate k 48
  | 0 => rfl
  | k + 1 => by
    have e : hexD (0 % 16) = 48 := by decide
    rw [hexN, e, Nat.zero_div, hexN_zero k, List.replicate_succ']
theorem hexMin_pad : ∀ (k u : Nat), u < 16 ^ (k + 1) → List.replicate (k + 1 - (hexMin u).length) 48 ++ hexMin u = hexN (k + 1) u ∧ (hexMin u).length ≤ k + 1
  | 0, u, h => by
    have h' : u < 16 := by simpa using h
    rw [hexMin_small h']
    simp [hexN, Nat.mod_eq_of_lt h']
  | k + 1, u, h => by
    by_cases h1 : u < 16
    · rw [hexMin_small h1]
      refine ⟨?_, by simp⟩
      have e : u / 16 = 0 := by omega
      rw [hexN, e, hexN_zero, Nat.mod_eq_of_lt h1]
      simp
    · rw [hexMin_big h1]
      have ih := hexMin_pad k (u / 16) (by rw [Nat.pow_succ] at h; omega)
      refine ⟨?_, by simp; omega⟩
      have e : k + 1 + 1 - (hexMin (u / 16) ++ [hexD (u % 16)]).length = k + 1 - (hexMin (u / 16)).length := by simp
      rw [e, hexN, ← List.append_assoc, ih.1]
theorem hexMin_pos (u : Nat) : 1 ≤ (hexMin u).length := by
  by_cases h : u < 16
  · rw [hexMin_small h]; simp
  · rw [hexMin_big h]; simp
/-- the digits' text in both programs -/
def hexTab : ByteArray := ⟨#[48, 49, 50, 51, 52, 53, 54, 55, 56, 57, 97, 98, 99, 100, 101, 102]⟩
theorem hexTab_at (d : Nat) (h : d < 16) : hexTab[d]? = some (hexD d) := by
  have key : ∀ d : Fin 16, hexTab[d.val]? = some (hexD d.val) := by decide
  exact key ⟨d, h⟩
end Go.Proofs.YtmpeogpmlgnmfaaDoor
