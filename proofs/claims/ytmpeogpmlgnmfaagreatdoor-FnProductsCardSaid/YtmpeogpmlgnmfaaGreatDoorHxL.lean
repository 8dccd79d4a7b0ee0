/- The plain law of reading eight hexadecimal digits, small letters alone. -/
import Derived.Test.YtmpeogpmlgnmfaaGreatDoorHexI
import Derived.Test.YtmpeogpmlgnmfaaGreatDoorRlS
namespace Go.Proofs.YtmpeogpmlgnmfaaGreatDoor
set_option maxRecDepth 100000
open Flt

/-- the value of a small hexadecimal digit -/
def lowD (c : UInt8) : Option Nat := if 48 ≤ c.toNat ∧ c.toNat ≤ 57 then some (c.toNat - 48) else if 97 ≤ c.toNat ∧ c.toNat ≤ 102 then some (c.toNat - 87) else none
theorem lowD_lt {c : UInt8} {d : Nat} (h : lowD c = some d) : d < 16 := by
  unfold lowD at h
  split at h
  · cases h; omega
  · split at h
    · cases h; omega
    · cases h
theorem lowD_hexD : ∀ d : Fin 16, lowD (hexD d.val) = some d.val := by decide
theorem hexD_lowD {c : UInt8} {d : Nat} (h : lowD c = some d) : hexD d = c := by
  unfold lowD at h
  have hc : c = UInt8.ofNat c.toNat := by simp
  split at h
  · cases h
    unfold hexD
    rw [if_pos (by omega)]
    rw [show 48 + (c.toNat - 48) = c.toNat by omega]
    exact hc.symm
  · split at h
    · cases h
      unfold hexD
      rw [if_neg (by omega)]
      rw [show 87 + (c.toNat - 87) = c.toNat by omega]
      exact hc.symm
    · cases h
/-- one digit more -/
def hvS (o : Option Nat) (c : UInt8) : Option Nat := o.bind fun n => (lowD c).map fun d => 16 * n + d
/-- the value of a row of digits, none where a byte is none -/
def hv (l : List UInt8) : Option Nat := l.foldl hvS (some 0)
theorem hv_snoc (l : List UInt8) (c : UInt8) : hv (l ++ [c]) = hvS (hv l) c := by simp [hv]
theorem hvS_none : ∀ (l : List UInt8), l.foldl hvS none = none
  | [] => rfl
  | _ :: r => hvS_none r
theorem hv_none_app {l : List UInt8} (r : List UInt8) (h : hv l = none) : hv (l ++ r) = none := by
  unfold hv at *
  rw [List.foldl_append, h, hvS_none]
theorem hv_lt : ∀ (k : Nat) (l : List UInt8), l.length = k → ∀ v, hv l = some v → v < 16 ^ k ∧ l = hexN k v
  | 0, l, hl, v, h => by
    obtain rfl : l = [] := List.eq_nil_of_length_eq_zero hl
    cases h
    exact ⟨by simp, rfl⟩
  | k + 1, l, hl, v, h => by
    have hne : l ≠ [] := by intro e; rw [e] at hl; cases hl
    have e := List.dropLast_concat_getLast hne
    rw [← e, hv_snoc] at h
    have hl' : l.dropLast.length = k := by rw [List.length_dropLast, hl]; rfl
    cases h1 : hv l.dropLast with
    | none => rw [h1] at h; cases h
    | some u =>
      rw [h1] at h
      cases h2 : lowD (l.getLast hne) with
      | none => unfold hvS at h; rw [h2] at h; cases h
      | some d =>
        unfold hvS at h
        rw [h2] at h
        have hv' : v = 16 * u + d := by cases h; rfl
        have hd := lowD_lt h2
        obtain ⟨a1, a2⟩ := hv_lt k _ hl' u h1
        refine ⟨by rw [Nat.pow_succ]; omega, ?_⟩
        have q1 : v / 16 = u := by omega
        have q2 : v % 16 = d := by omega
        rw [hexN, q1, q2, hexD_lowD h2, ← a2]
        exact e.symm
theorem hv_hexN : ∀ (k u : Nat), u < 16 ^ k → hv (hexN k u) = some u
  | 0, u, h => by
    have : u = 0 := by simpa using h
    subst this
    rfl
  | k + 1, u, h => by
    rw [hexN, hv_snoc, hv_hexN k (u / 16) (by rw [Nat.pow_succ] at h; omega)]
    have hd := lowD_hexD ⟨u % 16, Nat.mod_lt _ (by omega)⟩
    unfold hvS
    simp only [Option.bind_some]
    rw [hd]
    simp only [Option.map_some, Option.some.injEq]
    omega
/-- the number with eight digits, none where they are not those of its bits -/
def rn (p : List UInt8) : Option Nat := if p.length = 8 then (hv p).bind fun v => if bitsN v = v then some v else none else none
theorem rn_short {p : List UInt8} (h : p.length ≠ 8) : rn p = none := if_neg h
theorem rn_none {p : List UInt8} (h : hv p = none) : rn p = none := by
  unfold rn
  rw [h]
  split <;> rfl
theorem rn_yes {p : List UInt8} {v : Nat} (hl : p.length = 8) (h : hv p = some v) (hb : bitsN v = v) : rn p = some v := by
  unfold rn
  rw [if_pos hl, h, Option.bind_some, if_pos hb]
theorem rn_no {p : List UInt8} {v : Nat} (h : hv p = some v) (hb : bitsN v ≠ v) : rn p = none := by
  unfold rn
  rw [h, Option.bind_some, if_neg hb]
  split <;> rfl
theorem rn_some {p : List UInt8} {v : Nat} (h : rn p = some v) : p.length = 8 ∧ hv p = some v ∧ v < 4294967296 ∧ hx v = p ∧ bitsN v = v := by
  unfold rn at h
  by_cases hl : p.length = 8
  · rw [if_pos hl] at h
    cases h1 : hv p with
    | none => rw [h1] at h; cases h
    | some u =>
      rw [h1, Option.bind_some] at h
      by_cases hb : bitsN u = u
      · rw [if_pos hb] at h
        cases h
        obtain ⟨a1, a2⟩ := hv_lt 8 p hl v h1
        exact ⟨hl, rfl, a1, by unfold hx; rw [hb]; exact a2.symm, hb⟩
      · rw [if_neg hb] at h; cases h
  · rw [if_neg hl] at h; cases h
theorem bitsN_idem (b : Nat) : bitsN (bitsN b) = bitsN b := by
  rcases cls_cases .f32 b with ⟨hc, _⟩ | ⟨hc, _⟩
  · have e : bitsN b = 2143289344 := by unfold bitsN; rw [hc]; rfl
    rw [e]
    decide
  · have e : bitsN b = b := by unfold bitsN; rw [hc, bitsZ_some]; rfl
    rw [e, e]
theorem rn_hx {b : Nat} (hb : b < 4294967296) : rn (hx b) = some (bitsN b) :=
  rn_yes (hx_len b) (hv_hexN 8 (bitsN b) (by have := bitsN_lt hb; omega)) (bitsN_idem b)
theorem cls_bitsN (b : Nat) : cls .f32 (bitsN b) = cls .f32 b := by
  rcases cls_cases .f32 b with ⟨hc, _⟩ | ⟨hc, _⟩
  · have e : bitsN b = 2143289344 := by unfold bitsN; rw [hc]; rfl
    rw [e, hc]
    decide
  · have e : bitsN b = b := by unfold bitsN; rw [hc, bitsZ_some]; rfl
    rw [e]
/-- what the program asks: the digits of what was read are the text -/
theorem rn_ask {p : List UInt8} {x : Nat} (hx32 : x < 4294967296) (hr : ∀ v, hv p = some v → x = v) : hx x = p ↔ rn p = some x := by
  constructor
  · intro e
    have h := rn_hx hx32
    rw [e] at h
    have h2 := rn_some h
    rw [hr _ h2.2.1]
    exact h
  · intro h
    exact (rn_some h).2.2.2.1
end Go.Proofs.YtmpeogpmlgnmfaaGreatDoor
