/- The plain law of reading a decimal: a text is a value's decimal or none's; what a fold over its digits gives, what ParseInt gives. -/
import Derived.Test.YtmpeogpmlgnmfaaDoorI64
import Derived.Lib.ItoaLen
import Derived.Lib.AtoiAllCases
import Derived.Lib.ParseIntBTie
namespace Go.Proofs.YtmpeogpmlgnmfaaDoor

def isD (c : UInt8) : Prop := 48 ≤ c.toNat ∧ c.toNat ≤ 57
instance (c : UInt8) : Decidable (isD c) := by unfold isD; infer_instance
/-- the digits read from left to right, what is no digit passed over -/
def rdN : Nat → List UInt8 → Nat
  | a, [] => a
  | a, c :: r => if isD c then rdN (10 * a + (c.toNat - 48)) r else rdN a r
theorem rdN_append (m : List UInt8) : ∀ (l : List UInt8) (a : Nat), rdN a (l ++ m) = rdN (rdN a l) m
  | [], _ => rfl
  | c :: r, a => by
    simp only [List.cons_append, rdN]
    split
    · exact rdN_append m r _
    · exact rdN_append m r _
theorem rdN_snoc_yes (a : Nat) (l : List UInt8) (c : UInt8) (h : isD c) : rdN a (l ++ [c]) = 10 * rdN a l + (c.toNat - 48) := by
  rw [rdN_append]
  simp [rdN, h]
theorem rdN_snoc_no (a : Nat) (l : List UInt8) (c : UInt8) (h : ¬ isD c) : rdN a (l ++ [c]) = rdN a l := by
  rw [rdN_append]
  simp [rdN, h]
theorem rdN_lt' : ∀ (l : List UInt8) (a : Nat), rdN a l < (a + 1) * 10 ^ l.length
  | [], a => by simp [rdN]
  | c :: r, a => by
    simp only [rdN, List.length_cons]
    have e : 10 ^ (r.length + 1) = 10 * 10 ^ r.length := by rw [Nat.pow_succ]; omega
    rw [e, ← Nat.mul_assoc]
    split
    · rename_i h
      have h1 := rdN_lt' r (10 * a + (c.toNat - 48))
      have h2 : (10 * a + (c.toNat - 48) + 1) * 10 ^ r.length ≤ ((a + 1) * 10) * 10 ^ r.length := Nat.mul_le_mul_right _ (by have := h.2; omega)
      omega
    · have h1 := rdN_lt' r a
      have h2 : (a + 1) * 10 ^ r.length ≤ ((a + 1) * 10) * 10 ^ r.length := Nat.mul_le_mul_right _ (by omega)
      omega
theorem rdN_lt (l : List UInt8) (h : l.length ≤ 17) : rdN 0 l < 100000000000000000 := by
  have h1 := rdN_lt' l 0
  have h2 : 10 ^ l.length ≤ 10 ^ 17 := Nat.pow_le_pow_right (by decide) h
  omega
theorem dig_byte (u : Nat) (h : u < 10) : (UInt8.ofNat (48 + u)).toNat = 48 + u := by
  rw [UInt8.toNat_ofNat']
  omega
theorem dec_small (u : Nat) (h : u < 10) : Lib.decDigits u = [UInt8.ofNat (48 + u)] := by rw [Lib.decDigits, dif_pos h]
theorem dec_big (u : Nat) (h : ¬ u < 10) : Lib.decDigits u = Lib.decDigits (u / 10) ++ [UInt8.ofNat (48 + u % 10)] := by rw [Lib.decDigits, dif_neg h]
theorem rdN_dec (u : Nat) : rdN 0 (Lib.decDigits u) = u := by
  induction u using Nat.strongRecOn with
  | _ u ih =>
    by_cases h : u < 10
    · rw [dec_small u h]
      have hb := dig_byte u h
      have hd : isD (UInt8.ofNat (48 + u)) := by unfold isD; omega
      simp only [rdN, hd, if_true]
      omega
    · have hb := dig_byte (u % 10) (by omega)
      rw [dec_big u h, rdN_snoc_yes _ _ _ (by unfold isD; omega), ih (u / 10) (by omega), hb]
      omega
theorem parse_snoc (c : UInt8) : ∀ (l : List UInt8) (a u : Nat), Lib.parseUint10 a l = .ok u → Lib.parseUint10 a (l ++ [c]) = Lib.parseUint10 u [c]
  | [], a, u, h => by cases h; rfl
  | x :: r, a, u, h => by
    simp only [List.cons_append, Lib.parseUint10] at h ⊢
    split at h
    · rename_i hd
      rw [if_pos hd]
      split at h
      · cases h
      · rename_i h1
        rw [if_neg h1]
        split at h
        · cases h
        · rename_i h2
          rw [if_neg h2]
          have := parse_snoc c r _ u h
          simpa [Lib.parseUint10] using this
    · cases h
theorem parse_dec (u : Nat) (hu : u ≤ 1000000000000000) : Lib.parseUint10 0 (Lib.decDigits u) = .ok u := by
  induction u using Nat.strongRecOn with
  | _ u ih =>
    by_cases h : u < 10
    · have hb := dig_byte u h
      rw [dec_small u h]
      simp only [Lib.parseUint10]
      rw [if_pos (by omega), if_neg (by omega), if_neg (by omega)]
      congr 1
      omega
    · have hb := dig_byte (u % 10) (by omega)
      rw [dec_big u h, parse_snoc _ _ _ _ (ih (u / 10) (by omega) (by omega))]
      simp only [Lib.parseUint10]
      rw [if_pos (by omega), if_neg (by omega), if_neg (by omega)]
      congr 1
      omega
theorem dec_digs (u : Nat) : ∀ c ∈ Lib.decDigits u, isD c := by
  induction u using Nat.strongRecOn with
  | _ u ih =>
    intro c hc
    by_cases h : u < 10
    · rw [dec_small u h] at hc
      have hb := dig_byte u h
      obtain rfl : c = UInt8.ofNat (48 + u) := by simpa using hc
      unfold isD; omega
    · rw [dec_big u h] at hc
      have hb := dig_byte (u % 10) (by omega)
      rcases List.mem_append.1 hc with h1 | h1
      · exact ih (u / 10) (by omega) c h1
      · obtain rfl : c = UInt8.ofNat (48 + u % 10) := by simpa using h1
        unfold isD; omega
theorem dec_ne (u : Nat) : ∃ c r, Lib.decDigits u = c :: r := by
  have h := Lib.decDigits_length u
  have h1 := Lib.nDigits_pos u
  cases e : Lib.decDigits u with
  | nil => rw [e] at h; simp at h; omega
  | cons c r => exact ⟨c, r, rfl⟩
theorem nDigits_le : ∀ (k u : Nat), u < 10 ^ (k + 1) → Lib.nDigits u ≤ k + 1
  | 0, u, h => by rw [Lib.nDigits_small (by simpa using h)]; omega
  | k + 1, u, h => by
    by_cases h1 : u < 10
    · rw [Lib.nDigits_small h1]; omega
    · rw [Lib.nDigits_big h1]
      have := nDigits_le k (u / 10) (by rw [Nat.pow_succ] at h; omega)
      omega
/-- a text is the decimal of a value -/
def rdOk (l : List UInt8) (v : Int) : Prop := okV v ∧ Lib.itoa v = l
/-- the number that a text's digits give, with its sign -/
def rdV (l : List UInt8) : Int := if l.head? = some 45 then -(rdN 0 l : Int) else (rdN 0 l : Int)
theorem okV_iff {v : Int} : okV v ↔ -1000000000000000 ≤ v ∧ v ≤ 1000000000000000 := by
  unfold okV Flt.inB
  simp
theorem rdOk_facts {l : List UInt8} {v : Int} (h : rdOk l v) : Lib.parseIntB 64 l = .ok v ∧ rdV l = v ∧ 1 ≤ l.length ∧ l.length ≤ 17 := by
  obtain ⟨hv, rfl⟩ := h
  rw [okV_iff] at hv
  rw [Lib.parseIntB_64]
  by_cases hn : v < 0
  · obtain ⟨u, rfl⟩ : ∃ u : Nat, v = -(u : Int) := ⟨v.natAbs, by omega⟩
    have hl := Lib.decDigits_length u
    have h16 := nDigits_le 15 u (by omega)
    obtain ⟨c, r, e⟩ := dec_ne u
    rw [Lib.itoa_neg u (by omega), Lib.atoiAll_minus]
    refine ⟨?_, ?_, ?_, ?_⟩
    · unfold Lib.parseMag
      rw [if_neg (by rw [e]; simp), parse_dec u (by omega)]
      simp only [Lib.signed]
      rw [if_neg (by omega)]
    · have h45 : ¬ isD 45 := by decide
      simp only [rdV, List.head?_cons, if_true, rdN, h45, if_false, rdN_dec]
    · simp
    · simp; omega
  · obtain ⟨u, rfl⟩ : ∃ u : Nat, v = (u : Int) := ⟨v.toNat, by omega⟩
    have hl := Lib.decDigits_length u
    have h16 := nDigits_le 15 u (by omega)
    obtain ⟨c, r, e⟩ := dec_ne u
    have hc : isD c := dec_digs u c (by rw [e]; simp)
    have hp := parse_dec u (by omega)
    have hr := rdN_dec u
    rw [Lib.itoa_nonneg]
    rw [e] at hl hp hr ⊢
    have h45 : c ≠ 45 := by rintro rfl; revert hc; decide
    refine ⟨?_, ?_, by simp, by omega⟩
    · rw [Lib.atoiAll_plain c r (by have := hc.1; omega) (by have := hc.1; omega)]
      unfold Lib.parseMag
      rw [if_neg (by simp), hp]
      simp only [Lib.signless]
      rw [if_neg (by omega)]
    · unfold rdV
      rw [if_neg (by simpa using h45), hr]
/-- the answer: the value whose decimal the text is, or none -/
def rdR (l : List UInt8) : Option Int := if okV (rdV l) ∧ Lib.itoa (rdV l) = l then some (rdV l) else none
theorem rdR_yes {l : List UInt8} {v : Int} (h : rdOk l v) : rdR l = some v := by
  have e := (rdOk_facts h).2.1
  unfold rdR
  rw [e]
  exact if_pos h
theorem rdR_no {l : List UInt8} (h : ¬ rdOk l (rdV l)) : rdR l = none := by
  exact if_neg h
theorem rdR_len {l : List UInt8} (h : l.length < 1 ∨ 17 < l.length) : rdR l = none :=
  rdR_no fun hh => by have := rdOk_facts hh; omega
theorem rdR_parse {l : List UInt8} (h : ∀ v, Lib.parseIntB 64 l = .ok v → ¬ rdOk l v) : rdR l = none :=
  rdR_no fun hh => h _ (rdOk_facts hh).1 hh
open Go in
/-- the answer's two values -/
def rdT : Option Int → Value
  | some v => .tuple #[.int .i64 v, .bool true]
  | none => .tuple #[.int .i64 0, .bool false]
end Go.Proofs.YtmpeogpmlgnmfaaDoor
