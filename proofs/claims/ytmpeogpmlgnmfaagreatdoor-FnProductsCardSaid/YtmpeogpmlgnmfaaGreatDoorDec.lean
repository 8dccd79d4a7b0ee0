/- Plain laws of decimal digits: no program in sight. -/
import Derived.Test.YtmpeogpmlgnmfaaGreatDoorFlt
import Derived.Lib.ItoaNum
import Derived.Test.YtmpeogpmlgnmfaaGreatDoorNum
import Derived.Test.YtmpeogpmlgnmfaaGreatDoorOwn
import Derived.Laws.IdiomStrings
namespace Dec
set_option maxRecDepth 100000
open Go.Lib

theorem digits_small {u : Nat} (h : u < 10) : decDigits u = [UInt8.ofNat (48 + u % 10)] := by
  unfold decDigits; rw [dif_pos h, show u % 10 = u by omega]
theorem digits_more {u : Nat} (h : ¬ u < 10) : decDigits u = decDigits (u / 10) ++ [UInt8.ofNat (48 + u % 10)] := by
  conv => lhs; unfold decDigits
  rw [dif_neg h]
/-- what is left, and the digits that are told -/
def DInv (u v : Nat) (l : List UInt8) : Prop :=
  v * 10 ^ l.length ≤ u ∧ l.length ≤ 19 ∧ ((l = [] ∧ v = u) ∨ (l ≠ [] ∧ ((v = 0 ∧ l = decDigits u) ∨ (0 < v ∧ decDigits u = decDigits v ++ l))))
theorem DInv.start (u : Nat) : DInv u u [] := ⟨by simp, by simp, .inl ⟨rfl, rfl⟩⟩
theorem DInv.few {u v : Nat} {l : List UInt8} (h : DInv u v l) (hu : u ≤ 9223372036854775808) (hg : l = [] ∨ v ≠ 0) : l.length ≤ 18 := by
  rcases hg with rfl | hv
  · simp
  · rcases Nat.lt_or_ge l.length 19 with h1 | h1
    · omega
    · have h2 : 10 ^ 19 ≤ 10 ^ l.length := Nat.pow_le_pow_right (by decide) h1
      have h3 : 1 * 10 ^ l.length ≤ v * 10 ^ l.length := Nat.mul_le_mul_right _ (by omega)
      have h4 := h.1
      have h5 : (10 : Nat) ^ 19 = 10000000000000000000 := by decide
      omega
theorem DInv.step {u v : Nat} {l : List UInt8} (h : DInv u v l) (hu : u ≤ 9223372036854775808) (hg : l = [] ∨ v ≠ 0) : DInv u (v / 10) (UInt8.ofNat (48 + v % 10) :: l) := by
  have hf := h.few hu hg
  obtain ⟨h1, h2, h3⟩ := h
  refine ⟨?_, by simp; omega, .inr ⟨by simp, ?_⟩⟩
  · have e : v / 10 * 10 ^ (UInt8.ofNat (48 + v % 10) :: l).length = v / 10 * 10 * 10 ^ l.length := by
      rw [List.length_cons, Nat.pow_succ, Nat.mul_comm (10 ^ l.length) 10, Nat.mul_assoc]
    rw [e]
    exact Nat.le_trans (Nat.mul_le_mul_right _ (Nat.div_mul_le_self v 10)) h1
  · have hd : decDigits u = decDigits v ++ l := by
      rcases h3 with ⟨rfl, rfl⟩ | ⟨hl, ⟨rfl, _⟩ | ⟨_, h⟩⟩
      · simp
      · rcases hg with h | h
        · exact absurd h hl
        · exact absurd rfl h
      · exact h
    by_cases hv : v < 10
    · refine .inl ⟨by omega, ?_⟩
      rw [hd, digits_small hv]; rfl
    · refine .inr ⟨by omega, ?_⟩
      rw [hd, digits_more hv]; simp
theorem DInv.stop {u : Nat} {l : List UInt8} (h : DInv u 0 l) (hl : l ≠ []) : l = decDigits u := by
  rcases h.2.2 with ⟨h, _⟩ | ⟨_, ⟨_, h⟩ | ⟨h, _⟩⟩
  · exact absurd h hl
  · exact h
  · omega
theorem byte_of (v : Nat) : ((UInt8.ofNat (48 + v % 10)).toNat : Int) = 48 + (v : Int) % 10 := by
  rw [UInt8.toNat_ofNat']
  omega
end Dec
/- Both texts' Decimal: a number in decimal. -/
namespace Go.Proofs.YtmpeogpmlgnmfaaGreatDoor
set_option maxRecDepth 100000
open Go.RowKit Go.Deep Flt Dec

theorem u8_info : (Tryz.prog.info? 5).map (fun i => (i.zero, i.size, i.bytes)) = some (some (.int .u8 0), 1, 1) := by kernel_rfl
/-- bytes of the call's own -/
def byteV (b : UInt8) : Value := .int .u8 (b.toNat : Int)
def BOwn (w : World) (B : Nat) (g cap : Nat) (l : List UInt8) : Prop := w.ownsRow B 5 1 (.slice (some ⟨g, 0, none⟩) l.length cap) l.length (l.map byteV)
theorem BOwn.alloc {w : World} {B g cap : Nat} {l : List UInt8} (h : BOwn w B g cap l) (o : Obj) : BOwn (w.alloc o) B g cap l := World.ownsRow.alloc h o
theorem BOwn.cells {w : World} {B g cap : Nat} {l : List UInt8} (h : BOwn w B g cap l) : ∀ j u, (l.map byteV)[j]? = some u → w.cell? ((⟨g, 0, none⟩ : Addr).add j) = some u := World.ownsRow.cells h rfl
theorem BOwn.read {w : World} {B g cap : Nat} {l : List UInt8} (h : BOwn w B g cap l) : ∀ j (hj : j < l.length), w.cell? ((⟨g, 0, none⟩ : Addr).add j) = some (.int .u8 (l[j].toNat : Int)) := fun j hj =>
  h.cells j _ (by simp [List.getElem?_eq_getElem hj, byteV])
theorem bytes_one (l : List UInt8) : ∀ u ∈ l.map byteV, u.oneCell' = true := by
  intro u hu
  simp at hu
  obtain ⟨b, _, rfl⟩ := hu
  rfl
/-- a byte ahead of bytes: what append leaves -/
theorem BOwn.cons {w : World} {B : Nat} {v : Value} {b : UInt8} {l : List UInt8} (h : w.ownsRow B 5 1 v (1 + l.length) ([byteV b] ++ l.map byteV)) : ∃ g cap, v = .slice (some ⟨g, 0, none⟩) (b :: l).length cap ∧ BOwn w B g cap (b :: l) := by
  rcases h.2 with ⟨_, h0⟩ | ⟨g, cap, cur, rfl, hh⟩
  · omega
  · have e : 1 + l.length = (b :: l).length := by simp; omega
    refine ⟨g, cap, by rw [e], ?_⟩
    unfold BOwn
    rw [← e]
    exact h
def sliceLen : Value → Nat
  | .slice _ n _ => n
  | _ => 0
theorem dec_ways (l : List UInt8) (v : Nat) : (l ≠ [] ∧ v = 0) ∨ ((l = [] ∨ v ≠ 0) ∧ v / 10 + (1 - (l.length + 1)) < v + (1 - l.length) ∧ ((((l.length : Nat) : Int) == 0) = true ∨ ((((l.length : Nat) : Int) == 0) = false ∧ (((v : Nat) : Int) != 0) = true))) := by
  by_cases hl : l = []
  · subst hl
    exact .inr ⟨.inl rfl, by simp; omega, .inl rfl⟩
  · by_cases hv : v = 0
    · exact .inl ⟨hl, hv⟩
    · exact .inr ⟨.inr hv, by omega, .inr ⟨by cases l <;> simp at hl ⊢; omega, by simp; omega⟩⟩
end Go.Proofs.YtmpeogpmlgnmfaaGreatDoor
