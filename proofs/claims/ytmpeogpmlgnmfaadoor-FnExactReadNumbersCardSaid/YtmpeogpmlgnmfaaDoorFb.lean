/- The library's formatBits at base 16. -/
import Derived.Test.YtmpeogpmlgnmfaaDoorTz
import Derived.Test.YtmpeogpmlgnmfaaDoorHexS
namespace Go.Proofs.YtmpeogpmlgnmfaaDoor
open Go.RowKit Go.Deep Flt

/-- the digits laid so far, l, and the rest, v -/
def HInv (u v : Nat) (l : List UInt8) : Prop := hexMin u = hexMin v ++ l ∧ v * 16 ^ l.length ≤ u
theorem HInv.start (u : Nat) : HInv u u [] := ⟨by simp, by simp⟩
theorem HInv.step {u v : Nat} {l : List UInt8} (h : HInv u v l) (hv : 16 ≤ v) : HInv u (v / 16) (hexD (v % 16) :: l) := by
  obtain ⟨h1, h2⟩ := h
  refine ⟨by rw [h1, hexMin_big (by omega)]; simp, ?_⟩
  have e : 16 ^ (hexD (v % 16) :: l).length = 16 * 16 ^ l.length := by rw [List.length_cons, Nat.pow_succ]; omega
  rw [e, ← Nat.mul_assoc]
  exact Nat.le_trans (Nat.mul_le_mul_right _ (by omega)) h2
theorem HInv.few {u v : Nat} {l : List UInt8} (h : HInv u v l) (hu : u < 4294967296) (hv : 1 ≤ v) : l.length < 8 := by
  rcases Nat.lt_or_ge l.length 8 with h8 | h8
  · exact h8
  · have h1 : 16 ^ 8 ≤ 16 ^ l.length := Nat.pow_le_pow_right (by decide) h8
    have h2 : 1 * 16 ^ l.length ≤ v * 16 ^ l.length := Nat.mul_le_mul_right _ hv
    have := h.2
    omega
theorem HInv.stop {u v : Nat} {l : List UInt8} (h : HInv u v l) (hv : v < 16) : hexMin u = hexD v :: l := by
  rw [h.1, hexMin_small hv]
  rfl
/-- the last cells of the array of 65 bytes are l -/
def ARow (w : World) (g : Nat) (l : List UInt8) : Prop := ∃ h : Nat → Value, w.rowIs g 111 65 h ∧ l.length ≤ 65 ∧ ∀ j (hj : j < l.length), h (65 - l.length + j) = .int .u8 (l[j].toNat : Int)
theorem ARow.read {w : World} {g : Nat} {l : List UInt8} (h : ARow w g l) : ∀ j (hj : j < l.length), w.cell? ((⟨g, 65 - l.length, none⟩ : Addr).add j) = some (.int .u8 (l[j].toNat : Int)) := by
  obtain ⟨f, h1, h2, h3⟩ := h
  intro j hj
  rw [add_plain, ← h3 j hj]
  exact h1.cell (by omega)
theorem ARow.more {w : World} {g : Nat} {l : List UInt8} (h : ARow w g l) (hl : l.length < 65) (b : UInt8) : ARow (w.setCell ⟨g, 64 - l.length, none⟩ (.int .u8 (b.toNat : Int))) g (b :: l) := by
  obtain ⟨f, h1, h2, h3⟩ := h
  refine ⟨_, h1.set (64 - l.length) (.int .u8 (b.toNat : Int)), by simp; omega, fun j hj => ?_⟩
  simp only [List.length_cons] at hj ⊢
  rcases j with _ | j
  · rw [if_pos (by omega)]
    rfl
  · rw [if_neg (by omega), show 65 - (l.length + 1) + (j + 1) = 65 - l.length + j by omega, h3 j (by omega)]
    rfl
theorem ARow.at' {w : World} {g : Nat} {l : List UInt8} (h : ARow w g l) (k : Nat) (hk : k < 65) : (∃ v, w.cell? ⟨g, k, none⟩ = some v) ∧ w.frozen? ⟨g, k, none⟩ = false := by
  obtain ⟨f, h1, _⟩ := h
  exact ⟨⟨_, h1.cell hk⟩, h1.frozen k⟩
theorem ARow.start (w : World) : ARow (w.alloc (.cells Tryd.zeroCells111 111)) w.heap.size [] :=
  ⟨fun i => Tryd.zeroCells111.getD i undef, ⟨Tryd.zeroCells111, heap_alloc_new w _, by kernel_rfl, fun i hi => by
    have hs : Tryd.zeroCells111.size = 65 := by kernel_rfl
    simp [Array.getD, hs, hi]⟩, by simp, fun j hj => by simp at hj⟩
theorem u64_and15 (n : Int) : bits .and .u64 n 15 = n % 16 := by
  have h15 : (BitVec.ofInt 64 15).toNat = 2 ^ 4 - 1 := by decide
  have key : (BitVec.ofInt 64 n &&& BitVec.ofInt 64 15).toNat = (n % ((2 ^ 64 : Nat) : Int)).toNat % 2 ^ 4 := by
    rw [BitVec.toNat_and, BitVec.toNat_ofInt, h15, Nat.and_two_pow_sub_one_eq_mod]
  show IntKind.u64.wrap ((BitVec.ofInt 64 n &&& BitVec.ofInt 64 15).toNat : Nat) = n % 16
  rw [key, IntKind.wrap_u64]
  omega
end Go.Proofs.YtmpeogpmlgnmfaaDoor
