/- Plain laws of the numbers of sets of few numbers by their sum: no program in sight. -/
import Derived.Test.YtcjkelnhikhbhaaRows
namespace Rsc

/-- how many sets of i of the numbers 1 .. x have the sum s -/
def T : Nat → Nat → Nat → Nat
  | 0, i, s => if i = 0 ∧ s = 0 then 1 else 0
  | x + 1, i, s => T x i s + (if 1 ≤ i ∧ x + 1 ≤ s then T x (i - 1) (s - (x + 1)) else 0)

theorem T_few (x : Nat) : ∀ i s, x < i → T x i s = 0 := by
  induction x with
  | zero => intro i s h; unfold T; rw [if_neg (by omega)]
  | succ x ih =>
    intro i s h
    unfold T
    rw [ih i s (by omega)]
    split
    · rw [ih (i - 1) _ (by omega)]
    · rfl
theorem tri (x : Nat) : (x + 1) * (x + 1 + 1) / 2 = x * (x + 1) / 2 + (x + 1) := by
  have h : (x + 1) * (x + 1 + 1) = x * (x + 1) + (x + 1) * 2 := by rw [Nat.mul_comm (x + 1) (x + 1 + 1), show x + 1 + 1 = x + 2 from rfl, Nat.add_mul]; omega
  rw [h, Nat.add_mul_div_right _ _ (by decide)]
theorem tri_ge {n : Nat} (h : 1 ≤ n) : n ≤ n * (n + 1) / 2 := by
  obtain ⟨m, rfl⟩ : ∃ m, n = m + 1 := ⟨n - 1, by omega⟩
  rw [tri]; omega
theorem T_far (x : Nat) : ∀ i s, x * (x + 1) / 2 < s → T x i s = 0 := by
  induction x with
  | zero => intro i s h; unfold T; rw [if_neg (by omega)]
  | succ x ih =>
    intro i s h
    rw [tri] at h
    unfold T
    rw [ih i s (by omega)]
    split
    · rw [ih _ _ (by omega)]
    · rfl
theorem T_le (x : Nat) : ∀ i s, T x i s ≤ 2 ^ x := by
  induction x with
  | zero => intro i s; unfold T; split <;> simp
  | succ x ih =>
    intro i s
    unfold T
    have h1 := ih i s
    have h2 := ih (i - 1) (s - (x + 1))
    rw [Nat.pow_succ]
    split <;> omega
theorem T_bound {x : Nat} (hx : x ≤ 24) (i s : Nat) : T x i s ≤ 16777216 := by
  have h := T_le x i s
  have h2 : 2 ^ x ≤ 2 ^ 24 := Nat.pow_le_pow_right (by decide) hx
  have h3 : (2 : Nat) ^ 24 = 16777216 := by decide
  omega
/-- the table while number x is put in: row i is done behind s, the rows behind it are done -/
def mid (x i s j t : Nat) : Nat := if i < j ∨ (j = i ∧ s < t) then T x j t else T (x - 1) j t
theorem mid_start {x k s j t : Nat} (ht : t ≤ s) (hj : k < j → x < j) : mid x k s j t = T (x - 1) j t := by
  unfold mid
  split
  · rename_i h
    rcases h with h | ⟨_, h⟩
    · rw [T_few x j t (hj h), T_few (x - 1) j t (by have := hj h; omega)]
    · omega
  · rfl
theorem mid_step {x i s : Nat} (hx : 1 ≤ x) (hi : 1 ≤ i) (hs : x ≤ s) (j t : Nat) :
    mid x i (s - 1) j t = if j = i ∧ t = s then mid x i s i s + mid x i s (i - 1) (s - x) else mid x i s j t := by
  obtain ⟨y, rfl⟩ : ∃ y, x = y + 1 := ⟨x - 1, by omega⟩
  by_cases h : j = i ∧ t = s
  · obtain ⟨rfl, rfl⟩ := h
    rw [if_pos ⟨rfl, rfl⟩]
    unfold mid
    rw [if_pos (by omega), if_neg (by omega), if_neg (by omega)]
    show T (y + 1) j t = _
    conv => lhs; unfold T
    rw [if_pos (by omega)]
    rfl
  · rw [if_neg h]
    unfold mid
    by_cases h1 : i < j ∨ j = i ∧ s < t
    · rw [if_pos h1, if_pos (by omega)]
    · rw [if_neg h1, if_neg (by omega)]
theorem mid_row {x i j t s : Nat} (hx : 1 ≤ x) (hi : 1 ≤ i) (ht : t ≤ s) : mid x i (x - 1) j t = mid x (i - 1) s j t := by
  obtain ⟨y, rfl⟩ : ∃ y, x = y + 1 := ⟨x - 1, by omega⟩
  unfold mid
  by_cases h : i < j ∨ j = i ∧ y + 1 - 1 < t
  · rw [if_pos h, if_pos (by omega)]
  · rw [if_neg h]
    by_cases h2 : i - 1 < j ∨ j = i - 1 ∧ s < t
    · rw [if_pos h2]
      have hji : j = i := by omega
      subst hji
      show T y j t = T (y + 1) j t
      conv => rhs; unfold T
      rw [if_neg (by omega)]; rfl
    · rw [if_neg h2]
theorem mid_end {x j t s : Nat} (hx : 1 ≤ x) : mid x 0 s j t = T x j t := by
  obtain ⟨y, rfl⟩ : ∃ y, x = y + 1 := ⟨x - 1, by omega⟩
  unfold mid
  by_cases h : 0 < j ∨ j = 0 ∧ s < t
  · rw [if_pos h]
  · rw [if_neg h]
    have hj : j = 0 := by omega
    subst hj
    show T y 0 t = T (y + 1) 0 t
    conv => rhs; unfold T
    rw [if_neg (by omega)]; rfl
theorem mid_le {x : Nat} (hx : x ≤ 24) (i s j t : Nat) : mid x i s j t ≤ 16777216 := by
  unfold mid; split
  · exact T_bound hx _ _
  · exact T_bound (by omega) _ _

/-- the sum of the first numbers -/
def sumTo (f : Nat → Nat) : Nat → Nat
  | 0 => 0
  | n + 1 => sumTo f n + f n
theorem sumTo_le {f : Nat → Nat} {c : Nat} (h : ∀ i, f i ≤ c) : ∀ n, sumTo f n ≤ n * c
  | 0 => by simp [sumTo]
  | n + 1 => by have := sumTo_le h n; have := h n; rw [Nat.add_mul]; unfold sumTo; omega
theorem sumTo_more {f : Nat → Nat} {m : Nat} (n : Nat) (hmn : m ≤ n) (h : ∀ i, m ≤ i → f i = 0) : sumTo f n = sumTo f m := by
  induction n with
  | zero => obtain rfl : m = 0 := by omega
            rfl
  | succ n ih =>
    rcases Nat.lt_or_eq_of_le hmn with h1 | h1
    · show sumTo f n + f n = _; rw [ih (by omega), h n (by omega)]; rfl
    · rw [h1]
/-- the numbers up to a sum -/
def few (n k : Nat) (sum : Int) (t : Nat) : Nat := if (t : Int) ≤ sum then T n k t else 0
theorem few_le {n : Nat} (hn : n ≤ 24) (k : Nat) (sum : Int) (t : Nat) : few n k sum t ≤ 16777216 := by
  unfold few; split
  · exact T_bound hn _ _
  · omega
theorem most_le {n : Nat} (hn : n ≤ 24) : n * (n + 1) / 2 ≤ 300 := by
  have h : n * (n + 1) ≤ 24 * 25 := Nat.mul_le_mul hn (by omega)
  omega
theorem all_same {n k : Nat} (hn : n ≤ 24) : sumTo (T n k) 301 = sumTo (T n k) (n * (n + 1) / 2 + 1) :=
  sumTo_more _ (by have := most_le hn; omega) fun i hi => T_far n k i (by omega)
theorem few_same {n k : Nat} (hn : n ≤ 24) (sum : Int) : sumTo (few n k sum) 301 = sumTo (few n k sum) (n * (n + 1) / 2 + 1) :=
  sumTo_more _ (by have := most_le hn; omega) fun i hi => by unfold few; split; exact T_far n k i (by omega); rfl
end Rsc
