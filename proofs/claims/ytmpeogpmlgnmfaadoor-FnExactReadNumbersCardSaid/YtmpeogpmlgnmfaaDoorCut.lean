/- The plain law of cutting a text at its commas. -/
import Derived.Test.YtmpeogpmlgnmfaaDoorRdL
import Derived.Lib.SplitLaws
namespace Go.Proofs.YtmpeogpmlgnmfaaDoor

/-- a text cut at its commas -/
def cutL : List UInt8 → List (List UInt8)
  | [] => [[]]
  | c :: r => if c = 44 then [] :: cutL r else
    match cutL r with
    | [] => [[c]]
    | p :: ps => (c :: p) :: ps
theorem cutL_yes (r : List UInt8) : cutL (44 :: r) = [] :: cutL r := by simp [cutL]
theorem cutL_no {c : UInt8} {r p : List UInt8} {ps : List (List UInt8)} (h : c ≠ 44) (e : cutL r = p :: ps) : cutL (c :: r) = (c :: p) :: ps := by
  simp [cutL, h, e]
theorem cutL_end : ∀ (a : List UInt8), (∀ c ∈ a, c ≠ 44) → cutL a = [a]
  | [], _ => rfl
  | c :: r, h => cutL_no (h c (by simp)) (cutL_end r fun x hx => h x (by simp [hx]))
theorem cutL_hit (b : List UInt8) : ∀ (a : List UInt8), (∀ c ∈ a, c ≠ 44) → cutL (a ++ 44 :: b) = a :: cutL b
  | [], _ => cutL_yes b
  | c :: r, h => cutL_no (h c (by simp)) (cutL_hit b r fun x hx => h x (by simp [hx]))
theorem cutL_ne (l : List UInt8) : ∃ p ps, cutL l = p :: ps := by
  cases l with
  | nil => exact ⟨_, _, rfl⟩
  | cons c r =>
    unfold cutL
    split
    · exact ⟨_, _, rfl⟩
    · split
      · exact ⟨_, _, rfl⟩
      · exact ⟨_, _, rfl⟩
theorem cutL_piece : ∀ (l : List UInt8), ∀ p ∈ cutL l, p.length ≤ l.length
  | [], p, h => by
    obtain rfl : p = [] := by simpa [cutL] using h
    simp
  | c :: r, p, h => by
    by_cases hc : c = 44
    · subst hc
      rw [cutL_yes] at h
      rcases List.mem_cons.1 h with rfl | h1
      · simp
      · have := cutL_piece r p h1
        simp; omega
    · obtain ⟨q, qs, e⟩ := cutL_ne r
      rw [cutL_no hc e] at h
      rcases List.mem_cons.1 h with rfl | h1
      · have := cutL_piece r q (by rw [e]; simp)
        simp; omega
      · have := cutL_piece r p (by rw [e]; simp [h1])
        simp; omega
theorem cutL_count : ∀ (l : List UInt8), (cutL l).length ≤ l.length + 1
  | [] => by simp [cutL]
  | c :: r => by
    have ih := cutL_count r
    by_cases hc : c = 44
    · subst hc
      rw [cutL_yes]
      simp; omega
    · obtain ⟨q, qs, e⟩ := cutL_ne r
      rw [cutL_no hc e]
      rw [e] at ih
      simp at ih ⊢
      omega
theorem index_comma_yes (r : List UInt8) : Lib.index (44 :: r) [44] = 0 := by rw [Lib.index]; simp [List.isPrefixOf]
theorem index_comma_no {c : UInt8} (r : List UInt8) (h : c ≠ 44) : Lib.index (c :: r) [44] = if Lib.index r [44] == -1 then -1 else Lib.index r [44] + 1 := by
  have hp : ([44] : List UInt8).isPrefixOf (c :: r) = false := by simp [List.isPrefixOf, Ne.symm h]
  rw [Lib.index, hp]
  simp
theorem split_cut : ∀ (l : List UInt8), Lib.splitK [44] 0 (Lib.count l [44]) l = cutL l
  | [] => by
    rw [Lib.count_miss (by simp [Lib.index])]
    rfl
  | c :: r => by
    have ih := split_cut r
    by_cases hc : c = 44
    · subst hc
      rw [Lib.count_cons_eq, Nat.add_comm, Lib.splitK, index_comma_yes, cutL_yes, ← ih]
      simp
    · rw [Lib.count_cons_ne c 44 r hc]
      by_cases hm : Lib.index r [44] = -1
      · rw [Lib.count_miss hm] at ih ⊢
        exact (cutL_no hc ih.symm).symm
      · have hge := Lib.index_ge r [44]
        obtain ⟨j, hj⟩ : ∃ j : Nat, Lib.index r [44] = j := ⟨(Lib.index r [44]).toNat, by omega⟩
        have hj1 : Lib.index (c :: r) [44] = ((j + 1 : Nat) : Int) := by
          rw [index_comma_no r hc, if_neg (fun e => hm (beq_iff_eq.1 e)), hj]
          omega
        rw [Lib.count_hit (by simp) hj, Nat.add_comm] at ih ⊢
        have n1 : ¬ ((j : Int) == -1) = true := fun e => by have := beq_iff_eq.1 e; omega
        have n2 : ¬ (((j + 1 : Nat) : Int) == -1) = true := fun e => by have := beq_iff_eq.1 e; omega
        rw [Lib.splitK, hj, if_neg n1] at ih
        rw [Lib.splitK, hj1, if_neg n2, cutL_no hc ih.symm]
        simp
/-- the texts in a list's text: none in 'none' -/
def ptsL (l : List UInt8) : List (List UInt8) := if l = [110, 111, 110, 101] then [] else cutL l
def pt (l : List UInt8) (i : Nat) : List UInt8 := (ptsL l).getD i []
theorem pt_len (l : List UInt8) (i : Nat) : (pt l i).length ≤ l.length := by
  unfold pt ptsL
  split
  · simp
  · rw [List.getD_eq_getElem?_getD]
    by_cases h : i < (cutL l).length
    · rw [List.getElem?_eq_getElem h]
      exact cutL_piece l _ (List.getElem_mem h)
    · rw [List.getElem?_eq_none (by omega)]
      simp
def nPt (l : List UInt8) : Nat := (ptsL l).length
/-- each of the texts is a value's decimal, and there are few -/
def lrOk (l : List UInt8) : Bool := decide (∀ i, i < nPt l → (rdR (pt l i)).isSome = true) && decide (nPt l ≤ 64)
def lrV (l : List UInt8) (i : Nat) : Int := (rdR (pt l i)).getD 0
def lrN (l : List UInt8) : Nat := if lrOk l then nPt l else 0
theorem lrOk_bad {l : List UInt8} {k : Nat} (hk : k < nPt l) (h : rdR (pt l k) = none) : lrOk l = false := by
  unfold lrOk
  rw [Bool.and_eq_false_iff]
  exact .inl (by rw [decide_eq_false_iff_not]; exact fun hh => by have := hh k hk; rw [h] at this; cases this)
theorem lrOk_many {l : List UInt8} (h : 64 < nPt l) : lrOk l = false := by
  unfold lrOk
  rw [Bool.and_eq_false_iff]
  exact .inr (by rw [decide_eq_false_iff_not]; omega)
theorem lrOk_yes {l : List UInt8} (h : ∀ i, i < nPt l → (rdR (pt l i)).isSome = true) (h2 : nPt l ≤ 64) : lrOk l = true := by
  unfold lrOk
  rw [decide_eq_true h, decide_eq_true h2]
  rfl
theorem lrN_le (l : List UInt8) : lrN l ≤ 64 := by
  unfold lrN
  split
  · rename_i h
    unfold lrOk at h
    simp at h
    omega
  · omega
end Go.Proofs.YtmpeogpmlgnmfaaDoor
