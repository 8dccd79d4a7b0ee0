/- The plain law of reading a decimal: a text is a value's decimal or none's; what a fold over its digits gives, what ParseInt gives. -/
import Derived.Test.YtmpeogpmlgnmfaaGreatDoorI64
import Derived.Lib.ItoaLen
import Derived.Lib.AtoiAllCases
import Derived.Lib.ParseIntBTie
import Derived.Test.YtmpeogpmlgnmfaaGreatDoorDec
import Derived.Lib.SplitLaws
import Derived.Test.YtmpeogpmlgnmfaaGreatDoorLt
import Derived.Laws.Strings2
import Derived.Laws.DeepStrings4
namespace Go.Proofs.YtmpeogpmlgnmfaaGreatDoor
set_option maxRecDepth 100000

def isD (c : UInt8) : Prop := 48 ≤ c.toNat ∧ c.toNat ≤ 57
instance (c : UInt8) : Decidable (isD c) := by unfold isD; infer_instance
/-- the digits read from left to right, what is no digit passed over -/
def rdN : Nat → List UInt8 → Nat
  | a, [] => a
  | a, c :: r => if isD c then rdN (10 * a + (c.toNat - 48)) r else rdN a r
theorem rdN_append (m : List UInt8) : ∀ (l : List UInt8) (a : Nat), rdN a (l ++ m) = rdN (rdN a l) m
  | [], _ => rfl
  | c :: r, a => by
    simp only [List.cons_append, rdN]
    split
    · exact rdN_append m r _
    · exact rdN_append m r _
theorem rdN_snoc_yes (a : Nat) (l : List UInt8) (c : UInt8) (h : isD c) : rdN a (l ++ [c]) = 10 * rdN a l + (c.toNat - 48) := by
  rw [rdN_append]
  simp [rdN, h]
theorem rdN_snoc_no (a : Nat) (l : List UInt8) (c : UInt8) (h : ¬ isD c) : rdN a (l ++ [c]) = rdN a l := by
  rw [rdN_append]
  simp [rdN, h]
theorem rdN_lt' : ∀ (l : List UInt8) (a : Nat), rdN a l < (a + 1) * 10 ^ l.length
  | [], a => by simp [rdN]
  | c :: r, a => by
    simp only [rdN, List.length_cons]
    have e : 10 ^ (r.length + 1) = 10 * 10 ^ r.length := by rw [Nat.pow_succ]; omega
    rw [e, ← Nat.mul_assoc]
    split
    · rename_i h
      have h1 := rdN_lt' r (10 * a + (c.toNat - 48))
      have h2 : (10 * a + (c.toNat - 48) + 1) * 10 ^ r.length ≤ ((a + 1) * 10) * 10 ^ r.length := Nat.mul_le_mul_right _ (by have := h.2; omega)
      omega
    · have h1 := rdN_lt' r a
      have h2 : (a + 1) * 10 ^ r.length ≤ ((a + 1) * 10) * 10 ^ r.length := Nat.mul_le_mul_right _ (by omega)
      omega
theorem rdN_lt (l : List UInt8) (h : l.length ≤ 17) : rdN 0 l < 100000000000000000 := by
  have h1 := rdN_lt' l 0
  have h2 : 10 ^ l.length ≤ 10 ^ 17 := Nat.pow_le_pow_right (by decide) h
  omega
theorem dig_byte (u : Nat) (h : u < 10) : (UInt8.ofNat (48 + u)).toNat = 48 + u := by
  rw [UInt8.toNat_ofNat']
  omega
theorem dec_small (u : Nat) (h : u < 10) : Lib.decDigits u = [UInt8.ofNat (48 + u)] := by rw [Lib.decDigits, dif_pos h]
theorem dec_big (u : Nat) (h : ¬ u < 10) : Lib.decDigits u = Lib.decDigits (u / 10) ++ [UInt8.ofNat (48 + u % 10)] := by rw [Lib.decDigits, dif_neg h]
theorem rdN_dec (u : Nat) : rdN 0 (Lib.decDigits u) = u := by
  induction u using Nat.strongRecOn with
  | _ u ih =>
    by_cases h : u < 10
    · rw [dec_small u h]
      have hb := dig_byte u h
      have hd : isD (UInt8.ofNat (48 + u)) := by unfold isD; omega
      simp only [rdN, hd, if_true]
      omega
    · have hb := dig_byte (u % 10) (by omega)
      rw [dec_big u h, rdN_snoc_yes _ _ _ (by unfold isD; omega), ih (u / 10) (by omega), hb]
      omega
theorem parse_snoc (c : UInt8) : ∀ (l : List UInt8) (a u : Nat), Lib.parseUint10 a l = .ok u → Lib.parseUint10 a (l ++ [c]) = Lib.parseUint10 u [c]
  | [], a, u, h => by cases h; rfl
  | x :: r, a, u, h => by
    simp only [List.cons_append, Lib.parseUint10] at h ⊢
    split at h
    · rename_i hd
      rw [if_pos hd]
      split at h
      · cases h
      · rename_i h1
        rw [if_neg h1]
        split at h
        · cases h
        · rename_i h2
          rw [if_neg h2]
          have := parse_snoc c r _ u h
          simpa [Lib.parseUint10] using this
    · cases h
theorem parse_dec (u : Nat) (hu : u ≤ 1000000000000000) : Lib.parseUint10 0 (Lib.decDigits u) = .ok u := by
  induction u using Nat.strongRecOn with
  | _ u ih =>
    by_cases h : u < 10
    · have hb := dig_byte u h
      rw [dec_small u h]
      simp only [Lib.parseUint10]
      rw [if_pos (by omega), if_neg (by omega), if_neg (by omega)]
      congr 1
      omega
    · have hb := dig_byte (u % 10) (by omega)
      rw [dec_big u h, parse_snoc _ _ _ _ (ih (u / 10) (by omega) (by omega))]
      simp only [Lib.parseUint10]
      rw [if_pos (by omega), if_neg (by omega), if_neg (by omega)]
      congr 1
      omega
theorem dec_digs (u : Nat) : ∀ c ∈ Lib.decDigits u, isD c := by
  induction u using Nat.strongRecOn with
  | _ u ih =>
    intro c hc
    by_cases h : u < 10
    · rw [dec_small u h] at hc
      have hb := dig_byte u h
      obtain rfl : c = UInt8.ofNat (48 + u) := by simpa using hc
      unfold isD; omega
    · rw [dec_big u h] at hc
      have hb := dig_byte (u % 10) (by omega)
      rcases List.mem_append.1 hc with h1 | h1
      · exact ih (u / 10) (by omega) c h1
      · obtain rfl : c = UInt8.ofNat (48 + u % 10) := by simpa using h1
        unfold isD; omega
theorem dec_ne (u : Nat) : ∃ c r, Lib.decDigits u = c :: r := by
  have h := Lib.decDigits_length u
  have h1 := Lib.nDigits_pos u
  cases e : Lib.decDigits u with
  | nil => rw [e] at h; simp at h; omega
  | cons c r => exact ⟨c, r, rfl⟩
theorem nDigits_le : ∀ (k u : Nat), u < 10 ^ (k + 1) → Lib.nDigits u ≤ k + 1
  | 0, u, h => by rw [Lib.nDigits_small (by simpa using h)]; omega
  | k + 1, u, h => by
    by_cases h1 : u < 10
    · rw [Lib.nDigits_small h1]; omega
    · rw [Lib.nDigits_big h1]
      have := nDigits_le k (u / 10) (by rw [Nat.pow_succ] at h; omega)
      omega
/-- a text is the decimal of a value -/
def rdOk (l : List UInt8) (v : Int) : Prop := okV v ∧ Lib.itoa v = l
/-- the number that a text's digits give, with its sign -/
def rdV (l : List UInt8) : Int := if l.head? = some 45 then -(rdN 0 l : Int) else (rdN 0 l : Int)
theorem okV_iff {v : Int} : okV v ↔ -1000000000000000 ≤ v ∧ v ≤ 1000000000000000 := by
  unfold okV Flt.inB
  simp
theorem rdOk_facts {l : List UInt8} {v : Int} (h : rdOk l v) : Lib.parseIntB 64 l = .ok v ∧ rdV l = v ∧ 1 ≤ l.length ∧ l.length ≤ 17 := by
  obtain ⟨hv, rfl⟩ := h
  rw [okV_iff] at hv
  rw [Lib.parseIntB_64]
  by_cases hn : v < 0
  · obtain ⟨u, rfl⟩ : ∃ u : Nat, v = -(u : Int) := ⟨v.natAbs, by omega⟩
    have hl := Lib.decDigits_length u
    have h16 := nDigits_le 15 u (by omega)
    obtain ⟨c, r, e⟩ := dec_ne u
    rw [Lib.itoa_neg u (by omega), Lib.atoiAll_minus]
    refine ⟨?_, ?_, ?_, ?_⟩
    · unfold Lib.parseMag
      rw [if_neg (by rw [e]; simp), parse_dec u (by omega)]
      simp only [Lib.signed]
      rw [if_neg (by omega)]
    · have h45 : ¬ isD 45 := by decide
      simp only [rdV, List.head?_cons, if_true, rdN, h45, if_false, rdN_dec]
    · simp
    · simp; omega
  · obtain ⟨u, rfl⟩ : ∃ u : Nat, v = (u : Int) := ⟨v.toNat, by omega⟩
    have hl := Lib.decDigits_length u
    have h16 := nDigits_le 15 u (by omega)
    obtain ⟨c, r, e⟩ := dec_ne u
    have hc : isD c := dec_digs u c (by rw [e]; simp)
    have hp := parse_dec u (by omega)
    have hr := rdN_dec u
    rw [Lib.itoa_nonneg]
    rw [e] at hl hp hr ⊢
    have h45 : c ≠ 45 := by rintro rfl; revert hc; decide
    refine ⟨?_, ?_, by simp, by omega⟩
    · rw [Lib.atoiAll_plain c r (by have := hc.1; omega) (by have := hc.1; omega)]
      unfold Lib.parseMag
      rw [if_neg (by simp), hp]
      simp only [Lib.signless]
      rw [if_neg (by omega)]
    · unfold rdV
      rw [if_neg (by simpa using h45), hr]
/-- the answer: the value whose decimal the text is, or none -/
def rdR (l : List UInt8) : Option Int := if okV (rdV l) ∧ Lib.itoa (rdV l) = l then some (rdV l) else none
theorem rdR_yes {l : List UInt8} {v : Int} (h : rdOk l v) : rdR l = some v := by
  have e := (rdOk_facts h).2.1
  unfold rdR
  rw [e]
  exact if_pos h
theorem rdR_no {l : List UInt8} (h : ¬ rdOk l (rdV l)) : rdR l = none := by
  exact if_neg h
theorem rdR_len {l : List UInt8} (h : l.length < 1 ∨ 17 < l.length) : rdR l = none :=
  rdR_no fun hh => by have := rdOk_facts hh; omega
theorem rdR_parse {l : List UInt8} (h : ∀ v, Lib.parseIntB 64 l = .ok v → ¬ rdOk l v) : rdR l = none :=
  rdR_no fun hh => h _ (rdOk_facts hh).1 hh
open Go in
/-- the answer's two values -/
def rdT : Option Int → Value
  | some v => .tuple #[.int .i64 v, .bool true]
  | none => .tuple #[.int .i64 0, .bool false]
end Go.Proofs.YtmpeogpmlgnmfaaGreatDoor
/- The reference's reading of a decimal. -/
namespace Go.Proofs.YtmpeogpmlgnmfaaGreatDoor
set_option maxRecDepth 100000
open Go.RowKit Go.Deep Flt

theorem take_one_more (s : ByteArray) (k : Nat) (h : k < s.size) : s.data.toList.take (k + 1) = s.data.toList.take k ++ [s[k]] := by
  rw [List.take_succ_eq_append_getElem (by simpa using h)]; rfl
theorem rd_step_yes {s : ByteArray} {k N : Nat} (h : k < s.size) (hN : N = rdN 0 (s.data.toList.take k)) (h1 : 48 ≤ (s[k].toNat : Int)) (h2 : (s[k].toNat : Int) ≤ 57) :
    ((rdN 0 (s.data.toList.take (k + 1)) : Nat) : Int) = 10 * (N : Int) + ((s[k].toNat : Int) - 48) := by
  rw [take_one_more s k h, rdN_snoc_yes _ _ _ (by unfold isD; omega), ← hN]
  omega
theorem rd_step_no {s : ByteArray} {k N : Nat} (h : k < s.size) (hN : N = rdN 0 (s.data.toList.take k)) (h1 : (s[k].toNat : Int) < 48 ∨ 57 < (s[k].toNat : Int)) :
    rdN 0 (s.data.toList.take (k + 1)) = N := by
  rw [take_one_more s k h, rdN_snoc_no _ _ _ (by unfold isD; omega), ← hN]
theorem rd_head (s : ByteArray) (h : 0 < s.size) : s.data.toList.head? = some s[0] := by
  rw [List.head?_eq_getElem?, List.getElem?_eq_getElem (by simpa using h)]
  rfl
theorem rd_neg {s : ByteArray} (h : 0 < s.size) (h45 : (s[0].toNat : Int) = 45) : rdV s.data.toList = -(rdN 0 s.data.toList : Int) := by
  unfold rdV
  rw [rd_head s h, if_pos]
  congr 1
  exact UInt8.toNat_inj.1 (show s[0].toNat = 45 by omega)
theorem rd_pos {s : ByteArray} (h : 0 < s.size) (h45 : ¬ (s[0].toNat : Int) = 45) : rdV s.data.toList = (rdN 0 s.data.toList : Int) := by
  unfold rdV
  rw [rd_head s h, if_neg]
  intro e
  have e1 : s[0] = 45 := by simpa using e
  rw [e1] at h45
  exact h45 rfl
theorem str_eq (s : ByteArray) (x : List UInt8) (h : x = s.data.toList) : ((⟨x.toArray⟩ : ByteArray).toList == s.toList) = true := by
  rw [ByteArray.toList_mk, ByteArray.toList_eq, h]
  simp
theorem str_ne (s : ByteArray) (x : List UInt8) (h : ¬ x = s.data.toList) : ((⟨x.toArray⟩ : ByteArray).toList == s.toList) = false := by
  rw [ByteArray.toList_mk, ByteArray.toList_eq]
  simpa using h
theorem str_eq' (s : ByteArray) (x : List UInt8) (h : x = s.data.toList) : (x == s.toList) = true := by
  rw [ByteArray.toList_eq, h]
  simp
theorem str_ne' (s : ByteArray) (x : List UInt8) (h : ¬ x = s.data.toList) : (x == s.toList) = false := by
  rw [ByteArray.toList_eq]
  simpa using h
end Go.Proofs.YtmpeogpmlgnmfaaGreatDoor
/- The plain law of cutting a text at its commas. -/
namespace Go.Proofs.YtmpeogpmlgnmfaaGreatDoor
set_option maxRecDepth 100000

/-- a text cut at its commas -/
def cutL : List UInt8 → List (List UInt8)
  | [] => [[]]
  | c :: r => if c = 44 then [] :: cutL r else
    match cutL r with
    | [] => [[c]]
    | p :: ps => (c :: p) :: ps
theorem cutL_yes (r : List UInt8) : cutL (44 :: r) = [] :: cutL r := by simp [cutL]
theorem cutL_no {c : UInt8} {r p : List UInt8} {ps : List (List UInt8)} (h : c ≠ 44) (e : cutL r = p :: ps) : cutL (c :: r) = (c :: p) :: ps := by
  simp [cutL, h, e]
theorem cutL_end : ∀ (a : List UInt8), (∀ c ∈ a, c ≠ 44) → cutL a = [a]
  | [], _ => rfl
  | c :: r, h => cutL_no (h c (by simp)) (cutL_end r fun x hx => h x (by simp [hx]))
theorem cutL_hit (b : List UInt8) : ∀ (a : List UInt8), (∀ c ∈ a, c ≠ 44) → cutL (a ++ 44 :: b) = a :: cutL b
  | [], _ => cutL_yes b
  | c :: r, h => cutL_no (h c (by simp)) (cutL_hit b r fun x hx => h x (by simp [hx]))
theorem cutL_ne (l : List UInt8) : ∃ p ps, cutL l = p :: ps := by
  cases l with
  | nil => exact ⟨_, _, rfl⟩
  | cons c r =>
    unfold cutL
    split
    · exact ⟨_, _, rfl⟩
    · split
      · exact ⟨_, _, rfl⟩
      · exact ⟨_, _, rfl⟩
theorem cutL_piece : ∀ (l : List UInt8), ∀ p ∈ cutL l, p.length ≤ l.length
  | [], p, h => by
    obtain rfl : p = [] := by simpa [cutL] using h
    simp
  | c :: r, p, h => by
    by_cases hc : c = 44
    · subst hc
      rw [cutL_yes] at h
      rcases List.mem_cons.1 h with rfl | h1
      · simp
      · have := cutL_piece r p h1
        simp; omega
    · obtain ⟨q, qs, e⟩ := cutL_ne r
      rw [cutL_no hc e] at h
      rcases List.mem_cons.1 h with rfl | h1
      · have := cutL_piece r q (by rw [e]; simp)
        simp; omega
      · have := cutL_piece r p (by rw [e]; simp [h1])
        simp; omega
theorem cutL_count : ∀ (l : List UInt8), (cutL l).length ≤ l.length + 1
  | [] => by simp [cutL]
  | c :: r => by
    have ih := cutL_count r
    by_cases hc : c = 44
    · subst hc
      rw [cutL_yes]
      simp; omega
    · obtain ⟨q, qs, e⟩ := cutL_ne r
      rw [cutL_no hc e]
      rw [e] at ih
      simp at ih ⊢
      omega
theorem index_comma_yes (r : List UInt8) : Lib.index (44 :: r) [44] = 0 := by rw [Lib.index]; simp [List.isPrefixOf]
theorem index_comma_no {c : UInt8} (r : List UInt8) (h : c ≠ 44) : Lib.index (c :: r) [44] = if Lib.index r [44] == -1 then -1 else Lib.index r [44] + 1 := by
  have hp : ([44] : List UInt8).isPrefixOf (c :: r) = false := by simp [List.isPrefixOf, Ne.symm h]
  rw [Lib.index, hp]
  simp
theorem split_cut : ∀ (l : List UInt8), Lib.splitK [44] 0 (Lib.count l [44]) l = cutL l
  | [] => by
    rw [Lib.count_miss (by simp [Lib.index])]
    rfl
  | c :: r => by
    have ih := split_cut r
    by_cases hc : c = 44
    · subst hc
      rw [Lib.count_cons_eq, Nat.add_comm, Lib.splitK, index_comma_yes, cutL_yes, ← ih]
      simp
    · rw [Lib.count_cons_ne c 44 r hc]
      by_cases hm : Lib.index r [44] = -1
      · rw [Lib.count_miss hm] at ih ⊢
        exact (cutL_no hc ih.symm).symm
      · have hge := Lib.index_ge r [44]
        obtain ⟨j, hj⟩ : ∃ j : Nat, Lib.index r [44] = j := ⟨(Lib.index r [44]).toNat, by omega⟩
        have hj1 : Lib.index (c :: r) [44] = ((j + 1 : Nat) : Int) := by
          rw [index_comma_no r hc, if_neg (fun e => hm (beq_iff_eq.1 e)), hj]
          omega
        rw [Lib.count_hit (by simp) hj, Nat.add_comm] at ih ⊢
        have n1 : ¬ ((j : Int) == -1) = true := fun e => by have := beq_iff_eq.1 e; omega
        have n2 : ¬ (((j + 1 : Nat) : Int) == -1) = true := fun e => by have := beq_iff_eq.1 e; omega
        rw [Lib.splitK, hj, if_neg n1] at ih
        rw [Lib.splitK, hj1, if_neg n2, cutL_no hc ih.symm]
        simp
/-- the texts in a list's text: none in 'none' -/
def ptsL (l : List UInt8) : List (List UInt8) := if l = [110, 111, 110, 101] then [] else cutL l
def pt (l : List UInt8) (i : Nat) : List UInt8 := (ptsL l).getD i []
theorem pt_len (l : List UInt8) (i : Nat) : (pt l i).length ≤ l.length := by
  unfold pt ptsL
  split
  · simp
  · rw [List.getD_eq_getElem?_getD]
    by_cases h : i < (cutL l).length
    · rw [List.getElem?_eq_getElem h]
      exact cutL_piece l _ (List.getElem_mem h)
    · rw [List.getElem?_eq_none (by omega)]
      simp
def nPt (l : List UInt8) : Nat := (ptsL l).length
/-- each of the texts is a value's decimal, and there are few -/
def lrOk (l : List UInt8) : Bool := decide (∀ i, i < nPt l → (rdR (pt l i)).isSome = true) && decide (nPt l ≤ 64)
def lrV (l : List UInt8) (i : Nat) : Int := (rdR (pt l i)).getD 0
def lrN (l : List UInt8) : Nat := if lrOk l then nPt l else 0
theorem lrOk_bad {l : List UInt8} {k : Nat} (hk : k < nPt l) (h : rdR (pt l k) = none) : lrOk l = false := by
  unfold lrOk
  rw [Bool.and_eq_false_iff]
  exact .inl (by rw [decide_eq_false_iff_not]; exact fun hh => by have := hh k hk; rw [h] at this; cases this)
theorem lrOk_many {l : List UInt8} (h : 64 < nPt l) : lrOk l = false := by
  unfold lrOk
  rw [Bool.and_eq_false_iff]
  exact .inr (by rw [decide_eq_false_iff_not]; omega)
theorem lrOk_yes {l : List UInt8} (h : ∀ i, i < nPt l → (rdR (pt l i)).isSome = true) (h2 : nPt l ≤ 64) : lrOk l = true := by
  unfold lrOk
  rw [decide_eq_true h, decide_eq_true h2]
  rfl
theorem lrN_le (l : List UInt8) : lrN l ≤ 64 := by
  unfold lrN
  split
  · rename_i h
    unfold lrOk at h
    simp at h
    omega
  · omega
end Go.Proofs.YtmpeogpmlgnmfaaGreatDoor
/- The reference's reading of a list: the text cut at its commas, each piece read. -/
namespace Go.Proofs.YtmpeogpmlgnmfaaGreatDoor
set_option maxRecDepth 100000
open Go.RowKit Go.Deep Flt

/-- the pieces of a text in a slice of strings -/
def PartsAt (w : World) (v : Value) (l : List UInt8) : Prop :=
  (nPt l = 0 ∧ v = .slice none 0 0) ∨ ∃ g cap, v = .slice (some ⟨g, 0, none⟩) (nPt l) cap ∧ ∀ i, i < nPt l → w.cell? ⟨g, i, none⟩ = some (.string ⟨(pt l i).toArray⟩)
/-- where the cutting stands: k pieces laid, the next begins at st, the place is i -/
def CutInv (l : List UInt8) (k st i : Nat) : Prop :=
  k ≤ st ∧ ((st ≤ i ∧ i ≤ l.length ∧ (cutL l).drop k = cutL (l.drop st) ∧ ∀ c ∈ (l.drop st).take (i - st), c ≠ 44) ∨ (i = l.length + 1 ∧ st ≤ l.length + 1 ∧ k = (cutL l).length))
def cutP (l : List UInt8) (j : Nat) : List UInt8 := (cutL l).getD j []
theorem drop_getD {α : Type} (d : α) {a : α} {xs ys : List α} {k : Nat} (h : xs.drop k = a :: ys) : xs.getD k d = a ∧ xs.drop (k + 1) = ys ∧ k < xs.length := by
  have hk : k < xs.length := by
    rcases Nat.lt_or_ge k xs.length with h1 | h1
    · exact h1
    · rw [List.drop_eq_nil_of_le h1] at h; cases h
  rw [List.drop_eq_getElem_cons hk] at h
  injection h with h1 h2
  refine ⟨?_, h2, hk⟩
  rw [List.getD_eq_getElem?_getD, List.getElem?_eq_getElem hk]
  exact h1
theorem CutInv.last {l : List UInt8} {k st : Nat} (h : CutInv l k st l.length) : CutInv l (k + 1) (l.length + 1) (l.length + 1) ∧ cutP l k = (l.drop st).take (l.length - st) ∧ st ≤ l.length := by
  obtain ⟨hk, ⟨h1, _, h3, h4⟩ | ⟨h1, _⟩⟩ := h
  · have e : (l.drop st).take (l.length - st) = l.drop st := List.take_of_length_le (by simp)
    rw [e] at h4 ⊢
    rw [cutL_end _ h4] at h3
    obtain ⟨a1, a2, a3⟩ := drop_getD [] h3
    refine ⟨⟨by omega, .inr ⟨rfl, Nat.le_refl _, ?_⟩⟩, a1, h1⟩
    have := congrArg List.length a2
    simp at this
    omega
  · omega
theorem CutInv.hit {l : List UInt8} {k st i : Nat} (h : CutInv l k st i) (hi : i < l.length) (hc : l[i] = 44) : CutInv l (k + 1) (i + 1) (i + 1) ∧ cutP l k = (l.drop st).take (i - st) ∧ st ≤ i := by
  obtain ⟨hk, ⟨h1, _, h3, h4⟩ | ⟨h1, _⟩⟩ := h
  · have e : l.drop st = (l.drop st).take (i - st) ++ 44 :: l.drop (i + 1) := by
      have e1 : (l.drop st).drop (i - st) = l.drop i := by rw [List.drop_drop]; congr 1; omega
      have e2 : l.drop i = 44 :: l.drop (i + 1) := by rw [List.drop_eq_getElem_cons hi, hc]
      rw [← e2, ← e1, List.take_append_drop]
    rw [e, cutL_hit _ _ h4] at h3
    obtain ⟨a1, a2, a3⟩ := drop_getD [] h3
    refine ⟨⟨by omega, .inl ⟨Nat.le_refl _, by omega, a2, by simp⟩⟩, a1, h1⟩
  · omega
theorem CutInv.miss {l : List UInt8} {k st i : Nat} (h : CutInv l k st i) (hi : i < l.length) (hc : l[i] ≠ 44) : CutInv l k st (i + 1) := by
  obtain ⟨hk, ⟨h1, _, h3, h4⟩ | ⟨h1, _⟩⟩ := h
  · refine ⟨hk, .inl ⟨by omega, by omega, h3, ?_⟩⟩
    have e : i + 1 - st = (i - st) + 1 := by omega
    have hlt : i - st < (l.drop st).length := by simp; omega
    rw [e, List.take_succ_eq_append_getElem hlt]
    intro c hm
    rcases List.mem_append.1 hm with h5 | h5
    · exact h4 c h5
    · obtain rfl : c = (l.drop st)[i - st] := by simpa using h5
      have e2 : (l.drop st)[i - st] = l[i] := by
        rw [List.getElem_drop]
        congr 1
        omega
      rw [e2]
      exact hc
  · omega
theorem extract_piece (s : ByteArray) (a b : Nat) : s.extract a b = ⟨((s.data.toList.drop a).take (b - a)).toArray⟩ := by
  have e : s = ⟨s.data.toList.toArray⟩ := (byteArray_eta s).symm
  rw [e, ByteArray.extract_mk]

/-- none -/
def noneB (s : ByteArray) : Prop := s.data.toList = [110, 111, 110, 101]
theorem none_yes {s : ByteArray} (h : noneB s) : (s.toList == (⟨#[110, 111, 110, 101]⟩ : ByteArray).toList) = true ∧ (s.toList == [110, 111, 110, 101]) = true := by
  unfold noneB at h
  have e : (⟨#[110, 111, 110, 101]⟩ : ByteArray) = ⟨[(110 : UInt8), 111, 110, 101].toArray⟩ := rfl
  rw [e, ByteArray.toList_mk, ByteArray.toList_eq, h]
  exact ⟨by simp, by simp⟩
theorem none_no {s : ByteArray} (h : ¬ noneB s) : (s.toList == (⟨#[110, 111, 110, 101]⟩ : ByteArray).toList) = false ∧ (s.toList == [110, 111, 110, 101]) = false := by
  unfold noneB at h
  have e : (⟨#[110, 111, 110, 101]⟩ : ByteArray) = ⟨[(110 : UInt8), 111, 110, 101].toArray⟩ := rfl
  rw [e, ByteArray.toList_mk, ByteArray.toList_eq]
  exact ⟨by simpa using h, by simpa using h⟩
theorem nPt_none {s : ByteArray} (h : noneB s) : nPt s.data.toList = 0 := by
  unfold nPt ptsL
  rw [if_pos (show s.data.toList = _ from h)]
  rfl
theorem nPt_some {s : ByteArray} (h : ¬ noneB s) : nPt s.data.toList = (cutL s.data.toList).length ∧ ∀ i, pt s.data.toList i = cutP s.data.toList i := by
  unfold nPt pt ptsL cutP
  rw [if_neg (show ¬ s.data.toList = _ from h)]
  exact ⟨rfl, fun _ => rfl⟩
theorem lrOk_none {s : ByteArray} (h : noneB s) : lrOk s.data.toList = true ∧ lrN s.data.toList = 0 := by
  have h0 := nPt_none h
  have h1 : lrOk s.data.toList = true := lrOk_yes (by intro i hi; omega) (by omega)
  refine ⟨h1, ?_⟩
  unfold lrN
  rw [if_pos h1, h0]
/-- a block of strings -/
def SBlk (w : World) (g : Nat) (cur : Array Value) : Prop := ∃ fz, w.heap[g]? = some (.cells cur 9 fz)
theorem SBlk.of_eq {w w' : World} {g : Nat} {cur : Array Value} (h : SBlk w g cur) (e : w'.heap[g]? = w.heap[g]?) : SBlk w' g cur := by
  obtain ⟨fz, h⟩ := h
  exact ⟨fz, e.trans h⟩
theorem SBlk.lt {w : World} {g : Nat} {cur : Array Value} (h : SBlk w g cur) : g < w.heap.size := by
  obtain ⟨fz, h⟩ := h
  exact heap_lt' h
theorem SBlk.below {w w' : World} {g : Nat} {cur : Array Value} (h : SBlk w g cur) (hb : Below w.heap.size w w') : SBlk w' g cur := h.of_eq (hb.block _ h.lt)
theorem SBlk.not_own {w : World} {g B k : Nat} {cur : Array Value} {v : Value} {xs : List Value} (h : SBlk w g cur) (ho : w.ownsRow B 2 1 v k xs) : some g ≠ v.ownBlock := by
  obtain ⟨fz, h⟩ := h
  rcases ho.2 with ⟨rfl, _⟩ | ⟨g', cap, cur', rfl, _, hh, _⟩
  · intro e; cases e
  · intro e
    obtain rfl : g = g' := by simpa [Value.ownBlock] using e
    rw [h] at hh
    cases hh
theorem SBlk.grown {w w' : World} {g B k : Nat} {cur : Array Value} {v : Value} {xs : List Value} {o : Obj} (h : SBlk w g cur) (ho : w.ownsRow B 2 1 v k xs) (hg : (w.alloc o).grownBy w' v.ownBlock) : SBlk w' g cur := by
  have hl := h.lt
  refine h.of_eq ((hg.block g (by simp; omega) (h.not_own ho)).trans (blk_alloc_lt _ _ _ hl))
theorem parts_of_own {w : World} {B : Nat} {v : Value} {s : ByteArray} (hn : ¬ noneB s) (h : SOwn w B v (cutP s.data.toList) (cutL s.data.toList).length) :
    ∃ g cap cur, v = .slice (some ⟨g, 0, none⟩) (nPt s.data.toList) cap ∧ SBlk w g cur ∧ ∀ i, i < nPt s.data.toList → w.cell? ⟨g, i, none⟩ = some (.string ⟨(pt s.data.toList i).toArray⟩) := by
  obtain ⟨h1, h2⟩ := nPt_some hn
  rw [h1]
  rcases h.2 with ⟨rfl, h0⟩ | ⟨g, cap, cur, rfl, _, hh, _⟩
  · obtain ⟨p, ps, e⟩ := cutL_ne s.data.toList
    rw [e] at h0
    simp at h0
  · refine ⟨g, cap, cur, rfl, ⟨_, hh⟩, fun i hi => ?_⟩
    rw [World.ownsRow.cellAt h i (by omega), h2 i]
    simp [hi, strV]
theorem i64_info : (Tryz.prog.info? 2).map (fun i => (i.zero, i.size, i.bytes)) = some (some (.int .i64 0), 1, 8) := by kernel_rfl
/-- a slice of int64 of the call's own: the first k of the values read -/
def VOwn (w : World) (B : Nat) (v : Value) (l : List UInt8) (k : Nat) : Prop := w.ownsRow B 2 1 v k ((List.range k).map fun i => .int .i64 (lrV l i))
theorem VOwn.more {w : World} {B : Nat} {v : Value} {l : List UInt8} {k : Nat} {x : Int} (hx : x = lrV l k) (h : w.ownsRow B 2 1 v (k + 1) (((List.range k).map fun i => .int .i64 (lrV l i)) ++ [.int .i64 x])) : VOwn w B v l (k + 1) := by
  subst hx
  unfold VOwn
  rw [List.range_succ, List.map_append]
  exact h
/-- what both readings of a list give -/
def GaveL (w w' : World) (e : Ending) (s : ByteArray) : Prop :=
  ∃ A c, e = .returned (.tuple #[.slice A (lrN s.data.toList) c, .bool (lrOk s.data.toList)]) ∧ OwnV w' 2 A (lrN s.data.toList) (fun i => .int .i64 (lrV s.data.toList i)) w.heap.size w'.heap.size ∧ Below w.heap.size w w'
end Go.Proofs.YtmpeogpmlgnmfaaGreatDoor
