/- The reference's reading of a decimal. -/
import Derived.Test.YtmpeogpmlgnmfaaDoorRdL
import Derived.Test.YtmpeogpmlgnmfaaDoorDec
namespace Go.Proofs.YtmpeogpmlgnmfaaDoor
open Go.RowKit Go.Deep Flt

theorem take_one_more (s : ByteArray) (k : Nat) (h : k < s.size) : s.data.toList.take (k + 1) = s.data.toList.take k ++ [s[k]] := by
  rw [List.take_succ_eq_append_getElem (by simpa using h)]; rfl
theorem rd_step_yes {s : ByteArray} {k N : Nat} (h : k < s.size) (hN : N = rdN 0 (s.data.toList.take k)) (h1 : 48 ≤ (s[k].toNat : Int)) (h2 : (s[k].toNat : Int) ≤ 57) :
    ((rdN 0 (s.data.toList.take (k + 1)) : Nat) : Int) = 10 * (N : Int) + ((s[k].toNat : Int) - 48) := by
  rw [take_one_more s k h, rdN_snoc_yes _ _ _ (by unfold isD; omega), ← hN]
  omega
theorem rd_step_no {s : ByteArray} {k N : Nat} (h : k < s.size) (hN : N = rdN 0 (s.data.toList.take k)) (h1 : (s[k].toNat : Int) < 48 ∨ 57 < (s[k].toNat : Int)) :
    rdN 0 (s.data.toList.take (k + 1)) = N := by
  rw [take_one_more s k h, rdN_snoc_no _ _ _ (by unfold isD; omega), ← hN]
theorem rd_head (s : ByteArray) (h : 0 < s.size) : s.data.toList.head? = some s[0] := by
  rw [List.head?_eq_getElem?, List.getElem?_eq_getElem (by simpa using h)]
  rfl
theorem rd_neg {s : ByteArray} (h : 0 < s.size) (h45 : (s[0].toNat : Int) = 45) : rdV s.data.toList = -(rdN 0 s.data.toList : Int) := by
  unfold rdV
  rw [rd_head s h, if_pos]
  congr 1
  exact UInt8.toNat_inj.1 (show s[0].toNat = 45 by omega)
theorem rd_pos {s : ByteArray} (h : 0 < s.size) (h45 : ¬ (s[0].toNat : Int) = 45) : rdV s.data.toList = (rdN 0 s.data.toList : Int) := by
  unfold rdV
  rw [rd_head s h, if_neg]
  intro e
  have e1 : s[0] = 45 := by simpa using e
  rw [e1] at h45
  exact h45 rfl
theorem str_eq (s : ByteArray) (x : List UInt8) (h : x = s.data.toList) : ((⟨x.toArray⟩ : ByteArray).toList == s.toList) = true := by
  rw [ByteArray.toList_mk, ByteArray.toList_eq, h]
  simp
theorem str_ne (s : ByteArray) (x : List UInt8) (h : ¬ x = s.data.toList) : ((⟨x.toArray⟩ : ByteArray).toList == s.toList) = false := by
  rw [ByteArray.toList_mk, ByteArray.toList_eq]
  simpa using h
theorem str_eq' (s : ByteArray) (x : List UInt8) (h : x = s.data.toList) : (x == s.toList) = true := by
  rw [ByteArray.toList_eq, h]
  simp
theorem str_ne' (s : ByteArray) (x : List UInt8) (h : ¬ x = s.data.toList) : (x == s.toList) = false := by
  rw [ByteArray.toList_eq]
  simpa using h
set_option maxHeartbeats 1000000 in
theorem l01Value_any (s : ByteArray) (w : World) (hs : s.size ≤ 1048576) :
    Calls Tryd.prog 46 #[.string s] w fun e w' => e = .returned (rdT (rdR s.data.toList)) ∧ Below w.heap.size w w' := by
  have hlen : s.data.toList.length = s.size := by simp
  by_cases h1 : (s.size : Int) < 1
  · have HR := Lib.hid (rdR_len (l := s.data.toList) (by omega))
    go_enter Tryd.func46, Tryd.ntmps46
    go_wp2
    go_ret2
    exact ⟨by rw [HR.out]; rfl, Below.refl _ _⟩
  by_cases h2 : (s.size : Int) > 17
  · have HR := Lib.hid (rdR_len (l := s.data.toList) (by omega))
    go_enter Tryd.func46, Tryd.ntmps46
    go_wp2
    go_ret2
    exact ⟨by rw [HR.out]; rfl, Below.refl _ _⟩
  have h0 : 0 < s.size := by omega
  have h0' : (0 : Int) < (s.size : Int) := by omega
  have HL := Lib.hid hlen
  clear hlen
  go_enter Tryd.func46, Tryd.ntmps46
  go_wp2
  go_loopw [4, 5] (fun tn ti wx => ∃ k N : Nat, k ≤ s.size ∧ ti = .int .i64 k ∧ tn = .int .i64 (N : Int) ∧ N = rdN 0 (s.data.toList.take k) ∧ wx = w) (fun _ ti _ => s.size - (intOf ti).toNat)
  case atStart => exact ⟨0, 0, Nat.zero_le _, rfl, rfl, rfl, rfl⟩
  case round =>
    obtain ⟨k, N, hk, rfl, rfl, hN, rfl⟩ := hrel
    have hb : N < 100000000000000000 := by
      rw [hN]
      exact rdN_lt _ (by rw [List.length_take]; have := HL.out; omega)
    have HN := Lib.hid hN
    clear hN
    by_cases hlt : k < s.size
    · have hlt' : (k : Int) < (s.size : Int) := by omega
      by_cases d1 : (s[k].toNat : Int) < 48
      · have HE := Lib.hid (rd_step_no hlt HN.out (.inl d1))
        go_wp2
        go_roundw
        case rel => exact ⟨k + 1, N, by omega, by go_num, rfl, HE.out.symm, by first | rfl | trivial⟩
        case measure => simp [intOf]; omega
      by_cases d2 : 57 < (s[k].toNat : Int)
      · have HE := Lib.hid (rd_step_no hlt HN.out (.inr d2))
        go_wp2
        go_roundw
        case rel => exact ⟨k + 1, N, by omega, by go_num, rfl, HE.out.symm, by first | rfl | trivial⟩
        case measure => simp [intOf]; omega
      have d3 : 48 ≤ (s[k].toNat : Int) := by omega
      have d4 : (s[k].toNat : Int) ≤ 57 := by omega
      have HE := Lib.hid (rd_step_yes hlt HN.out d3 d4)
      go_wp2
      go_roundw
      case rel => exact ⟨k + 1, _, by omega, by go_num, congrArg (Value.int .i64) (by rw [HE.out]), rfl, by first | rfl | trivial⟩
      case measure => simp [intOf]; omega
    · obtain rfl : k = s.size := by omega
      have hfull : s.data.toList.take s.size = s.data.toList := List.take_of_length_le (by rw [HL.out]; exact Nat.le_refl _)
      have hN := HN.out
      rw [hfull] at hN
      by_cases h45 : (s[0].toNat : Int) = 45
      · have hv := rd_neg h0 h45
        rw [← hN] at hv
        have h45' : ((s[0].toNat : Int) == 45) = true := by rw [h45]; rfl
        cases hin : inB (-(N : Int)) (-1000000000000000) 1000000000000000
        · have HR := Lib.hid (rdR_no (l := s.data.toList) (fun h => by have := h.1; rw [hv] at this; unfold okV at this; rw [hin] at this; cases this))
          clear HN hN hfull hv
          go_wp2_with (first | (go_at_call 58; refine (l00In_any _ _ _ _).mono ?_; rw [hin]; rintro e w' ⟨rfl, rfl⟩))
          go_ret2
          exact ⟨by rw [HR.out]; rfl, Below.refl _ _⟩
        · have HD := Lib.hid (l01Dec_any (-(N : Int)) wr (by omega) (by omega))
          by_cases heq : Lib.itoa (-(N : Int)) = s.data.toList
          · have HR := Lib.hid (rdR_yes (l := s.data.toList) (v := -(N : Int)) ⟨hin, heq⟩)
            have q1 := str_eq s _ heq
            have q2 := str_eq' s _ heq
            clear HN hN hfull hv heq
            generalize Lib.itoa (-(N : Int)) = x at *
            go_wp2_with (first | (go_at_call 58; refine (l00In_any _ _ _ _).mono ?_; rw [hin]; rintro e w' ⟨rfl, rfl⟩) | (go_at_call 35; refine HD.out.mono ?_; rintro e w' ⟨rfl, hb1⟩; have HB := Lib.hid hb1; clear hb1))
            go_ret2
            exact ⟨by rw [HR.out]; rfl, HB.out⟩
          · have HR := Lib.hid (rdR_no (l := s.data.toList) (fun h => heq (hv ▸ h.2)))
            have q1 := str_ne s _ heq
            have q2 := str_ne' s _ heq
            clear HN hN hfull hv heq
            generalize Lib.itoa (-(N : Int)) = x at *
            go_wp2_with (first | (go_at_call 58; refine (l00In_any _ _ _ _).mono ?_; rw [hin]; rintro e w' ⟨rfl, rfl⟩) | (go_at_call 35; refine HD.out.mono ?_; rintro e w' ⟨rfl, hb1⟩; have HB := Lib.hid hb1; clear hb1))
            go_ret2
            exact ⟨by rw [HR.out]; rfl, HB.out⟩
      · have hv := rd_pos h0 h45
        rw [← hN] at hv
        have h45' : ((s[0].toNat : Int) == 45) = false := by simpa using h45
        cases hin : inB (N : Int) (-1000000000000000) 1000000000000000
        · have HR := Lib.hid (rdR_no (l := s.data.toList) (fun h => by have := h.1; rw [hv] at this; unfold okV at this; rw [hin] at this; cases this))
          clear HN hN hfull hv
          go_wp2_with (first | (go_at_call 58; refine (l00In_any _ _ _ _).mono ?_; rw [hin]; rintro e w' ⟨rfl, rfl⟩))
          go_ret2
          exact ⟨by rw [HR.out]; rfl, Below.refl _ _⟩
        · have HD := Lib.hid (l01Dec_any (N : Int) wr (by omega) (by omega))
          by_cases heq : Lib.itoa (N : Int) = s.data.toList
          · have HR := Lib.hid (rdR_yes (l := s.data.toList) (v := (N : Int)) ⟨hin, heq⟩)
            have q1 := str_eq s _ heq
            have q2 := str_eq' s _ heq
            clear HN hN hfull hv heq
            generalize Lib.itoa (N : Int) = x at *
            go_wp2_with (first | (go_at_call 58; refine (l00In_any _ _ _ _).mono ?_; rw [hin]; rintro e w' ⟨rfl, rfl⟩) | (go_at_call 35; refine HD.out.mono ?_; rintro e w' ⟨rfl, hb1⟩; have HB := Lib.hid hb1; clear hb1))
            go_ret2
            exact ⟨by rw [HR.out]; rfl, HB.out⟩
          · have HR := Lib.hid (rdR_no (l := s.data.toList) (fun h => heq (hv ▸ h.2)))
            have q1 := str_ne s _ heq
            have q2 := str_ne' s _ heq
            clear HN hN hfull hv heq
            generalize Lib.itoa (N : Int) = x at *
            go_wp2_with (first | (go_at_call 58; refine (l00In_any _ _ _ _).mono ?_; rw [hin]; rintro e w' ⟨rfl, rfl⟩) | (go_at_call 35; refine HD.out.mono ?_; rintro e w' ⟨rfl, hb1⟩; have HB := Lib.hid hb1; clear hb1))
            go_ret2
            exact ⟨by rw [HR.out]; rfl, HB.out⟩
theorem readDecS (s : ByteArray) (w : World) (hs : s.size ≤ 1048576) :
    Calls Tryd.prog 20 #[.string s] w fun e w' => e = .returned (rdT (rdR s.data.toList)) ∧ Below w.heap.size w w' := by
  have HC := Lib.hid (l01Value_any s w hs)
  cases hr : rdR s.data.toList
  all_goals
    rw [hr] at HC
    unfold rdT at HC ⊢
    go_enter Tryd.func20, Tryd.ntmps20
    go_wp2_with fail
    refine HC.out.mono ?_
    rintro e w' ⟨rfl, hb⟩
    have HB := Lib.hid hb
    clear hb
    go_wp2
    go_ret2
    exact ⟨rfl, HB.out⟩
end Go.Proofs.YtmpeogpmlgnmfaaDoor
