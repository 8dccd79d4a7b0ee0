/- FnExactIsName: for every string the law returns true: program and reference answer yes just at 1 to 8 letters from a to z. -/
import Derived.Test.YtehohiicecnmeaaBase
import Derived.LoopTactic
namespace Go.Proofs.Ytehohiicecnmeaa.FnExactIsName
open Go.ChangeShapes Go.WideShapes Go.ChangeAt Go.RowKit Flt
open Go.ChangeMaps (open_string shut_string)

def letter (c : UInt8) : Bool := decide (97 ≤ c.toNat) && decide (c.toNat ≤ 122)
/-- a name: 1 to 8 letters -/
def nameB (s : ByteArray) : Bool := s.data.toList.all letter && (decide (1 ≤ (s.size : Int)) && decide ((s.size : Int) ≤ 8))

theorem take_snoc (s : ByteArray) (k : Nat) (h : k < s.size) : s.data.toList.take (k + 1) = s.data.toList.take k ++ [s[k]] := by
  rw [List.take_succ_eq_append_getElem (by simpa using h)]; rfl
theorem all_snoc {s : ByteArray} {k : Nat} (h : k < s.size) (ha : (s.data.toList.take k).all letter = true) (h1 : 97 ≤ (s[k].toNat : Int)) (h2 : (s[k].toNat : Int) ≤ 122) :
    (s.data.toList.take (k + 1)).all letter = true := by
  rw [take_snoc s k h, List.all_append, ha]
  simp [letter]; omega
theorem name_no {s : ByteArray} {k : Nat} (h : k < s.size) (hc : (s[k].toNat : Int) < 97 ∨ 122 < (s[k].toNat : Int)) : nameB s = false := by
  unfold nameB
  have : s.data.toList.all letter = false := by
    rw [List.all_eq_false]
    refine ⟨s[k], ?_, ?_⟩
    · show s.data[k] ∈ s.data.toList
      simp
    · simp [letter]; omega
  rw [this]; rfl
theorem name_end {s : ByteArray} {k : Nat} (h : ¬ k < s.size) (hk : k ≤ s.size) (ha : (s.data.toList.take k).all letter = true) : nameB s = (decide (1 ≤ (s.size : Int)) && decide ((s.size : Int) ≤ 8)) := by
  have : k = s.data.toList.length := by simp; have : s.size = s.data.size := rfl; omega
  rw [this, List.take_length] at ha
  unfold nameB; rw [ha]; rfl

set_option maxHeartbeats 400000 in
theorem nameS (s : ByteArray) (w : World) (hs : s.size ≤ maxLen) :
    Calls Try.prog 22 #[.string s] w fun e w' => e = .returned (.bool (nameB s)) ∧ w = w' := by
  unfold maxLen at hs
  go_enter Try.func22, Try.ntmps22
  go_wp2
  go_loop [3] (fun i => ∃ k : Nat, k ≤ s.size ∧ i = .int .i64 k ∧ (s.data.toList.take k).all letter = true) (fun i => s.size - (intOf i).toNat)
  case atStart => exact ⟨0, Nat.zero_le _, rfl, rfl⟩
  case round =>
    obtain ⟨k, hk, rfl, ha⟩ := hrel
    by_cases hlt : k < s.size
    · by_cases h1 : (s[k].toNat : Int) < 97
      · have Hn := Lib.hid (name_no hlt (.inl h1))
        have Ha := Lib.hid ha
        clear ha
        go_wp2
        go_ret
        exact ⟨by rw [Hn.out]; rfl, rfl⟩
      · by_cases h2 : 122 < (s[k].toNat : Int)
        · have Hn := Lib.hid (name_no hlt (.inr h2))
          have Ha := Lib.hid ha
          clear ha
          go_wp2
          go_ret
          exact ⟨by rw [Hn.out]; rfl, rfl⟩
        · have Hn := Lib.hid (all_snoc hlt ha (by omega) (by omega))
          have Ha := Lib.hid ha
          clear ha
          go_wp2
          go_round
          case rel => exact ⟨k + 1, by omega, by go_num, Hn.out⟩
          case measure => simp [intOf]; omega
    · have Hn := Lib.hid (name_end hlt hk ha)
      have Ha := Lib.hid ha
      clear ha
      by_cases h1 : (1 : Int) ≤ s.size
      · go_wp2
        go_ret
        exact ⟨by rw [Hn.out, decide_eq_true h1]; rfl, rfl⟩
      · have h0 : decide ((1 : Int) ≤ s.size) = false := by simp; omega
        have H0 := Lib.hid h0
        go_wp2
        go_ret
        exact ⟨by rw [Hn.out, H0.out]; rfl, rfl⟩

set_option maxHeartbeats 400000 in
theorem nameI (s : ByteArray) (w : World) (hs : s.size ≤ maxLen) :
    Calls Try.prog 23 #[.string s] w fun e w' => e = .returned (.bool (nameB s)) ∧ w = w' := by
  unfold maxLen at hs
  go_enter Try.func23, Try.ntmps23
  go_wp2
  go_loop [6] (fun i => ∃ k : Nat, k ≤ s.size ∧ i = .int .i64 k ∧ (s.data.toList.take k).all letter = true) (fun i => s.size - (intOf i).toNat)
  case atStart => exact ⟨0, Nat.zero_le _, rfl, rfl⟩
  case round =>
    obtain ⟨k, hk, rfl, ha⟩ := hrel
    by_cases hlt : k < s.size
    · by_cases h1 : (s[k].toNat : Int) < 97
      · have Hn := Lib.hid (name_no hlt (.inl h1))
        have Ha := Lib.hid ha
        clear ha
        go_wp2
        go_ret
        exact ⟨by rw [Hn.out]; rfl, rfl⟩
      · by_cases h2 : 122 < (s[k].toNat : Int)
        · have Hn := Lib.hid (name_no hlt (.inr h2))
          have Ha := Lib.hid ha
          clear ha
          go_wp2
          go_ret
          exact ⟨by rw [Hn.out]; rfl, rfl⟩
        · have Hn := Lib.hid (all_snoc hlt ha (by omega) (by omega))
          have Ha := Lib.hid ha
          clear ha
          go_wp2
          go_round
          case rel => exact ⟨k + 1, by omega, by go_num, Hn.out⟩
          case measure => simp [intOf]; omega
    · have Hn := Lib.hid (name_end hlt hk ha)
      have Ha := Lib.hid ha
      clear ha
      by_cases h1 : (1 : Int) ≤ s.size
      · go_wp2
        go_ret
        exact ⟨by rw [Hn.out, decide_eq_true h1]; rfl, rfl⟩
      · have h0 : decide ((1 : Int) ≤ s.size) = false := by simp; omega
        have H0 := Lib.hid h0
        go_wp2
        go_ret
        exact ⟨by rw [Hn.out, H0.out]; rfl, rfl⟩

theorem walk (s : ByteArray) (w : World) (hs : s.size ≤ maxLen) :
    Calls Try.prog 7 #[.string s] w fun e w' => e = .returned (.bool true) ∧ Below w.heap.size w w' := by
  by_cases h : (s.size : Int) > 1048576
  · go_enter Try.func7, Try.ntmps7
    go_wp2
    go_ret
    exact ⟨rfl, Below.refl _ _⟩
  · go_enter Try.func7, Try.ntmps7
    go_wp2_with (first | (go_at_call 22; refine (nameS _ _ hs).mono ?_; rintro e w' ⟨rfl, rfl⟩) | (go_at_call 23; refine (nameI _ _ hs).mono ?_; rintro e w' ⟨rfl, rfl⟩))
    go_ret
    exact ⟨rfl, Below.refl _ _⟩

set_option maxRecDepth 100000 in
theorem lifted (os : Os) (started : os.Started) (H : Type) (enc : TypeId × Value → H) :
    ReturnsInHanded {} Try.checked os 7 .any (Rows.fnExactIsNameSpec.pre6 enc Try.prog Try.f7 Rows.fnExactIsNameRow.domain false) (Rows.fnExactIsNameSpec.post enc Try.prog Try.f7 false true false false) := by
  refine returnsInHanded_of_change (C := Try.checked) own started (by kernel_rfl) Try.func7
    (ChangeSpec.witness6 (enc := enc) (C := Try.checked) false ⟨#[], #[.string ByteArray.empty], []⟩ 8 (by kernel_rfl) (by kernel_rfl) (by kernel_rfl) (by kernel_rfl)) ?_
  intro W base args ds gs before hval0 hW hcnd _
  have hval : ∀ (j : Nat) t v, Try.f7.params[j]? = some t → args[j]? = some v → Value.okWide Try.prog W .any base t v := hval0
  have hW' := hW
  obtain ⟨p, q, hA0, hV, rfl, hfz, hnd⟩ := hW
  have hA : DataW.TrodAll enc Try.prog W 0 (fun _ => true) true Try.f7.params.toList args.toList ds p := hA0
  rw [Try.params7] at hA hval
  obtain ⟨v0, vs0, d0, ds0, p0, q0, hargs, rfl, rfl, h0, r0⟩ := trodAll_cons hA
  obtain ⟨rfl, rfl, rfl⟩ := trodAll_nil r0
  obtain rfl : args = #[v0] := by cases args; simp_all
  obtain ⟨rfl, rfl⟩ := trodVars_none hV
  have k0 := h0
  have lt0 : ∀ x ∈ p0, x.block < W.heap.size := by obtain ⟨m, hm⟩ := k0; exact DataW.trod_lt m _ _ _ hm
  obtain ⟨a0, rfl, rfl, rfl, w0⟩ := open_string Try.underlying9 (hval 0 9 v0 rfl rfl) h0
  clear hA0 hval0
  refine (walk a0 W w0).mono fun e W' ⟨he, bel⟩ => ?_
  subst he
  exact ⟨_, rfl, _, _, _, [], _, [], hW', trodAll_mk1 (shut_bool Try.underlying4 _), (trodAll_cons_mk (Below.trod laidOut (by kernel_rfl) (of_decide_eq_true (by kernel_rfl)) k0 bel lt0) trodAll_mk0), rfl, bel.frame _, fun h => by cases h⟩

theorem over : Rows.fnExactIsNameRow.holds Try.pinned (OpenSpec.ofChange Rows.fnExactIsNameSpec) :=
  OpenClaim.holds_of_wide 7 Try.f7 rfl rfl rfl rfl rfl rfl rfl ⟨rfl, rfl, rfl, rfl, rfl⟩ rfl rfl rfl rfl rfl (by kernel_rfl) Try.func7 (by kernel_rfl)
    (of_decide_eq_true (by kernel_rfl)) (by unfold Func.isWrapper; first | (rw [if_pos (by decide +kernel)]; kernel_rfl) | (rw [if_neg (by decide +kernel)]; exact ⟨rfl, rfl⟩))
    (fun os started H enc _ => lifted os started H enc)

/-- the statement -/
theorem proved : Rows.FnExactIsNameSaid := over
end Go.Proofs.Ytehohiicecnmeaa.FnExactIsName
