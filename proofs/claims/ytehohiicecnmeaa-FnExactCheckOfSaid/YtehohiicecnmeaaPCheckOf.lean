/- FnExactCheckOf: for every int64 and string the law returns true: program and reference reckon the check number alike, byte by byte. -/
import Derived.Test.YtehohiicecnmeaaNum
import Derived.LoopTactic
namespace Go.Proofs.Ytehohiicecnmeaa.FnExactCheckOf
open Go.ChangeShapes Go.WideShapes Go.ChangeAt Go.RowKit Flt
open Go.ChangeMaps (open_string shut_string)

def stp (n : Int) (c : UInt8) : Int := (953 * n + c.toNat + 223) % 65003
/-- the check number of a text -/
def chk (n : Int) (l : List UInt8) : Int := l.foldl stp n

theorem take_snoc (s : ByteArray) (k : Nat) (h : k < s.size) : s.data.toList.take (k + 1) = s.data.toList.take k ++ [s[k]] := by
  rw [List.take_succ_eq_append_getElem (by simpa using h)]; rfl
theorem chk_snoc {s : ByteArray} {k : Nat} (h : k < s.size) (n x : Int) (hx : x = chk n (s.data.toList.take k)) : (953 * x + (s[k].toNat : Int) + 223) % 65003 = chk n (s.data.toList.take (k + 1)) := by
  rw [take_snoc s k h]
  unfold chk at *
  rw [List.foldl_append, ← hx]
  rfl
theorem chk_end {s : ByteArray} {k : Nat} (h : ¬ k < s.size) (n x : Int) (hx : x = chk n (s.data.toList.take k)) : x = chk n s.data.toList := by
  rw [hx, List.take_of_length_le (by simp; have : s.size = s.data.size := rfl; omega)]

set_option maxHeartbeats 400000 in
theorem checkS (n : Int) (s : ByteArray) (w : World) (hs : s.size ≤ maxLen) (h0 : 0 ≤ n) (h1 : n ≤ 65002) :
    Calls Try.prog 49 #[.int .i64 n, .string s] w fun e w' => e = .returned (.int .i64 (chk n s.data.toList)) ∧ w = w' := by
  unfold maxLen at hs
  go_enter Try.func49, Try.ntmps49
  go_wp2
  go_loop [0, 5] (fun v i => ∃ (k : Nat) (x : Int), k ≤ s.size ∧ i = .int .i64 k ∧ v = .int .i64 x ∧ 0 ≤ x ∧ x ≤ 65002 ∧ Hid (x = chk n (s.data.toList.take k))) (fun _ i => s.size - (intOf i).toNat)
  case atStart => exact ⟨0, n, Nat.zero_le _, rfl, rfl, h0, h1, rfl⟩
  case round =>
    obtain ⟨k, x, hk, rfl, rfl, hx0, hx1, Hx⟩ := hrel
    by_cases hlt : k < s.size
    · have Hn := Lib.hid (chk_snoc hlt n x Hx.out)
      have hc : (s[k].toNat : Int) ≤ 255 := by have := s[k].toNat_lt; omega
      go_wp2
      go_round
      case rel => exact ⟨k + 1, _, by omega, by go_num, rfl, by omega, by omega, Hn.out⟩
      case measure => simp [intOf]; omega
    · have Hn := Lib.hid (chk_end hlt n x Hx.out)
      go_wp2
      go_ret
      exact ⟨by rw [← Hn.out]; rfl, rfl⟩

/-- the check number, nought where there is none -/
def ckv (n : Int) (s : ByteArray) : Int := if inB n 0 65002 = true then chk n s.data.toList else 0
theorem inB_yes {n lo hi : Int} (h : inB n lo hi = true) : lo ≤ n ∧ n ≤ hi := by simpa [inB] using h

theorem checkOfS (n : Int) (s : ByteArray) (w : World) (hs : s.size ≤ maxLen) :
    Calls Try.prog 31 #[.int .i64 n, .string s] w fun e w' => e = .returned (.tuple #[.int .i64 (ckv n s), .bool (inB n 0 65002)]) ∧ w = w' := by
  cases h : inB n 0 65002
  · have Hf := Lib.hid (show ckv n s = 0 by unfold ckv; rw [h]; rfl)
    go_enter Try.func31, Try.ntmps31
    go_wp2_with (first | (go_at_call 48; refine (l00In_any _ _ _ _).mono ?_; rintro e w' ⟨rfl, rfl⟩))
    go_ret2
    exact ⟨by rw [Hf.out]; rfl, rfl⟩
  · have Hf := Lib.hid (show ckv n s = chk n s.data.toList by unfold ckv; rw [h]; rfl)
    obtain ⟨h0, h1⟩ := inB_yes h
    go_enter Try.func31, Try.ntmps31
    go_wp2_with (first | (go_at_call 48; refine (l00In_any _ _ _ _).mono ?_; rintro e w' ⟨rfl, rfl⟩) | (go_at_call 49; refine (checkS _ _ _ hs h0 h1).mono ?_; rintro e w' ⟨rfl, rfl⟩))
    go_ret2
    exact ⟨by rw [Hf.out]; rfl, rfl⟩

set_option maxHeartbeats 400000 in
theorem checkOfI (n : Int) (s : ByteArray) (w : World) (hs : s.size ≤ maxLen) :
    Calls Try.prog 32 #[.int .i64 n, .string s] w fun e w' => e = .returned (.tuple #[.int .i64 (ckv n s), .bool (inB n 0 65002)]) ∧ w = w' := by
  unfold maxLen at hs
  cases h : inB n 0 65002
  · have Hf := Lib.hid (show ckv n s = 0 by unfold ckv; rw [h]; rfl)
    go_enter Try.func32, Try.ntmps32
    go_wp2_with (first | (go_at_call 44; refine (within_any _ _ _ _).mono ?_; rintro e w' ⟨rfl, rfl⟩))
    go_ret2
    exact ⟨by rw [Hf.out]; rfl, rfl⟩
  · have Hf := Lib.hid (show ckv n s = chk n s.data.toList by unfold ckv; rw [h]; rfl)
    obtain ⟨h0, h1⟩ := inB_yes h
    go_enter Try.func32, Try.ntmps32
    go_wp2_with (first | (go_at_call 44; refine (within_any _ _ _ _).mono ?_; rintro e w' ⟨rfl, rfl⟩))
    go_loop [0, 12] (fun v i => ∃ (k : Nat) (x : Int), k ≤ s.size ∧ i = .int .i64 k ∧ v = .int .i64 x ∧ 0 ≤ x ∧ x ≤ 65002 ∧ Hid (x = chk n (s.data.toList.take k))) (fun _ i => s.size - (intOf i).toNat)
    case atStart => exact ⟨0, n, Nat.zero_le _, rfl, rfl, h0, h1, rfl⟩
    case round =>
      obtain ⟨k, x, hk, rfl, rfl, hx0, hx1, Hx⟩ := hrel
      by_cases hlt : k < s.size
      · have Hn := Lib.hid (chk_snoc hlt n x Hx.out)
        have hc : (s[k].toNat : Int) ≤ 255 := by have := s[k].toNat_lt; omega
        go_wp2
        go_round
        case rel => exact ⟨k + 1, _, by omega, by go_num, rfl, by omega, by omega, Hn.out⟩
        case measure => simp [intOf]; omega
      · have Hn := Lib.hid (chk_end hlt n x Hx.out)
        go_wp2
        go_ret2
        exact ⟨by rw [Hf.out, ← Hn.out]; rfl, rfl⟩

theorem walk (n : Int) (s : ByteArray) (w : World) (_wf : (Lit.int .i64 n).wf = true) (hs : s.size ≤ maxLen) :
    Calls Try.prog 11 #[.int .i64 n, .string s] w fun e w' => e = .returned (.bool true) ∧ Below w.heap.size w w' := by
  by_cases h : (s.size : Int) > 1048576
  · go_enter Try.func11, Try.ntmps11
    go_wp2
    go_ret
    exact ⟨rfl, Below.refl _ _⟩
  · go_enter Try.func11, Try.ntmps11
    go_wp2_with (first | (go_at_call 31; refine (checkOfS _ _ _ hs).mono ?_; rintro e w' ⟨rfl, rfl⟩) | (go_at_call 32; refine (checkOfI _ _ _ hs).mono ?_; rintro e w' ⟨rfl, rfl⟩))
    go_ret
    exact ⟨rfl, Below.refl _ _⟩

set_option maxRecDepth 100000 in
theorem lifted (os : Os) (started : os.Started) (H : Type) (enc : TypeId × Value → H) :
    ReturnsInHanded {} Try.checked os 11 .any (Rows.fnExactCheckOfSpec.pre6 enc Try.prog Try.f11 Rows.fnExactCheckOfRow.domain false) (Rows.fnExactCheckOfSpec.post enc Try.prog Try.f11 false true false false) := by
  refine returnsInHanded_of_change (C := Try.checked) own started (by kernel_rfl) Try.func11
    (ChangeSpec.witness6 (enc := enc) (C := Try.checked) false ⟨#[], #[.int .i64 0, .string ByteArray.empty], []⟩ 8 (by kernel_rfl) (by kernel_rfl) (by kernel_rfl) (by kernel_rfl)) ?_
  intro W base args ds gs before hval0 hW hcnd _
  have hval : ∀ (j : Nat) t v, Try.f11.params[j]? = some t → args[j]? = some v → Value.okWide Try.prog W .any base t v := hval0
  have hW' := hW
  obtain ⟨p, q, hA0, hV, rfl, hfz, hnd⟩ := hW
  have hA : DataW.TrodAll enc Try.prog W 0 (fun _ => true) true Try.f11.params.toList args.toList ds p := hA0
  rw [Try.params11] at hA hval
  obtain ⟨v0, vs0, d0, ds0, p0, q0, hargs, rfl, rfl, h0, r0⟩ := trodAll_cons hA
  obtain ⟨v1, vs1, d1, ds1, p1, q1, rfl, rfl, rfl, h1, r1⟩ := trodAll_cons r0
  obtain ⟨rfl, rfl, rfl⟩ := trodAll_nil r1
  obtain rfl : args = #[v0, v1] := by cases args; simp_all
  obtain ⟨rfl, rfl⟩ := trodVars_none hV
  have k0 := h0
  have lt0 : ∀ x ∈ p0, x.block < W.heap.size := by obtain ⟨m, hm⟩ := k0; exact DataW.trod_lt m _ _ _ hm
  obtain ⟨a0, rfl, rfl, rfl, w0⟩ := open_int Try.underlying2 (hval 0 2 v0 rfl rfl) h0
  have k1 := h1
  have lt1 : ∀ x ∈ p1, x.block < W.heap.size := by obtain ⟨m, hm⟩ := k1; exact DataW.trod_lt m _ _ _ hm
  obtain ⟨a1, rfl, rfl, rfl, w1⟩ := open_string Try.underlying9 (hval 1 9 v1 rfl rfl) h1
  clear hA0 hval0
  refine (walk a0 a1 W w0 w1).mono fun e W' ⟨he, bel⟩ => ?_
  subst he
  exact ⟨_, rfl, _, _, _, [], _, [], hW', trodAll_mk1 (shut_bool Try.underlying4 _), (trodAll_cons_mk (Below.trod laidOut (by kernel_rfl) (of_decide_eq_true (by kernel_rfl)) k0 bel lt0) (trodAll_cons_mk (Below.trod laidOut (by kernel_rfl) (of_decide_eq_true (by kernel_rfl)) k1 bel lt1) trodAll_mk0)), rfl, bel.frame _, fun h => by cases h⟩

theorem over : Rows.fnExactCheckOfRow.holds Try.pinned (OpenSpec.ofChange Rows.fnExactCheckOfSpec) :=
  OpenClaim.holds_of_wide 11 Try.f11 rfl rfl rfl rfl rfl rfl rfl ⟨rfl, rfl, rfl, rfl, rfl⟩ rfl rfl rfl rfl rfl (by kernel_rfl) Try.func11 (by kernel_rfl)
    (of_decide_eq_true (by kernel_rfl)) (by unfold Func.isWrapper; first | (rw [if_pos (by decide +kernel)]; kernel_rfl) | (rw [if_neg (by decide +kernel)]; exact ⟨rfl, rfl⟩))
    (fun os started H enc _ => lifted os started H enc)

/-- the statement -/
theorem proved : Rows.FnExactCheckOfSaid := over
end Go.Proofs.Ytehohiicecnmeaa.FnExactCheckOf
