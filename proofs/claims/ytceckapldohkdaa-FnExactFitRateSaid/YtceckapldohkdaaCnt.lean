/- How many failed, and the sum of all times, as both texts tell them. -/
import Derived.Test.YtceckapldohkdaaLives
namespace Go.Proofs.Ytceckapldohkdaa
open Go.RowKit Go.Deep Flt

/-- how many of the first failed -/
def cntF (F : Nat → Bool) : Nat → Nat
  | 0 => 0
  | n + 1 => cntF F n + if F n then 1 else 0
theorem cntF_le (F : Nat → Bool) : ∀ n, cntF F n ≤ n
  | 0 => Nat.le_refl _
  | n + 1 => by have := cntF_le F n; unfold cntF; split <;> omega
/-- the class of the sum of the first times -/
def totC (X : Nat → Nat) : Nat → Option Nat
  | 0 => cls .f32 0
  | k + 1 => fop .add .f32 (totC X k) (cls .f32 (X k))
theorem totC_nn (X : Nat → Nat) (n : Nat) : Nn .f32 (totC X n) := by
  cases n with
  | zero => exact nn_cls _ _
  | succ n => exact nn_fop _ _ _ _

set_option maxHeartbeats 400000 in
theorem l02Failed_any (g n c : Nat) (X : Nat → Nat) (F : Nat → Bool) (w : World) (hx : LivesAt w g 0 X F n) (hn : n ≤ 1048576) :
    Calls Try.prog 56 #[.slice (some ⟨g, 0, none⟩) n c] w fun e w' => e = .returned (.int .i64 (cntF F n : Nat)) ∧ w = w' := by
  go_enter Try.func56, Try.ntmps56
  go_wp2
  go_loopw [3, 4] (fun v i wr => ∃ k : Nat, k ≤ n ∧ i = .int .i64 k ∧ v = .int .i64 (cntF F k : Nat) ∧ wr = w) (fun _ i _ => n - (intOf i).toNat)
  case atStart => exact ⟨0, Nat.zero_le _, rfl, rfl, rfl⟩
  case round =>
    obtain ⟨k, hk, rfl, rfl, rfl⟩ := hrel
    by_cases hlt : k < n
    · obtain ⟨_, cx⟩ := hx k hlt
      rw [Nat.zero_add] at cx
      have hlt' : (k : Int) < (n : Int) := by omega
      have hk0 : (0 : Int) ≤ (k : Int) := by omega
      have hc := cntF_le F k
      clear hx
      cases hq : F k
      · rw [hq] at cx
        have HF := Lib.hid (show cntF F (k + 1) = cntF F k by show cntF F k + (if F k then 1 else 0) = _; rw [hq]; rfl)
        clear hq
        go_wp2
        go_roundw
        case rel => exact ⟨k + 1, by omega, by go_num, by rw [HF.out], by first | rfl | trivial⟩
        case measure => simp [intOf]; omega
      · rw [hq] at cx
        have HF := Lib.hid (show cntF F (k + 1) = cntF F k + 1 by show cntF F k + (if F k then 1 else 0) = _; rw [hq]; rfl)
        clear hq
        go_wp2
        go_roundw
        case rel => exact ⟨k + 1, by omega, by go_num, congrArg (Value.int .i64) (by rw [HF.out]; omega), by first | rfl | trivial⟩
        case measure => simp [intOf]; omega
    · obtain rfl : k = n := by omega
      clear hx
      go_wp2
      go_ret
      exact ⟨rfl, rfl⟩
set_option maxHeartbeats 400000 in
theorem failed_any (g n c : Nat) (X : Nat → Nat) (F : Nat → Bool) (w : World) (hx : LivesAt w g 0 X F n) (hn : n ≤ 1048576) :
    Calls Try.prog 57 #[.slice (some ⟨g, 0, none⟩) n c] w fun e w' => e = .returned (.int .i64 (cntF F n : Nat)) ∧ Below w.heap.size w w' := by
  go_enter Try.func57, Try.ntmps57
  go_wp2
  go_loopw [3, 5, 8] (fun v _ i wr => ∃ k : Nat, k ≤ n ∧ i = .int .i64 k ∧ v = .int .i64 (cntF F k : Nat) ∧ Below w.heap.size w wr) (fun _ _ i _ => n - (intOf i).toNat)
  case atStart => exact ⟨0, Nat.zero_le _, rfl, rfl, Below.refl _ _⟩
  case round =>
    obtain ⟨k, hk, rfl, rfl, hwr⟩ := hrel
    have Hw := Lib.hid hwr
    by_cases hlt : k < n
    · obtain ⟨cy, cx⟩ := (hx.below hwr) k hlt
      rw [Nat.zero_add] at cx cy
      have hlt' : (k : Int) < (n : Int) := by omega
      have hk0 : (0 : Int) ≤ (k : Int) := by omega
      have hc := cntF_le F k
      clear hx hwr
      cases hq : F k
      · rw [hq] at cx
        have HF := Lib.hid (show cntF F (k + 1) = cntF F k by show cntF F k + (if F k then 1 else 0) = _; rw [hq]; rfl)
        clear hq
        go_wp2
        go_roundw
        case rel => exact ⟨k + 1, by omega, by go_num, by rw [HF.out], Hw.out.alloc Hw.out.size _⟩
        case measure => simp [intOf]; omega
      · rw [hq] at cx
        have HF := Lib.hid (show cntF F (k + 1) = cntF F k + 1 by show cntF F k + (if F k then 1 else 0) = _; rw [hq]; rfl)
        clear hq
        go_wp2
        go_roundw
        case rel => exact ⟨k + 1, by omega, by go_num, congrArg (Value.int .i64) (by rw [HF.out]; omega), Hw.out.alloc Hw.out.size _⟩
        case measure => simp [intOf]; omega
    · obtain rfl : k = n := by omega
      clear hx hwr
      go_wp2
      go_ret
      exact ⟨rfl, Hw.out⟩
/-- how many failed, of valid lives -/
def cntR (X : Nat → Nat) (F : Nat → Bool) (n : Nat) : Nat := if livesB X n then cntF F n else 0
theorem countFailedS (g n c : Nat) (X : Nat → Nat) (F : Nat → Bool) (w : World) (hx : LivesAt w g 0 X F n) (hn : n ≤ 1048576) :
    Calls Try.prog 21 #[.slice (some ⟨g, 0, none⟩) n c] w fun e w' => e = .returned (.tuple #[.int .i64 (cntR X F n : Nat), .bool (livesB X n)]) ∧ Below w.heap.size w w' := by
  have HC := Lib.hid (l02Lives_any g n c X F w hx hn)
  cases hl : livesB X n
  · have HR := Lib.hid (show cntR X F n = 0 by unfold cntR; rw [hl]; rfl)
    have HL := Lib.hid hl
    clear hl hx
    go_enter Try.func21, Try.ntmps21
    go_wp2_with fail
    refine HC.out.mono ?_
    rintro e w1 ⟨rfl, hd⟩
    rw [HL.out]
    have Hd := Lib.hid hd
    clear hd
    go_wp2
    go_ret2
    exact ⟨by rw [HR.out]; rfl, Hd.out.below⟩
  · have HR := Lib.hid (show cntR X F n = cntF F n by unfold cntR; rw [hl]; rfl)
    have HL := Lib.hid hl
    clear hl
    go_enter Try.func21, Try.ntmps21
    go_wp2_with fail
    refine HC.out.mono ?_
    rintro e w1 ⟨rfl, hd⟩
    rw [HL.out]
    have Hx := Lib.hid (hx.drew hd)
    have Hd := Lib.hid hd
    clear hd hx
    go_wp2_with fail
    refine (l02Failed_any g n c X F _ Hx.out hn).mono ?_
    rintro e w2 ⟨rfl, rfl⟩
    go_wp2
    go_ret2
    exact ⟨by rw [HR.out]; rfl, Hd.out.below⟩
theorem countFailedI (g n c : Nat) (X : Nat → Nat) (F : Nat → Bool) (w : World) (hx : LivesAt w g 0 X F n) (hn : n ≤ 1048576) :
    Calls Try.prog 22 #[.slice (some ⟨g, 0, none⟩) n c] w fun e w' => e = .returned (.tuple #[.int .i64 (cntR X F n : Nat), .bool (livesB X n)]) ∧ Below w.heap.size w w' := by
  have HC := Lib.hid (areLivesI g n c X F w hx hn)
  cases hl : livesB X n
  · have HR := Lib.hid (show cntR X F n = 0 by unfold cntR; rw [hl]; rfl)
    have HL := Lib.hid hl
    clear hl hx
    go_enter Try.func22, Try.ntmps22
    go_wp2_with fail
    refine HC.out.mono ?_
    rintro e w1 ⟨rfl, hd⟩
    rw [HL.out]
    have Hd := Lib.hid hd
    clear hd
    go_wp2
    go_ret2
    exact ⟨by rw [HR.out]; rfl, Hd.out⟩
  · have HR := Lib.hid (show cntR X F n = cntF F n by unfold cntR; rw [hl]; rfl)
    have HL := Lib.hid hl
    clear hl
    go_enter Try.func22, Try.ntmps22
    go_wp2_with fail
    refine HC.out.mono ?_
    rintro e w1 ⟨rfl, hd⟩
    rw [HL.out]
    have Hx := Lib.hid (hx.below hd)
    have Hd := Lib.hid hd
    clear hd hx
    go_wp2_with fail
    refine (failed_any g n c X F _ Hx.out hn).mono ?_
    rintro e w2 ⟨rfl, hb⟩
    have Hb := Lib.hid (Hd.out.trans (hb.mono Hd.out.size))
    clear hb
    go_wp2
    go_ret2
    exact ⟨by rw [HR.out]; rfl, Hb.out⟩
end Go.Proofs.Ytceckapldohkdaa
