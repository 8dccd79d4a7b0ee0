/- The sum of all times, as both texts tell it. -/
import Derived.Test.YtceckapldohkdaaCnt
namespace Go.Proofs.Ytceckapldohkdaa
open Go.RowKit Go.Deep Flt

theorem l02Number_any (b : Nat) (w : World) :
    Calls Try.prog 58 #[.float .f32 b] w fun e w' => ∃ r, e = .returned (.tuple #[.float .f32 r, .bool (finB (cls .f32 b))]) ∧ cls .f32 r = (if finB (cls .f32 b) then cls .f32 b else cls .f32 0) ∧ Drew w w' := by
  cases hf : finB (cls .f32 b)
  · have HF := Lib.hid hf
    clear hf
    go_enter Try.func58, Try.ntmps58
    go_wp2_with fail
    refine (l01Finite_any _ _).mono ?_
    rintro e w' ⟨n, rfl, rfl⟩
    rw [HF.out]
    go_wp2
    go_ret2
    exact ⟨0, rfl, rfl, by repeat (first | exact Drew.refl _ | refine Drew.drewN ?_ _ | refine Drew.drew ?_)⟩
  · have HF := Lib.hid hf
    clear hf
    go_enter Try.func58, Try.ntmps58
    go_wp2_with fail
    refine (l01Finite_any _ _).mono ?_
    rintro e w' ⟨n, rfl, rfl⟩
    rw [HF.out]
    go_wp2
    go_ret2
    exact ⟨b, rfl, rfl, by repeat (first | exact Drew.refl _ | refine Drew.drewN ?_ _ | refine Drew.drew ?_)⟩
theorem ifFinite_any (b : Nat) (w : World) :
    Calls Try.prog 60 #[.float .f32 b] w fun e w' => ∃ r, e = .returned (.tuple #[.float .f32 r, .bool (finB (cls .f32 b))]) ∧ cls .f32 r = (if finB (cls .f32 b) then cls .f32 b else cls .f32 0) ∧ Drew w w' := by
  cases hf : finB (cls .f32 b)
  · have HF := Lib.hid hf
    clear hf
    go_enter Try.func60, Try.ntmps60
    go_wp2_with fail
    refine (isFinite_any _ _).mono ?_
    rintro e w' ⟨n, rfl, rfl⟩
    rw [HF.out]
    go_wp2
    go_ret2
    exact ⟨0, rfl, rfl, by repeat (first | exact Drew.refl _ | refine Drew.drewN ?_ _ | refine Drew.drew ?_)⟩
  · have HF := Lib.hid hf
    clear hf
    go_enter Try.func60, Try.ntmps60
    go_wp2_with fail
    refine (isFinite_any _ _).mono ?_
    rintro e w' ⟨n, rfl, rfl⟩
    rw [HF.out]
    go_wp2
    go_ret2
    exact ⟨b, rfl, rfl, by repeat (first | exact Drew.refl _ | refine Drew.drewN ?_ _ | refine Drew.drew ?_)⟩
/-- the time of a test: of valid lives, if it is finite -/
def timeOk (X : Nat → Nat) (n : Nat) : Bool := livesB X n && finB (totC X n)
def timeC (X : Nat → Nat) (n : Nat) : Option Nat := if timeOk X n then totC X n else cls .f32 0
set_option maxHeartbeats 400000 in
theorem l02Total_any (g n c : Nat) (X : Nat → Nat) (F : Nat → Bool) (w : World) (hx : LivesAt w g 0 X F n) (hn : n ≤ 1048576) :
    Calls Try.prog 59 #[.slice (some ⟨g, 0, none⟩) n c] w fun e w' => ∃ r, e = .returned (.float .f32 r) ∧ cls .f32 r = totC X n ∧ Drew w w' := by
  go_enter Try.func59, Try.ntmps59
  go_wp2
  go_loopw [3, 4] (fun v i wr => ∃ k s : Nat, k ≤ n ∧ i = .int .i64 k ∧ v = .float .f32 s ∧ cls .f32 s = totC X k ∧ Drew w wr) (fun _ i _ => n - (intOf i).toNat)
  case atStart => exact ⟨0, 0, Nat.zero_le _, rfl, rfl, rfl, Drew.refl _⟩
  case round =>
    obtain ⟨k, s, hk, rfl, rfl, hs, hwr⟩ := hrel
    have Hw := Lib.hid hwr
    have Hs := Lib.hid hs
    clear hs
    by_cases hlt : k < n
    · obtain ⟨cx, _⟩ := (hx.drew hwr) k hlt
      rw [Nat.zero_add] at cx
      have hlt' : (k : Int) < (n : Int) := by omega
      have hk0 : (0 : Int) ≤ (k : Int) := by omega
      clear hwr hx
      go_wp2_with (first | (refine wpList_fop rfl .add _ _ _ _ rfl rfl .f32 _ _ rfl rfl ?_; intro τ q))
      go_roundw
      case rel => exact ⟨k + 1, _, by omega, by go_num, rfl, by rw [cls_rep' (nn_fop _ _ _ _), Hs.out]; rfl, Hw.out.drewN _⟩
      case measure => simp [intOf]; omega
    · obtain rfl : k = n := by omega
      clear hwr hx
      go_wp2
      go_ret
      exact ⟨_, rfl, Hs.out, Hw.out⟩
set_option maxHeartbeats 400000 in
theorem timeS (g n c : Nat) (X : Nat → Nat) (F : Nat → Bool) (w : World) (hx : LivesAt w g 0 X F n) (hn : n ≤ 1048576) :
    Calls Try.prog 23 #[.slice (some ⟨g, 0, none⟩) n c] w fun e w' => ∃ r, e = .returned (.tuple #[.float .f32 r, .bool (timeOk X n)]) ∧ cls .f32 r = timeC X n ∧ Below w.heap.size w w' := by
  have HC := Lib.hid (l02Lives_any g n c X F w hx hn)
  cases hl : livesB X n
  · have HO := Lib.hid (show timeOk X n = false by unfold timeOk; rw [hl]; rfl)
    have HL := Lib.hid hl
    clear hl hx
    go_enter Try.func23, Try.ntmps23
    go_wp2_with fail
    refine HC.out.mono ?_
    rintro e w1 ⟨rfl, hd⟩
    rw [HL.out]
    have Hd := Lib.hid hd
    clear hd
    go_wp2
    go_ret2
    exact ⟨0, by rw [HO.out]; rfl, by unfold timeC; rw [HO.out]; rfl, Hd.out.below⟩
  · have HO := Lib.hid (show timeOk X n = finB (totC X n) by unfold timeOk; rw [hl]; rfl)
    have HL := Lib.hid hl
    clear hl
    go_enter Try.func23, Try.ntmps23
    go_wp2_with fail
    refine HC.out.mono ?_
    rintro e w1 ⟨rfl, hd⟩
    rw [HL.out]
    have Hx := Lib.hid (hx.drew hd)
    have Hd := Lib.hid hd
    clear hd hx
    go_wp2_with fail
    refine (l02Total_any g n c X F _ Hx.out hn).mono ?_
    rintro e w2 ⟨s, rfl, hs, hd⟩
    have Hs := Lib.hid hs
    have Hd := Lib.hid (Hd.out.trans hd)
    clear hs hd
    go_wp2_with fail
    refine (l02Number_any _ _).mono ?_
    rintro e w3 ⟨r, rfl, hr, hd⟩
    have Hr := Lib.hid hr
    have Hd := Lib.hid (Hd.out.trans hd)
    clear hr hd
    go_wp2
    go_ret2
    exact ⟨r, by rw [HO.out, ← Hs.out]; rfl, by rw [Hr.out]; unfold timeC; rw [HO.out, Hs.out], Hd.out.below⟩
set_option maxHeartbeats 1000000 in
theorem timeI (g n c : Nat) (X : Nat → Nat) (F : Nat → Bool) (w : World) (hx : LivesAt w g 0 X F n) (hn : n ≤ 1048576) :
    Calls Try.prog 24 #[.slice (some ⟨g, 0, none⟩) n c] w fun e w' => ∃ r, e = .returned (.tuple #[.float .f32 r, .bool (timeOk X n)]) ∧ cls .f32 r = timeC X n ∧ Below w.heap.size w w' := by
  have HC := Lib.hid (areLivesI g n c X F w hx hn)
  cases hl : livesB X n
  · have HO := Lib.hid (show timeOk X n = false by unfold timeOk; rw [hl]; rfl)
    have HL := Lib.hid hl
    clear hl hx
    go_enter Try.func24, Try.ntmps24
    go_wp2_with fail
    refine HC.out.mono ?_
    rintro e w1 ⟨rfl, hd⟩
    rw [HL.out]
    have Hd := Lib.hid hd
    clear hd
    go_wp2
    go_ret2
    exact ⟨0, by rw [HO.out]; rfl, by unfold timeC; rw [HO.out]; rfl, Hd.out⟩
  · have HO := Lib.hid (show timeOk X n = finB (totC X n) by unfold timeOk; rw [hl]; rfl)
    have HL := Lib.hid hl
    clear hl
    go_enter Try.func24, Try.ntmps24
    go_wp2_with fail
    refine HC.out.mono ?_
    rintro e w1 ⟨rfl, hd⟩
    rw [HL.out]
    have Hd := Lib.hid hd
    go_wp2
    go_loopw [4, 6, 12] (fun v _ i wr => ∃ k s : Nat, k ≤ n ∧ i = .int .i64 k ∧ v = .float .f32 s ∧ cls .f32 s = totC X k ∧ Below w.heap.size w wr) (fun _ _ i _ => n - (intOf i).toNat)
    case atStart => exact ⟨0, 0, Nat.zero_le _, rfl, rfl, rfl, Hd.out⟩
    case round =>
      obtain ⟨k, s, hk, rfl, rfl, hs, hwr⟩ := hrel
      have Hw := Lib.hid hwr
      have Hs := Lib.hid hs
      clear hs hd
      by_cases hlt : k < n
      · obtain ⟨cx, cy⟩ := (hx.below hwr) k hlt
        rw [Nat.zero_add] at cx cy
        have hlt' : (k : Int) < (n : Int) := by omega
        have hk0 : (0 : Int) ≤ (k : Int) := by omega
        clear hwr hx
        go_wp2_with (first | (refine wpList_fop rfl .add _ _ _ _ rfl rfl .f32 _ _ rfl rfl ?_; intro τ q))
        go_roundw
        case rel => exact ⟨k + 1, _, by omega, by go_num, rfl, by rw [cls_rep' (nn_fop _ _ _ _), Hs.out]; rfl, by repeat (first | exact Hw.out.alloc Hw.out.size _ | refine below_drewN ?_ _ | refine Below.drew ?_)⟩
        case measure => simp [intOf]; omega
      · obtain rfl : k = n := by omega
        clear hwr hx
        go_wp2_with fail
        refine (ifFinite_any _ _).mono ?_
        rintro e w3 ⟨r, rfl, hr, hd⟩
        have Hr := Lib.hid hr
        have Hd := Lib.hid (Hw.out.trans (hd.below.mono Hw.out.size))
        clear hr hd
        go_wp2
        go_ret2
        exact ⟨r, by rw [HO.out, ← Hs.out]; rfl, by rw [Hr.out]; unfold timeC; rw [HO.out, Hs.out], Hd.out⟩
end Go.Proofs.Ytceckapldohkdaa
