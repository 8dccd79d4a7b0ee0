/- Contracts of the sums of numbers, and of products, from left to right. -/
import Derived.Test.YtcjkelnhikhbhaaArr
namespace Go.Proofs.Ytcjkelnhikhbhaa
open Go.RowKit Go.Deep Flt

/-- the class of the sum of the first numbers -/
def sumC (X : Nat → Nat) : Nat → Option Nat
  | 0 => cls .f32 0
  | k + 1 => fop .add .f32 (sumC X k) (cls .f32 (X k))
def dotC (X Y : Nat → Nat) : Nat → Option Nat
  | 0 => cls .f32 0
  | k + 1 => fop .add .f32 (dotC X Y k) (fop .mul .f32 (cls .f32 (X k)) (cls .f32 (Y k)))

set_option maxHeartbeats 400000 in
theorem l01Sum_any (g : Nat) (X : Nat → Nat) (n c : Nat) (w : World) (hx : F32s w g X n) (hb : n ≤ 1048576) :
    Calls Try.prog 43 #[.slice (some ⟨g, 0, none⟩) n c] w fun e w' => ∃ r, e = .returned (.float .f32 r) ∧ cls .f32 r = sumC X n ∧ Drew w w' := by
  go_enter Try.func43, Try.ntmps43
  go_wp2
  go_loopw [3, 4] (fun v i wr => ∃ k s : Nat, k ≤ n ∧ i = .int .i64 k ∧ v = .float .f32 s ∧ cls .f32 s = sumC X k ∧ Drew w wr) (fun _ i _ => n - (intOf i).toNat)
  case atStart => exact ⟨0, 0, Nat.zero_le _, rfl, rfl, rfl, Drew.refl _⟩
  case round =>
    obtain ⟨k, s, hk, rfl, rfl, hs, hwr⟩ := hrel
    have Hw := Lib.hid hwr
    have Hs := Lib.hid hs
    clear hs
    by_cases hlt : k < n
    · have cx : wr.cell? ⟨g, k, none⟩ = some (.float .f32 (X k)) := (hwr.cell _).trans (hx k hlt)
      have hlt' : (k : Int) < (n : Int) := by omega
      have hk0 : (0 : Int) ≤ (k : Int) := by omega
      clear hwr hx
      go_wp2_with (first | (refine wpList_fop rfl .add _ _ _ _ rfl rfl .f32 _ _ rfl rfl ?_; intro τ q))
      go_roundw
      case rel => exact ⟨k + 1, _, by omega, by go_num, rfl, by rw [cls_rep' (nn_fop _ _ _ _), Hs.out]; rfl, Hw.out.drewN _⟩
      case measure => simp [intOf]; omega
    · have hkn : k = n := by omega
      subst hkn
      clear hwr
      go_wp2
      go_ret
      exact ⟨_, rfl, Hs.out, Hw.out⟩
theorem l01Few_any (a : Option Addr) (n c : Nat) (w : World) :
    Calls Try.prog 41 #[.slice a n c] w fun e w' => e = .returned (.bool (decide ((n : Int) ≤ 256))) ∧ w = w' := by
  go_enter Try.func41, Try.ntmps41
  go_wp2
  go_ret
  exact ⟨rfl, rfl⟩
/-- a sum: of few numbers, else none -/
def sumR (X : Nat → Nat) (n : Nat) : Option Nat := if n ≤ 256 then sumC X n else cls .f32 0
theorem sumS (g : Nat) (X : Nat → Nat) (n c : Nat) (w : World) (hx : F32s w g X n) (hb : n ≤ 1048576) :
    Calls Try.prog 19 #[.slice (some ⟨g, 0, none⟩) n c] w fun e w' => ∃ r, e = .returned (.tuple #[.float .f32 r, .bool (decide ((n : Int) ≤ 256))]) ∧ cls .f32 r = sumR X n ∧ Drew w w' := by
  by_cases h : (n : Int) ≤ 256
  · have hs : sumR X n = sumC X n := by unfold sumR; rw [if_pos (by omega)]
    have Hs := Lib.hid hs
    clear hs
    go_enter Try.func19, Try.ntmps19
    go_wp2_with (first | (go_at_call 41; refine (l01Few_any _ _ _ _).mono ?_; rintro e w' ⟨rfl, rfl⟩) | (go_at_call 43; refine (l01Sum_any _ _ _ _ _ hx hb).mono ?_; rintro e w' ⟨r, rfl, hr, hd⟩; have Hr := Lib.hid hr; have Hd := Lib.hid hd; clear hr hd))
    go_ret2
    exact ⟨_, by simp [h], Hr.out.trans Hs.out.symm, Hd.out⟩
  · have hs : sumR X n = cls .f32 0 := by unfold sumR; rw [if_neg (by omega)]
    have Hs := Lib.hid hs
    have hd : decide ((n : Int) ≤ 256) = false := by simpa using h
    have Hd := Lib.hid hd
    clear hs
    go_enter Try.func19, Try.ntmps19
    go_wp2_with (first | (go_at_call 41; refine (l01Few_any _ _ _ _).mono ?_; rintro e w' ⟨rfl, rfl⟩))
    go_ret2
    exact ⟨_, by rw [Hd.out]; rfl, Hs.out.symm, Drew.refl _⟩
set_option maxHeartbeats 400000 in
theorem sumI (g : Nat) (X : Nat → Nat) (n c : Nat) (w : World) (hx : F32s w g X n) (hb : n ≤ 1048576) :
    Calls Try.prog 20 #[.slice (some ⟨g, 0, none⟩) n c] w fun e w' => ∃ r, e = .returned (.tuple #[.float .f32 r, .bool (decide ((n : Int) ≤ 256))]) ∧ cls .f32 r = sumR X n ∧ Drew w w' := by
  by_cases h : (n : Int) ≤ 256
  · have hs : sumR X n = sumC X n := by unfold sumR; rw [if_pos (by omega)]
    have HR := Lib.hid hs
    have hd : decide ((n : Int) ≤ 256) = true := by simpa using h
    have HD := Lib.hid hd
    clear hs hd
    go_enter Try.func20, Try.ntmps20
    go_wp2
    go_loopw [4, 12] (fun v i wr => ∃ k s : Nat, k ≤ n ∧ i = .int .i64 k ∧ v = .float .f32 s ∧ cls .f32 s = sumC X k ∧ Drew w wr) (fun _ i _ => n - (intOf i).toNat)
    case atStart => exact ⟨0, 0, Nat.zero_le _, rfl, rfl, rfl, Drew.refl _⟩
    case round =>
      obtain ⟨k, s, hk, rfl, rfl, hs, hwr⟩ := hrel
      have Hw := Lib.hid hwr
      have Hs := Lib.hid hs
      clear hs
      by_cases hlt : k < n
      · have cx : wr.cell? ⟨g, k, none⟩ = some (.float .f32 (X k)) := (hwr.cell _).trans (hx k hlt)
        have hlt' : (k : Int) < (n : Int) := by omega
        have hk0 : (0 : Int) ≤ (k : Int) := by omega
        clear hwr hx
        go_wp2_with (first | (refine wpList_fop rfl .add _ _ _ _ rfl rfl .f32 _ _ rfl rfl ?_; intro τ q))
        go_roundw
        case rel => exact ⟨k + 1, _, by omega, by go_num, rfl, by rw [cls_rep' (nn_fop _ _ _ _), Hs.out]; rfl, Hw.out.drewN _⟩
        case measure => simp [intOf]; omega
      · have hkn : k = n := by omega
        subst hkn
        clear hwr
        go_wp2
        go_ret2
        exact ⟨_, by rw [HD.out]; rfl, Hs.out.trans HR.out.symm, Hw.out⟩
  · have hs : sumR X n = cls .f32 0 := by unfold sumR; rw [if_neg (by omega)]
    have Hs := Lib.hid hs
    have hd : decide ((n : Int) ≤ 256) = false := by simpa using h
    have Hd := Lib.hid hd
    clear hs hd
    go_enter Try.func20, Try.ntmps20
    go_wp2
    go_ret2
    exact ⟨_, by rw [Hd.out]; rfl, Hs.out.symm, Drew.refl _⟩
end Go.Proofs.Ytcjkelnhikhbhaa
