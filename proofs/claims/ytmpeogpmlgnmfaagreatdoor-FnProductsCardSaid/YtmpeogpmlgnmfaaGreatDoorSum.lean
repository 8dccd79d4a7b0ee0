/- Contracts of the sums of numbers, and of products, from left to right. -/
import Derived.Test.YtmpeogpmlgnmfaaGreatDoorArr
namespace Go.Proofs.YtmpeogpmlgnmfaaGreatDoor
set_option maxRecDepth 100000
open Go.RowKit Go.Deep Flt

/-- the class of the sum of the first numbers -/
def sumC (X : Nat → Nat) : Nat → Option Nat
  | 0 => cls .f32 0
  | k + 1 => fop .add .f32 (sumC X k) (cls .f32 (X k))
def dotC (X Y : Nat → Nat) : Nat → Option Nat
  | 0 => cls .f32 0
  | k + 1 => fop .add .f32 (dotC X Y k) (fop .mul .f32 (cls .f32 (X k)) (cls .f32 (Y k)))

/-- a sum: of few numbers, else none -/
def sumR (X : Nat → Nat) (n : Nat) : Option Nat := if n ≤ 256 then sumC X n else cls .f32 0
set_option maxHeartbeats 400000 in
theorem sumI (g : Nat) (X : Nat → Nat) (n c : Nat) (w : World) (hx : F32s w g X n) (hb : n ≤ 1048576) :
    Calls Tryz.prog 30 #[.slice (some ⟨g, 0, none⟩) n c] w fun e w' => ∃ r, e = .returned (.tuple #[.float .f32 r, .bool (decide ((n : Int) ≤ 256))]) ∧ cls .f32 r = sumR X n ∧ Drew w w' := by
  by_cases h : (n : Int) ≤ 256
  · have hs : sumR X n = sumC X n := by unfold sumR; rw [if_pos (by omega)]
    have HR := Lib.hid hs
    have hd : decide ((n : Int) ≤ 256) = true := by simpa using h
    have HD := Lib.hid hd
    clear hs hd
    go_enter Tryz.func30, Tryz.ntmps30
    go_wp2
    go_loopw [4, 12] (fun v i wr => ∃ k s : Nat, k ≤ n ∧ i = .int .i64 k ∧ v = .float .f32 s ∧ cls .f32 s = sumC X k ∧ Drew w wr) (fun _ i _ => n - (intOf i).toNat)
    case atStart => exact ⟨0, 0, Nat.zero_le _, rfl, rfl, rfl, Drew.refl _⟩
    case round =>
      obtain ⟨k, s, hk, rfl, rfl, hs, hwr⟩ := hrel
      have Hw := Lib.hid hwr
      have Hs := Lib.hid hs
      clear hs
      by_cases hlt : k < n
      · have cx : wr.cell? ⟨g, k, none⟩ = some (.float .f32 (X k)) := (hwr.cell _).trans (hx k hlt)
        have hlt' : (k : Int) < (n : Int) := by omega
        have hk0 : (0 : Int) ≤ (k : Int) := by omega
        clear hwr hx
        go_wp2_with (first | (refine wpList_fop rfl .add _ _ _ _ rfl rfl .f32 _ _ rfl rfl ?_; intro τ q))
        go_roundw
        case rel => exact ⟨k + 1, _, by omega, by go_num, rfl, by rw [cls_rep' (nn_fop _ _ _ _), Hs.out]; rfl, Hw.out.drewN _⟩
        case measure => simp [intOf]; omega
      · have hkn : k = n := by omega
        subst hkn
        clear hwr
        go_wp2
        go_ret2
        exact ⟨_, by rw [HD.out]; rfl, Hs.out.trans HR.out.symm, Hw.out⟩
  · have hs : sumR X n = cls .f32 0 := by unfold sumR; rw [if_neg (by omega)]
    have Hs := Lib.hid hs
    have hd : decide ((n : Int) ≤ 256) = false := by simpa using h
    have Hd := Lib.hid hd
    clear hs hd
    go_enter Tryz.func30, Tryz.ntmps30
    go_wp2
    go_ret2
    exact ⟨_, by rw [Hd.out]; rfl, Hs.out.symm, Drew.refl _⟩
end Go.Proofs.YtmpeogpmlgnmfaaGreatDoor
