/- Contracts of the sums of the products of two lists' numbers. -/
import Derived.Test.YtcjkelnhikhbhaaSum
import Derived.Deep.RegionWith
namespace Go.Proofs.Ytcjkelnhikhbhaa
open Go.RowKit Go.Deep Flt

/-- the sum of products: of few numbers and as many others, else none -/
def okD (n m : Nat) : Bool := decide (n ≤ 256 ∧ n = m)
def dotR (X Y : Nat → Nat) (n m : Nat) : Option Nat := if okD n m = true then dotC X Y n else cls .f32 0

set_option maxHeartbeats 1000000 in
theorem l01Dot_any (g h : Nat) (X Y : Nat → Nat) (n c d : Nat) (w : World) (hx : F32s w g X n) (hy : F32s w h Y n) (hb : n ≤ 1048576) :
    Calls Try.prog 42 #[.slice (some ⟨g, 0, none⟩) n c, .slice (some ⟨h, 0, none⟩) n d] w fun e w' => ∃ r, e = .returned (.float .f32 r) ∧ cls .f32 r = dotC X Y n ∧ Drew w w' := by
  go_enter Try.func42, Try.ntmps42
  go_wp2
  go_loopw [5, 6] (fun v i wr => ∃ k s : Nat, k ≤ n ∧ i = .int .i64 k ∧ v = .float .f32 s ∧ cls .f32 s = dotC X Y k ∧ Drew w wr) (fun _ i _ => n - (intOf i).toNat)
  case atStart => exact ⟨0, 0, Nat.zero_le _, rfl, rfl, rfl, Drew.refl _⟩
  case round =>
    obtain ⟨k, s, hk, rfl, rfl, hs, hwr⟩ := hrel
    have Hw := Lib.hid hwr
    have Hs := Lib.hid hs
    clear hs
    by_cases hlt : k < n
    · have cx : wr.cell? ⟨g, k, none⟩ = some (.float .f32 (X k)) := (hwr.cell _).trans (hx k hlt)
      have cy : wr.cell? ⟨h, k, none⟩ = some (.float .f32 (Y k)) := (hwr.cell _).trans (hy k hlt)
      have hlt' : (k : Int) < (n : Int) := by omega
      have hk0 : (0 : Int) ≤ (k : Int) := by omega
      clear hwr hx hy
      go_wp2
      go_region_with (first | (refine upon_fop .mul rfl _ .f32 _ _ ?_; intro τ q) | (refine upon_fop .add rfl _ .f32 _ _ ?_; intro τ q))
      all_goals
        go_wp2
        go_roundw
        case rel => exact ⟨k + 1, _, by omega, by go_num, rfl, by simp only [cls_rep' (nn_fop _ _ _ _), Hs.out]; rfl, by repeat (first | exact Hw.out | refine Drew.drewN ?_ _ | refine Drew.drew ?_)⟩
        case measure => simp [intOf]; omega
    · have hkn : k = n := by omega
      subst hkn
      clear hwr
      go_wp2
      go_ret
      exact ⟨_, rfl, Hs.out, Hw.out⟩

theorem dotR_yes {X Y : Nat → Nat} {n : Nat} (h : n ≤ 256) : dotR X Y n n = dotC X Y n ∧ okD n n = true := by
  have : okD n n = true := by simp [okD, h]
  exact ⟨by unfold dotR; rw [if_pos this], this⟩
theorem dotR_no {X Y : Nat → Nat} {n m : Nat} (h : ¬ (n ≤ 256 ∧ n = m)) : dotR X Y n m = cls .f32 0 ∧ okD n m = false := by
  have : okD n m = false := by simpa [okD] using h
  exact ⟨by unfold dotR; rw [this]; rfl, this⟩

set_option maxHeartbeats 400000 in
theorem dotS (g h : Nat) (X Y : Nat → Nat) (n m c d : Nat) (w : World) (hx : F32s w g X n) (hy : F32s w h Y m) (hb : n ≤ 1048576) (hbm : m ≤ 1048576) :
    Calls Try.prog 14 #[.slice (some ⟨g, 0, none⟩) n c, .slice (some ⟨h, 0, none⟩) m d] w fun e w' => ∃ r, e = .returned (.tuple #[.float .f32 r, .bool (okD n m)]) ∧ cls .f32 r = dotR X Y n m ∧ Drew w w' := by
  by_cases h1 : n ≤ 256
  · have hd : decide ((n : Int) ≤ 256) = true := by simp; omega
    by_cases h2 : n = m
    · subst h2
      obtain ⟨e1, e2⟩ := dotR_yes (X := X) (Y := Y) h1
      have E1 := Lib.hid e1
      have E2 := Lib.hid e2
      clear e1 e2
      go_enter Try.func14, Try.ntmps14
      go_wp2_with (first | (go_at_call 41; refine (l01Few_any _ _ _ _).mono ?_; rintro e w' ⟨rfl, rfl⟩) | (go_at_call 42; refine (l01Dot_any _ _ _ _ _ _ _ _ hx hy hb).mono ?_; rintro e w' ⟨r, rfl, hr, hd⟩; have Hr := Lib.hid hr; have Hd := Lib.hid hd; clear hr hd))
      go_ret2
      exact ⟨_, by rw [E2.out]; rfl, Hr.out.trans E1.out.symm, Hd.out⟩
    · obtain ⟨e1, e2⟩ := dotR_no (X := X) (Y := Y) (n := n) (m := m) (by omega)
      have E1 := Lib.hid e1
      have E2 := Lib.hid e2
      have hne : ((n : Int) != (m : Int)) = true := by rw [bne_iff_ne]; omega
      clear e1 e2
      go_enter Try.func14, Try.ntmps14
      go_wp2_with (first | (go_at_call 41; refine (l01Few_any _ _ _ _).mono ?_; rintro e w' ⟨rfl, rfl⟩))
      go_ret2
      exact ⟨_, by rw [E2.out]; rfl, E1.out.symm, Drew.refl _⟩
  · obtain ⟨e1, e2⟩ := dotR_no (X := X) (Y := Y) (n := n) (m := m) (by omega)
    have E1 := Lib.hid e1
    have E2 := Lib.hid e2
    have hd : decide ((n : Int) ≤ 256) = false := by simp; omega
    clear e1 e2
    go_enter Try.func14, Try.ntmps14
    go_wp2_with (first | (go_at_call 41; refine (l01Few_any _ _ _ _).mono ?_; rintro e w' ⟨rfl, rfl⟩))
    go_ret2
    exact ⟨_, by rw [E2.out]; rfl, E1.out.symm, Drew.refl _⟩
set_option maxHeartbeats 1000000 in
theorem dotI (g h : Nat) (X Y : Nat → Nat) (n m c d : Nat) (w : World) (hx : F32s w g X n) (hy : F32s w h Y m) (hb : n ≤ 1048576) (hbm : m ≤ 1048576) :
    Calls Try.prog 16 #[.slice (some ⟨g, 0, none⟩) n c, .slice (some ⟨h, 0, none⟩) m d] w fun e w' => ∃ r, e = .returned (.tuple #[.float .f32 r, .bool (okD n m)]) ∧ cls .f32 r = dotR X Y n m ∧ Drew w w' := by
  by_cases h1 : (n : Int) ≤ 256
  · by_cases h2 : n = m
    · subst h2
      obtain ⟨e1, e2⟩ := dotR_yes (X := X) (Y := Y) (show n ≤ 256 by omega)
      have E1 := Lib.hid e1
      have E2 := Lib.hid e2
      clear e1 e2
      go_enter Try.func16, Try.ntmps16
      go_wp2
      go_loopw [6, 20] (fun v i wr => ∃ k s : Nat, k ≤ n ∧ i = .int .i64 k ∧ v = .float .f32 s ∧ cls .f32 s = dotC X Y k ∧ Drew w wr) (fun _ i _ => n - (intOf i).toNat)
      case atStart => exact ⟨0, 0, Nat.zero_le _, rfl, rfl, rfl, Drew.refl _⟩
      case round =>
        obtain ⟨k, s, hk, rfl, rfl, hs, hwr⟩ := hrel
        have Hw := Lib.hid hwr
        have Hs := Lib.hid hs
        clear hs
        by_cases hlt : k < n
        · have cx : wr.cell? ⟨g, k, none⟩ = some (.float .f32 (X k)) := (hwr.cell _).trans (hx k hlt)
          have cy : wr.cell? ⟨h, k, none⟩ = some (.float .f32 (Y k)) := (hwr.cell _).trans (hy k hlt)
          have hlt' : (k : Int) < (n : Int) := by omega
          have hk0 : (0 : Int) ≤ (k : Int) := by omega
          clear hwr hx hy
          go_wp2
          go_region_with (first | (refine upon_fop .mul rfl _ .f32 _ _ ?_; intro τ q) | (refine upon_fop .add rfl _ .f32 _ _ ?_; intro τ q))
          all_goals
            go_wp2
            go_roundw
            case rel => exact ⟨k + 1, _, by omega, by go_num, rfl, by simp only [cls_rep' (nn_fop _ _ _ _), Hs.out]; rfl, by repeat (first | exact Hw.out | refine Drew.drewN ?_ _ | refine Drew.drew ?_)⟩
            case measure => simp [intOf]; omega
        · have hkn : k = n := by omega
          subst hkn
          clear hwr
          go_wp2
          go_ret2
          exact ⟨_, by rw [E2.out]; rfl, Hs.out.trans E1.out.symm, Hw.out⟩
    · obtain ⟨e1, e2⟩ := dotR_no (X := X) (Y := Y) (n := n) (m := m) (by omega)
      have E1 := Lib.hid e1
      have E2 := Lib.hid e2
      have hne : ((n : Int) != (m : Int)) = true := by rw [bne_iff_ne]; omega
      have hgt : decide ((256 : Int) < (n : Int)) = false := by simp; omega
      clear e1 e2
      go_enter Try.func16, Try.ntmps16
      go_wp2
      go_ret2
      exact ⟨_, by rw [E2.out]; rfl, E1.out.symm, Drew.refl _⟩
  · obtain ⟨e1, e2⟩ := dotR_no (X := X) (Y := Y) (n := n) (m := m) (by omega)
    have E1 := Lib.hid e1
    have E2 := Lib.hid e2
    have hgt : decide ((256 : Int) < (n : Int)) = true := by simp; omega
    clear e1 e2
    go_enter Try.func16, Try.ntmps16
    go_wp2
    go_ret2
    exact ⟨_, by rw [E2.out]; rfl, E1.out.symm, Drew.refl _⟩
end Go.Proofs.Ytcjkelnhikhbhaa
