/- Contracts on lists of numbers that are told to be the same. -/
import Derived.Test.YtceckapldohkdaaNum
import Derived.Test.YtceckapldohkdaaCells
import Derived.LoopTactic
import Derived.Deep.QuietTactic
import Derived.BigQuiet
namespace Go.Proofs.Ytceckapldohkdaa
open Go.RowKit Flt

/-- two lists have the same numbers -/
def sameAll (X Y : Nat → Nat) : Nat → Bool
  | 0 => true
  | n + 1 => sameAll X Y n && sameB (cls .f32 (X n)) (cls .f32 (Y n))
theorem sameAll_not {X Y : Nat → Nat} {k n : Nat} (hk : k < n) (hs : sameB (cls .f32 (X k)) (cls .f32 (Y k)) = false) : sameAll X Y n = false := by
  induction n with
  | zero => omega
  | succ n ih =>
    unfold sameAll
    rcases Nat.lt_or_eq_of_le (Nat.le_of_lt_succ hk) with h | h
    · rw [ih h]; rfl
    · subst h; rw [hs]; simp

set_option maxHeartbeats 400000 in
theorem l01SameAll_any (g h : Nat) (X Y : Nat → Nat) (n c d : Nat) (w : World) (hx : F32s w g X n) (hy : F32s w h Y n) (lx : Lt32 X n) (ly : Lt32 Y n) (hb : n ≤ 1000000) :
    Calls Try.prog 86 #[.slice (some ⟨g, 0, none⟩) n c, .slice (some ⟨h, 0, none⟩) n d] w fun e w' => ∃ m, e = .returned (.bool (sameAll X Y n)) ∧ w' = w.drewN m := by
  go_enter Try.func86, Try.ntmps86
  go_wp2
  go_loopw [5] (fun i wr => ∃ k m : Nat, k ≤ n ∧ i = .int .i64 k ∧ wr = w.drewN m ∧ sameAll X Y k = true) (fun i _ => n - (intOf i).toNat)
  case atStart => exact ⟨0, 0, Nat.zero_le _, rfl, rfl, rfl⟩
  case round =>
    obtain ⟨k, m, hk, rfl, hwr, ht⟩ := hrel
    have Hw := Lib.hid hwr
    have Ht := Lib.hid ht
    clear ht
    by_cases hlt : k < n
    · have cx : wr.cell? ⟨g, k, none⟩ = some (.float .f32 (X k)) := by rw [hwr]; exact hx k hlt
      have cy : wr.cell? ⟨h, k, none⟩ = some (.float .f32 (Y k)) := by rw [hwr]; exact hy k hlt
      clear hwr
      have bx := lx k hlt
      have b2 := ly k hlt
      have hlt' : (k : Int) < (n : Int) := by omega
      have hk0 : (0 : Int) ≤ (k : Int) := by omega
      cases hs : sameB (cls .f32 (X k)) (cls .f32 (Y k))
      · have Hn := Lib.hid (sameAll_not hlt hs)
        go_wp2
        go_quiet ((go_at_call 99; exact Calls.quiet_of_same ((l01Same_any _ _ _ bx b2).mono fun _ _ ⟨h1, h2⟩ => ⟨h1, h2.symm⟩)))
        go_wp2
        go_ret
        exact ⟨_, by rw [Hn.out]; rfl, by rw [Hw.out, World.drewN_drewN]⟩
      · have Hn := Lib.hid (show sameAll X Y (k + 1) = true by unfold sameAll; rw [Ht.out, hs]; rfl)
        go_wp2
        go_quiet ((go_at_call 99; exact Calls.quiet_of_same ((l01Same_any _ _ _ bx b2).mono fun _ _ ⟨h1, h2⟩ => ⟨h1, h2.symm⟩)))
        go_wp2
        go_roundw
        case rel => exact ⟨k + 1, _, by omega, by go_num, by rw [Hw.out, World.drewN_drewN], Hn.out⟩
        case measure => simp [intOf]; omega
    · have hkn : k = n := by omega
      subst hkn
      clear hwr
      go_wp2
      go_ret
      exact ⟨_, by rw [Ht.out]; rfl, Hw.out⟩
end Go.Proofs.Ytceckapldohkdaa
