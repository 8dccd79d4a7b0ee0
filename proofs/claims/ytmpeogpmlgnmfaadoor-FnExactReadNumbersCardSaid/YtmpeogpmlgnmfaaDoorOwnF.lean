/- Slices of float32 that a call has made: what marks them, what finds the marks, whether two are the same. -/
import Derived.Test.YtmpeogpmlgnmfaaDoorOwn
import Derived.Test.YtmpeogpmlgnmfaaDoorArr
namespace Go.Proofs.YtmpeogpmlgnmfaaDoor
open Go.RowKit Go.Deep Flt

theorem ofInt_rung (z : Int) : rung FloatKind.f32.format (floatOfInt .f32 z) ≤ FloatKind.f32.format.infRung := by
  show rung FloatKind.f32.format (FloatKind.f32.format.write (.number _ _ 0)) ≤ _
  exact rung_write rfl
theorem ofInt_cls (z : Int) : cls .f32 (floatOfInt .f32 z) = some (floatOfInt .f32 z) := by
  unfold cls
  rw [if_pos (ofInt_rung z)]
set_option maxHeartbeats 400000 in
theorem markF32_any (A : Option Addr) (n c : Nat) (f : Nat → Value) (lo hi : Nat) (k0 : Nat) (w : World) (h : OwnV w 52 A n f lo hi) (hn : n ≤ 4000000) (hk : k0 ≤ 4000000) :
    Calls Tryd.prog 28 #[.slice A n c, .int .i64 (k0 : Int)] w fun e w' => e = .returned (.int .i64 ((k0 + n : Nat) : Int)) ∧ OwnV w' 52 A n (fun i => .float .f32 (floatOfInt .f32 ((k0 + i : Nat) : Int))) lo hi ∧ Touched w w' lo hi := by
  rcases h with h0 | ⟨g, m, h, rfl, h1, h2, hr, hm, hf⟩
  · subst h0
    go_enter Tryd.func28, Tryd.ntmps28
    go_wp2
    go_loopw [1, 5] (fun tk ti wx => ti = .int .i64 0 ∧ tk = .int .i64 (k0 : Int) ∧ wx = w) (fun _ _ _ => 0)
    case atStart => exact ⟨rfl, rfl, rfl⟩
    case round =>
      obtain ⟨rfl, rfl, rfl⟩ := hrel
      go_wp2
      go_ret
      exact ⟨rfl, .inl rfl, Touched.refl _ _ _⟩
  · go_enter Tryd.func28, Tryd.ntmps28
    go_wp2
    go_loopw [1, 5] (fun tk ti wx => ∃ j : Nat, j ≤ n ∧ ti = .int .i64 j ∧ tk = .int .i64 ((k0 + j : Nat) : Int) ∧ (∃ h', wx.rowIs g 52 m h' ∧ ∀ i, i < j → h' i = .float .f32 (floatOfInt .f32 ((k0 + i : Nat) : Int))) ∧ Touched w wx lo hi) (fun _ ti _ => n - (intOf ti).toNat)
    case atStart => exact ⟨0, Nat.zero_le _, rfl, rfl, ⟨h, hr, fun i hi => by omega⟩, Touched.refl _ _ _⟩
    case round =>
      obtain ⟨j, hj, rfl, rfl, ⟨h', hr', hh'⟩, ht⟩ := hrel
      have HT := Lib.hid ht
      have HH := Lib.hid hh'
      by_cases hlt : j < n
      · have hlt' : (j : Int) < (n : Int) := by omega
        have cj := hr'.cell (i := j) (by omega)
        have fj := hr'.frozen j
        have HS := Lib.hid (hr'.set j (.float .f32 (floatOfInt .f32 ((k0 + j : Nat) : Int))))
        have HG := Lib.hid (ht.set (g := g) (by omega) (by omega) j (.float .f32 (floatOfInt .f32 ((k0 + j : Nat) : Int))))
        clear hr' hh' ht hr hf
        go_wp2
        go_roundw
        case rel =>
          refine ⟨j + 1, by omega, by go_num, congrArg (Value.int .i64) (by omega), ⟨_, HS.out, fun i hi => ?_⟩, HG.out⟩
          by_cases e : i = j
          · simp [e]
          · simp only [e, if_false]; exact HH.out i (by omega)
        case measure => simp [intOf]; omega
      · obtain rfl : j = n := by omega
        have HR := Lib.hid (show OwnV wr 52 (some ⟨g, 0, none⟩) j (fun i => .float .f32 (floatOfInt .f32 ((k0 + i : Nat) : Int))) lo hi from .inr ⟨g, m, h', rfl, h1, h2, hr', hm, hh'⟩)
        clear hr' hh' ht hr hf
        go_wp2
        go_ret
        exact ⟨rfl, HR.out, HT.out⟩
set_option maxHeartbeats 400000 in
theorem heldF32_any (A : Option Addr) (n c : Nat) (lo hi : Nat) (k0 : Nat) (w : World) (h : OwnV w 52 A n (fun i => .float .f32 (floatOfInt .f32 ((k0 + i : Nat) : Int))) lo hi) (hn : n ≤ 4000000) (hk : k0 ≤ 4000000) :
    Calls Tryd.prog 29 #[.slice A n c, .int .i64 (k0 : Int)] w fun e w' => e = .returned (.int .i64 ((k0 + n : Nat) : Int)) ∧ w = w' := by
  go_enter Tryd.func29, Tryd.ntmps29
  go_wp2
  go_loopw [1, 5] (fun tk ti wx => ∃ j : Nat, j ≤ n ∧ ti = .int .i64 j ∧ tk = .int .i64 ((k0 + j : Nat) : Int) ∧ wx = w) (fun _ ti _ => n - (intOf ti).toNat)
  case atStart => exact ⟨0, Nat.zero_le _, rfl, rfl, rfl⟩
  case round =>
    obtain ⟨j, hj, rfl, rfl, rfl⟩ := hrel
    by_cases hlt : j < n
    · have hlt' : (j : Int) < (n : Int) := by omega
      rcases h with h0 | ⟨g, m, h, rfl, h1, h2, hr, hm, hf⟩
      · omega
      have cj := hr.cell (i := j) (by omega)
      rw [hf j hlt] at cj
      dsimp only at cj
      have hcl := ofInt_cls ((k0 + j : Nat) : Int)
      have hfs := ford_self (ofInt_rung ((k0 + j : Nat) : Int))
      rw [Int.natCast_add] at cj hcl hfs
      clear hr hf
      go_wp2
      go_roundw
      case rel => exact ⟨j + 1, by omega, by go_num, congrArg (Value.int .i64) (by omega), by first | rfl | trivial⟩
      case measure => simp [intOf]; omega
    · obtain rfl : j = n := by omega
      clear h
      go_wp2
      go_ret
      exact ⟨rfl, rfl⟩
set_option maxHeartbeats 1000000 in
theorem eqF32_own (A : Option Addr) (n c : Nat) (B : Option Addr) (d : Nat) (f g : Nat → Nat) (lo hi lo' hi' : Nat) (w : World) (h : OwnV w 52 A n (fun i => .float .f32 (f i)) lo hi) (k : OwnV w 52 B n (fun i => .float .f32 (g i)) lo' hi') (hs : ∀ i, i < n → cls .f32 (f i) = cls .f32 (g i)) (hn : n ≤ 1048576) :
    Calls Tryd.prog 19 #[.slice A n c, .slice B n d] w fun e w' => e = .returned (.bool true) ∧ Drew w w' := by
  rcases Nat.eq_zero_or_pos n with rfl | h0
  · clear h k
    go_enter Tryd.func19, Tryd.ntmps19
    go_wp2
    go_loopw [5] (fun ti wx => ti = .int .i64 0 ∧ wx = w) (fun ti _ => 0)
    case atStart => exact ⟨rfl, rfl⟩
    case round =>
      obtain ⟨rfl, rfl⟩ := hrel
      go_wp2
      go_ret
      exact ⟨rfl, Drew.refl _⟩
  · rcases h with h1 | ⟨p, m, q, rfl, _, _, hr, hm, hf⟩
    · omega
    rcases k with h1 | ⟨p', m', q', rfl, _, _, hr', hm', hf'⟩
    · omega
    exact eqF32_same p p' f g n c d w (fun i hi => by rw [hr.cell (i := i) (by omega), hf i hi]) (fun i hi => by rw [hr'.cell (i := i) (by omega), hf' i hi]) hs hn
end Go.Proofs.YtmpeogpmlgnmfaaDoor
