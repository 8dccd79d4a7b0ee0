/- Contracts of both texts' AreLives, with what they call. -/
import Derived.Test.YtceckapldohkdaaLife
import Derived.Shelf.Abstract
namespace Go.Proofs.Ytceckapldohkdaa
open Go.RowKit Go.Deep Flt

/-- one of the first -/
def anyB (p : Nat → Bool) : Nat → Bool
  | 0 => false
  | n + 1 => anyB p n || p n
theorem anyB_hit {p : Nat → Bool} {k n : Nat} (hk : k < n) (h : p k = true) : anyB p n = true := by
  induction n with
  | zero => omega
  | succ n ih =>
    unfold anyB
    rcases Nat.lt_or_eq_of_le (Nat.le_of_lt_succ hk) with h1 | h1
    · rw [ih h1]; rfl
    · subst h1; rw [h]; simp
theorem anyB_miss {p : Nat → Bool} {n : Nat} (h : ∀ k, k < n → p k = false) : anyB p n = false := by
  induction n with
  | zero => rfl
  | succ n ih => unfold anyB; rw [ih fun k hk => h k (by omega), h n (by omega)]; rfl
/-- greater than 0 -/
def gtB (c : Option Nat) : Bool := ford .f32 c (cls .f32 0) == some .gt
/-- finite and greater than 0 -/
def aboveB (c : Option Nat) : Bool := finB c && gtB c
/-- few lives, all of them above 0 -/
def livesB (X : Nat → Nat) (n : Nat) : Bool := decide (1 ≤ n) && (decide (n ≤ 48) && !anyB (fun i => !aboveB (cls .f32 (X i))) n)

theorem areMore1_any (b : Nat) (w : World) :
    Calls Try.prog 84 #[.float .f32 b] w fun e w' => e = .returned (.bool (!aboveB (cls .f32 b))) ∧ Below w.heap.size w w' := by
  cases hf : finB (cls .f32 b)
  · have H := Lib.hid (show (!aboveB (cls .f32 b)) = true by unfold aboveB; rw [hf]; rfl)
    go_enter Try.func84, Try.ntmps84
    go_wp2_with (first | (go_at_call 85; refine (isFinite_any _ _).mono ?_; rintro e w' ⟨n, rfl, rfl⟩))
    go_ret
    exact ⟨by rw [H.out]; rfl, by repeat (first | exact Below.refl _ _ | refine below_drewN ?_ _ | refine Below.drew ?_)⟩
  · have H := Lib.hid (show (!aboveB (cls .f32 b)) = !gtB (cls .f32 b) by unfold aboveB; rw [hf]; rfl)
    go_enter Try.func84, Try.ntmps84
    go_wp2_with (first | (go_at_call 85; refine (isFinite_any _ _).mono ?_; rintro e w' ⟨n, rfl, rfl⟩))
    go_ret
    exact ⟨by rw [H.out]; rfl, by repeat (first | exact Below.refl _ _ | refine below_drewN ?_ _ | refine Below.drew ?_)⟩
set_option maxHeartbeats 400000 in
theorem indexF32_any (fn : Nat) (p : Nat → Bool) (g c n : Nat) (X : Nat → Nat) (w : World) (eg : ∀ args w, (callFunc fn args).run Try.prog w = .ok (.enter fn args) w)
    (hp : ∀ W i, i < n → Below w.heap.size w W → Calls Try.prog fn #[.float .f32 (X i)] W fun e w' => e = .returned (.bool (p i)) ∧ Below W.heap.size W w') (hx : F32s w g X n) (hn : n ≤ 1048576) :
    Calls Try.prog 98 #[.slice (some ⟨g, 0, none⟩) n c, .func (.func fn) #[] #[]] w fun e w' => ∃ r : Int, e = .returned (.int .i64 r) ∧ decide (0 ≤ r) = anyB p n ∧ Below w.heap.size w w' := by
  go_enter Try.func98, Try.ntmps98
  go_wp2
  go_loopw [5, 8] (fun _ i wr => ∃ k : Nat, k ≤ n ∧ i = .int .i64 k ∧ (∀ j, j < k → p j = false) ∧ Below w.heap.size w wr) (fun _ i _ => n - (intOf i).toNat)
  case atStart => exact ⟨0, Nat.zero_le _, rfl, fun j hj => by omega, Below.refl _ _⟩
  case round =>
    obtain ⟨k, hk, rfl, hno, hwr⟩ := hrel
    have Hn := Lib.hid hno
    have Hw := Lib.hid hwr
    by_cases hlt : k < n
    · have cx : wr.cell? ⟨g, k, none⟩ = some (.float .f32 (X k)) := (hx.below hwr) k hlt
      have hlt' : (k : Int) < (n : Int) := by omega
      have hk0 : (0 : Int) ≤ (k : Int) := by omega
      have hcall := hp wr k hlt hwr
      clear hwr hx hp hno
      cases hq : p k
      · rw [hq] at hcall
        have Hq := Lib.hid hq
        clear hq
        go_wp2_with (go_at_fn fn; refine hcall.mono ?_; rintro e w' ⟨rfl, hb'⟩; have Hb := Lib.hid hb'; clear hb')
        go_roundw
        case rel =>
          refine ⟨k + 1, by omega, by go_num, fun j hj => ?_, Hw.out.trans (Hb.out.mono Hw.out.size)⟩
          by_cases e : j = k
          · rw [e]; exact Hq.out
          · exact Hn.out j (by omega)
        case measure => simp [intOf]; omega
      · rw [hq] at hcall
        have Hq := Lib.hid hq
        clear hq
        go_wp2_with (go_at_fn fn; refine hcall.mono ?_; rintro e w' ⟨rfl, hb'⟩; have Hb := Lib.hid hb'; clear hb')
        go_ret
        exact ⟨k, rfl, by rw [anyB_hit hlt Hq.out]; simp, Hw.out.trans (Hb.out.mono Hw.out.size)⟩
    · obtain rfl : k = n := by omega
      clear hwr hno hp hx
      go_wp2
      go_ret
      exact ⟨-1, rfl, by rw [anyB_miss Hn.out]; decide, Hw.out⟩
theorem containsF32_any (fn : Nat) (p : Nat → Bool) (g c n : Nat) (X : Nat → Nat) (w : World) (eg : ∀ args w, (callFunc fn args).run Try.prog w = .ok (.enter fn args) w)
    (hp : ∀ W i, i < n → Below w.heap.size w W → Calls Try.prog fn #[.float .f32 (X i)] W fun e w' => e = .returned (.bool (p i)) ∧ Below W.heap.size W w') (hx : F32s w g X n) (hn : n ≤ 1048576) :
    Calls Try.prog 83 #[.slice (some ⟨g, 0, none⟩) n c, .func (.func fn) #[] #[]] w fun e w' => e = .returned (.bool (anyB p n)) ∧ Below w.heap.size w w' := by
  have hcon := indexF32_any fn p g c n X w eg hp hx hn
  clear hp hx eg
  have HC := Lib.hid hcon
  clear hcon
  go_enter Try.func83, Try.ntmps83
  go_wp2_with fail
  refine HC.out.mono ?_
  rintro e w' ⟨r, rfl, hr, hb⟩
  have Hr := Lib.hid hr
  have Hb := Lib.hid hb
  clear hr hb
  go_wp2
  go_ret
  exact ⟨by rw [← Hr.out]; rfl, Hb.out⟩
theorem areMore_any (g n c : Nat) (X : Nat → Nat) (w : World) (hx : F32s w g X n) (hn : n ≤ 1048576) :
    Calls Try.prog 50 #[.slice (some ⟨g, 0, none⟩) n c] w fun e w' => e = .returned (.bool (!anyB (fun i => !aboveB (cls .f32 (X i))) n)) ∧ Below w.heap.size w w' := by
  have hcon := containsF32_any 84 (fun i => !aboveB (cls .f32 (X i))) g c n X w (enters_of Try.func84 (by kernel_rfl) rfl) (fun W i _ _ => areMore1_any (X i) W) hx hn
  have HC := Lib.hid hcon
  clear hcon hx
  generalize anyB (fun i => !aboveB (cls .f32 (X i))) n = r at *
  go_enter Try.func50, Try.ntmps50
  go_wp2_with fail
  refine HC.out.mono ?_
  rintro e w' ⟨rfl, hb⟩
  have Hb := Lib.hid hb
  clear hb
  go_wp2
  go_ret
  exact ⟨rfl, Hb.out⟩
theorem areMore_one (g c b : Nat) (w : World) (hx : w.cell? ⟨g, 0, none⟩ = some (.float .f32 b)) :
    Calls Try.prog 50 #[.slice (some ⟨g, 0, none⟩) 1 c] w fun e w' => e = .returned (.bool (aboveB (cls .f32 b))) ∧ Below w.heap.size w w' := by
  have h := areMore_any g 1 c (fun _ => b) w (fun i hi => by obtain rfl : i = 0 := by omega
                                                             exact hx) (by omega)
  have e : (!anyB (fun _ => !aboveB (cls .f32 b)) 1) = aboveB (cls .f32 b) := by unfold anyB anyB; cases aboveB (cls .f32 b) <;> rfl
  rw [e] at h
  exact h
theorem areLives1_any (x : Nat) (f : Bool) (w : World) :
    Calls Try.prog 49 #[.agg #[.float .f32 x, .bool f]] w fun e w' => e = .returned (.bool (!aboveB (cls .f32 x))) ∧ Below w.heap.size w w' := by
  go_enter Try.func49, Try.ntmps49
  go_wp2_with fail
  refine (areMore_one _ _ x _ (by go_simp)).mono ?_
  rintro e w' ⟨rfl, hb⟩
  have Hb := Lib.hid hb
  clear hb
  go_wp2
  go_ret
  exact ⟨rfl, ((((Below.refl _ _).alloc (Nat.le_refl _) _).alloc (by simp) _).trans (Hb.out.mono (by simp; omega)))⟩
set_option maxHeartbeats 400000 in
theorem indexLife_any (fn : Nat) (p : Nat → Bool) (g c n : Nat) (X : Nat → Nat) (F : Nat → Bool) (w : World) (eg : ∀ args w, (callFunc fn args).run Try.prog w = .ok (.enter fn args) w)
    (hp : ∀ W i, i < n → Below w.heap.size w W → Calls Try.prog fn #[.agg #[.float .f32 (X i), .bool (F i)]] W fun e w' => e = .returned (.bool (p i)) ∧ Below W.heap.size W w') (hx : LivesAt w g 0 X F n) (hn : n ≤ 1048576) :
    Calls Try.prog 82 #[.slice (some ⟨g, 0, none⟩) n c, .func (.func fn) #[] #[]] w fun e w' => ∃ r : Int, e = .returned (.int .i64 r) ∧ decide (0 ≤ r) = anyB p n ∧ Below w.heap.size w w' := by
  go_enter Try.func82, Try.ntmps82
  go_wp2
  go_loopw [5, 8] (fun _ i wr => ∃ k : Nat, k ≤ n ∧ i = .int .i64 k ∧ (∀ j, j < k → p j = false) ∧ Below w.heap.size w wr) (fun _ i _ => n - (intOf i).toNat)
  case atStart => exact ⟨0, Nat.zero_le _, rfl, fun j hj => by omega, Below.refl _ _⟩
  case round =>
    obtain ⟨k, hk, rfl, hno, hwr⟩ := hrel
    have Hn := Lib.hid hno
    have Hw := Lib.hid hwr
    by_cases hlt : k < n
    · obtain ⟨cx, cy⟩ := (hx.below hwr) k hlt
      rw [Nat.zero_add] at cx cy
      have hlt' : (k : Int) < (n : Int) := by omega
      have hk0 : (0 : Int) ≤ (k : Int) := by omega
      have hcall := hp wr k hlt hwr
      clear hwr hx hp hno
      cases hq : p k
      · rw [hq] at hcall
        have Hq := Lib.hid hq
        clear hq
        go_wp2_with (go_at_fn fn; refine hcall.mono ?_; rintro e w' ⟨rfl, hb'⟩; have Hb := Lib.hid hb'; clear hb')
        go_roundw
        case rel =>
          refine ⟨k + 1, by omega, by go_num, fun j hj => ?_, Hw.out.trans (Hb.out.mono Hw.out.size)⟩
          by_cases e : j = k
          · rw [e]; exact Hq.out
          · exact Hn.out j (by omega)
        case measure => simp [intOf]; omega
      · rw [hq] at hcall
        have Hq := Lib.hid hq
        clear hq
        go_wp2_with (go_at_fn fn; refine hcall.mono ?_; rintro e w' ⟨rfl, hb'⟩; have Hb := Lib.hid hb'; clear hb')
        go_ret
        exact ⟨k, rfl, by rw [anyB_hit hlt Hq.out]; simp, Hw.out.trans (Hb.out.mono Hw.out.size)⟩
    · obtain rfl : k = n := by omega
      clear hwr hno hp hx
      go_wp2
      go_ret
      exact ⟨-1, rfl, by rw [anyB_miss Hn.out]; decide, Hw.out⟩
theorem containsLife_any (fn : Nat) (p : Nat → Bool) (g c n : Nat) (X : Nat → Nat) (F : Nat → Bool) (w : World) (eg : ∀ args w, (callFunc fn args).run Try.prog w = .ok (.enter fn args) w)
    (hp : ∀ W i, i < n → Below w.heap.size w W → Calls Try.prog fn #[.agg #[.float .f32 (X i), .bool (F i)]] W fun e w' => e = .returned (.bool (p i)) ∧ Below W.heap.size W w') (hx : LivesAt w g 0 X F n) (hn : n ≤ 1048576) :
    Calls Try.prog 48 #[.slice (some ⟨g, 0, none⟩) n c, .func (.func fn) #[] #[]] w fun e w' => e = .returned (.bool (anyB p n)) ∧ Below w.heap.size w w' := by
  have hcon := indexLife_any fn p g c n X F w eg hp hx hn
  clear hp hx eg
  have HC := Lib.hid hcon
  clear hcon
  go_enter Try.func48, Try.ntmps48
  go_wp2_with fail
  refine HC.out.mono ?_
  rintro e w' ⟨r, rfl, hr, hb⟩
  have Hr := Lib.hid hr
  have Hb := Lib.hid hb
  clear hr hb
  go_wp2
  go_ret
  exact ⟨by rw [← Hr.out]; rfl, Hb.out⟩
theorem areLivesI (g n c : Nat) (X : Nat → Nat) (F : Nat → Bool) (w : World) (hx : LivesAt w g 0 X F n) (hn : n ≤ 1048576) :
    Calls Try.prog 17 #[.slice (some ⟨g, 0, none⟩) n c] w fun e w' => e = .returned (.bool (livesB X n)) ∧ Below w.heap.size w w' := by
  by_cases h1 : 1 ≤ n
  · have h1' : (1 : Int) ≤ (n : Int) := by omega
    by_cases h2 : n ≤ 48
    · have h2' : (n : Int) ≤ 48 := by omega
      have HL := Lib.hid (show livesB X n = !anyB (fun i => !aboveB (cls .f32 (X i))) n by unfold livesB; rw [decide_eq_true h1, decide_eq_true h2]; rfl)
      have hcon := containsLife_any 49 (fun i => !aboveB (cls .f32 (X i))) g c n X F w (enters_of Try.func49 (by kernel_rfl) rfl) (fun W i _ _ => areLives1_any (X i) (F i) W) hx hn
      have HC := Lib.hid hcon
      clear hcon hx
      generalize anyB (fun i => !aboveB (cls .f32 (X i))) n = r at *
      go_enter Try.func17, Try.ntmps17
      go_wp2_with fail
      refine HC.out.mono ?_
      rintro e w' ⟨rfl, hb⟩
      have Hb := Lib.hid hb
      clear hb
      go_wp2
      go_ret
      exact ⟨by rw [HL.out]; rfl, Hb.out⟩
    · have h2' : decide ((n : Int) ≤ 48) = false := by simp; omega
      have HL := Lib.hid (show livesB X n = false by unfold livesB; rw [decide_eq_false h2]; simp)
      go_enter Try.func17, Try.ntmps17
      go_wp2
      go_ret
      exact ⟨by rw [HL.out]; rfl, Below.refl _ _⟩
  · have h1' : decide ((1 : Int) ≤ (n : Int)) = false := by simp; omega
    have HL := Lib.hid (show livesB X n = false by unfold livesB; rw [decide_eq_false h1]; simp)
    go_enter Try.func17, Try.ntmps17
    go_wp2
    go_ret
    exact ⟨by rw [HL.out]; rfl, Below.refl _ _⟩
theorem l02Above_any (b : Nat) (w : World) :
    Calls Try.prog 64 #[.float .f32 b] w fun e w' => e = .returned (.bool (aboveB (cls .f32 b))) ∧ Drew w w' := by
  cases hf : finB (cls .f32 b)
  · have H := Lib.hid (show aboveB (cls .f32 b) = false by unfold aboveB; rw [hf]; rfl)
    go_enter Try.func64, Try.ntmps64
    go_wp2_with (first | (go_at_call 88; refine (l01Finite_any _ _).mono ?_; rintro e w' ⟨n, rfl, rfl⟩))
    go_ret
    exact ⟨by rw [H.out]; rfl, by repeat (first | exact Drew.refl _ | refine Drew.drewN ?_ _ | refine Drew.drew ?_)⟩
  · have H := Lib.hid (show aboveB (cls .f32 b) = gtB (cls .f32 b) by unfold aboveB; rw [hf]; rfl)
    go_enter Try.func64, Try.ntmps64
    go_wp2_with (first | (go_at_call 88; refine (l01Finite_any _ _).mono ?_; rintro e w' ⟨n, rfl, rfl⟩))
    go_ret
    exact ⟨by rw [H.out]; rfl, by repeat (first | exact Drew.refl _ | refine Drew.drewN ?_ _ | refine Drew.drew ?_)⟩
set_option maxHeartbeats 400000 in
theorem l02Lives_any (g n c : Nat) (X : Nat → Nat) (F : Nat → Bool) (w : World) (hx : LivesAt w g 0 X F n) (hn : n ≤ 1048576) :
    Calls Try.prog 46 #[.slice (some ⟨g, 0, none⟩) n c] w fun e w' => e = .returned (.bool (livesB X n)) ∧ Drew w w' := by
  go_enter Try.func46, Try.ntmps46
  go_wp2
  go_loopw [3] (fun i wr => ∃ k : Nat, k ≤ n ∧ i = .int .i64 k ∧ (∀ j, j < k → (!aboveB (cls .f32 (X j))) = false) ∧ Drew w wr) (fun i _ => n - (intOf i).toNat)
  case atStart => exact ⟨0, Nat.zero_le _, rfl, fun j hj => by omega, Drew.refl _⟩
  case round =>
    obtain ⟨k, hk, rfl, hno, hwr⟩ := hrel
    have Hn := Lib.hid hno
    have Hw := Lib.hid hwr
    by_cases hlt : k < n
    · obtain ⟨cx, _⟩ := (hx.drew hwr) k hlt
      rw [Nat.zero_add] at cx
      have hlt' : (k : Int) < (n : Int) := by omega
      have hk0 : (0 : Int) ≤ (k : Int) := by omega
      clear hwr hx hno
      cases hq : aboveB (cls .f32 (X k))
      · have HL := Lib.hid (show livesB X n = false by unfold livesB; rw [anyB_hit (p := fun i => !aboveB (cls .f32 (X i))) hlt (by show (!aboveB (cls .f32 (X k))) = true; rw [hq]; rfl)]; simp)
        have Hq := Lib.hid hq
        clear hq
        go_wp2_with fail
        refine (l02Above_any _ _).mono ?_
        rintro e w1 ⟨rfl, hd⟩
        rw [Hq.out]
        have Hd := Lib.hid hd
        clear hd
        go_wp2
        go_ret
        exact ⟨by rw [HL.out]; rfl, Hw.out.trans Hd.out⟩
      · have Hq := Lib.hid hq
        clear hq
        go_wp2_with fail
        refine (l02Above_any _ _).mono ?_
        rintro e w1 ⟨rfl, hd⟩
        rw [Hq.out]
        have Hd := Lib.hid hd
        clear hd
        go_wp2
        go_roundw
        case rel =>
          refine ⟨k + 1, by omega, by go_num, fun j hj => ?_, Hw.out.trans Hd.out⟩
          by_cases e : j = k
          · rw [e, Hq.out]; rfl
          · exact Hn.out j (by omega)
        case measure => simp [intOf]; omega
    · obtain rfl : k = n := by omega
      have HL := Lib.hid (show livesB X k = (decide (1 ≤ k) && decide (k ≤ 48)) by unfold livesB; rw [anyB_miss hno]; simp)
      clear hwr hx hno
      by_cases h1 : 1 ≤ k
      · have h1' : (1 : Int) ≤ (k : Int) := by omega
        go_wp2
        go_ret
        exact ⟨by rw [HL.out, decide_eq_true h1]; simp only [Bool.true_and]; exact congrArg (fun b => Ending.returned (.bool b)) (decide_eq_decide.2 (by omega)), Hw.out⟩
      · have h1' : decide ((1 : Int) ≤ (k : Int)) = false := by simp; omega
        go_wp2
        go_ret
        exact ⟨by rw [HL.out, decide_eq_false h1]; rfl, Hw.out⟩
theorem areLivesS (g n c : Nat) (X : Nat → Nat) (F : Nat → Bool) (w : World) (hx : LivesAt w g 0 X F n) (hn : n ≤ 1048576) :
    Calls Try.prog 15 #[.slice (some ⟨g, 0, none⟩) n c] w fun e w' => e = .returned (.bool (livesB X n)) ∧ Drew w w' := by
  have HC := Lib.hid (l02Lives_any g n c X F w hx hn)
  clear hx
  generalize livesB X n = r at *
  go_enter Try.func15, Try.ntmps15
  go_wp2_with fail
  refine HC.out.mono ?_
  rintro e w' ⟨rfl, hb⟩
  have Hb := Lib.hid hb
  clear hb
  go_wp2
  go_ret
  exact ⟨rfl, Hb.out⟩
end Go.Proofs.Ytceckapldohkdaa
