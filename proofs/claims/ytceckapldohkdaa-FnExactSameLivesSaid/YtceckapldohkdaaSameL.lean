/- Contracts of both texts' SameLives. -/
import Derived.Test.YtceckapldohkdaaLives
import Derived.Test.YtceckapldohkdaaSame
import Derived.Deep.QuietTactic
import Derived.BigQuiet
namespace Go.Proofs.Ytceckapldohkdaa
open Go.RowKit Go.Deep Flt

/-- two lives are the same -/
def lifeSame (x : Nat) (f : Bool) (y : Nat) (g : Bool) : Bool := sameB (cls .f32 x) (cls .f32 y) && (f == g)
/-- two lists have the same lives -/
def sameLB (X : Nat → Nat) (F : Nat → Bool) (n : Nat) (Y : Nat → Nat) (G : Nat → Bool) (m : Nat) : Bool := decide (n = m) && !anyB (fun i => !lifeSame (X i) (F i) (Y i) (G i)) n

theorem one_f32 {w : World} {g x : Nat} (h : w.cell? ⟨g, 0, none⟩ = some (.float .f32 x)) : F32s w g (fun _ => x) 1 := fun i hi => by
  obtain rfl : i = 0 := by omega
  exact h
theorem alloc_below (w : World) (o : Obj) : Below w.heap.size w (w.alloc o) := (Below.refl _ _).alloc (Nat.le_refl _) _
set_option maxHeartbeats 400000 in
theorem sameLives1_any (x : Nat) (f : Bool) (y : Nat) (g : Bool) (w : World) (hx : x < 4294967296) (hy : y < 4294967296) :
    Calls Try.prog 54 #[.agg #[.float .f32 x, .bool f], .agg #[.float .f32 y, .bool g]] w fun e w' => e = .returned (.bool (lifeSame x f y g)) ∧ Below w.heap.size w w' := by
  cases hs : sameB (cls .f32 x) (cls .f32 y)
  · have H := Lib.hid (show lifeSame x f y g = false by unfold lifeSame; rw [hs]; rfl)
    have HS := Lib.hid hs
    clear hs
    go_enter Try.func54, Try.ntmps54
    go_wp2_with fail
    refine (sameNumber_any _ _ _ hx hy).mono ?_
    rintro e w' ⟨n, rfl, rfl⟩
    rw [HS.out]
    go_wp2
    go_ret
    exact ⟨by rw [H.out]; rfl, by repeat (first | exact Below.refl _ _ | refine below_drewN ?_ _ | refine Below.drew ?_ | refine Below.alloc ?_ (by simp; try omega) _)⟩
  · have H := Lib.hid (show lifeSame x f y g = (f == g) by unfold lifeSame; rw [hs]; rfl)
    have HS := Lib.hid hs
    clear hs
    go_enter Try.func54, Try.ntmps54
    go_wp2_with fail
    refine (sameNumber_any _ _ _ hx hy).mono ?_
    rintro e w' ⟨n, rfl, rfl⟩
    rw [HS.out]
    go_wp2
    go_ret
    exact ⟨by rw [H.out]; rfl, by repeat (first | exact Below.refl _ _ | refine below_drewN ?_ _ | refine Below.drew ?_ | refine Below.alloc ?_ (by simp; try omega) _)⟩
set_option maxHeartbeats 1000000 in
theorem equalLife_any (fn : Nat) (p : Nat → Bool) (g c h d n m : Nat) (X : Nat → Nat) (F : Nat → Bool) (Y : Nat → Nat) (G : Nat → Bool) (w : World) (eg : ∀ args w, (callFunc fn args).run Try.prog w = .ok (.enter fn args) w)
    (hp : (n ≤ m ∧ m ≤ n) → ∀ W i, i < n → Below w.heap.size w W → Calls Try.prog fn #[.agg #[.float .f32 (X i), .bool (F i)], .agg #[.float .f32 (Y i), .bool (G i)]] W fun e w' => e = .returned (.bool (p i)) ∧ Below W.heap.size W w')
    (hx : LivesAt w g 0 X F n) (hy : LivesAt w h 0 Y G m) (hn : n ≤ 1048576) :
    Calls Try.prog 53 #[.slice (some ⟨g, 0, none⟩) n c, .slice (some ⟨h, 0, none⟩) m d, .func (.func fn) #[] #[]] w fun e w' => e = .returned (.bool (decide (n = m) && !anyB (fun i => !p i) n)) ∧ Below w.heap.size w w' := by
  by_cases hnm : n = m
  · subst hnm
    have hp1 := hp ⟨Nat.le_refl _, Nat.le_refl _⟩
    clear hp
    have HR := Lib.hid (show (decide (n = n) && !anyB (fun i => !p i) n) = !anyB (fun i => !p i) n by rw [decide_eq_true rfl]; rfl)
    have hne : ((n : Int) != (n : Int)) = false := by simp
    go_enter Try.func53, Try.ntmps53
    go_wp2
    go_loopw [7, 8, 9, 17] (fun _ _ _ i wr => ∃ k : Nat, k ≤ n ∧ i = .int .i64 k ∧ (∀ j, j < k → (!p j) = false) ∧ Below w.heap.size w wr) (fun _ _ _ i _ => n - (intOf i).toNat)
    case atStart => exact ⟨0, Nat.zero_le _, rfl, fun j hj => by omega, Below.refl _ _⟩
    case round =>
      obtain ⟨k, hk, rfl, hno, hwr⟩ := hrel
      have Hn := Lib.hid hno
      have Hw := Lib.hid hwr
      by_cases hlt : k < n
      · obtain ⟨cx, cx'⟩ := (hx.below hwr) k hlt
        obtain ⟨cy, cy'⟩ := (hy.below hwr) k hlt
        rw [Nat.zero_add] at cx cx' cy cy'
        have hlt' : (k : Int) < (n : Int) := by omega
        have hk0 : (0 : Int) ≤ (k : Int) := by omega
        have HC := fun W hb => hp1 W k hlt hb
        have hA := hwr.alloc hwr.size (.cells #[.float .f32 (X k), .bool (F k)] 57)
        obtain ⟨cz, cz'⟩ := (hy.below hA) k hlt
        rw [Nat.zero_add] at cz cz'
        clear hA
        have HW2 := Lib.hid ((hwr.alloc hwr.size (.cells #[.float .f32 (X k), .bool (F k)] 57)).alloc (by simp; have := hwr.size; omega) (.cells #[.float .f32 (Y k), .bool (G k)] 57))
        clear hwr hx hy hp1 hno
        cases hq : p k
        · rw [hq] at HC
          have HR0 := Lib.hid (show anyB (fun i => !p i) n = true from anyB_hit (p := fun i => !p i) hlt (by show (!p k) = true; rw [hq]; rfl))
          have HC2 := Lib.hid (HC _ HW2.out)
          clear hq HC
          go_wp2_with (go_at_fn fn; refine HC2.out.mono ?_; rintro e w' ⟨rfl, hb'⟩; have Hb := Lib.hid hb'; clear hb')
          go_ret
          exact ⟨by rw [HR.out, HR0.out]; rfl, HW2.out.trans (Hb.out.mono HW2.out.size)⟩
        · rw [hq] at HC
          have Hq := Lib.hid hq
          have HC2 := Lib.hid (HC _ HW2.out)
          clear hq HC
          go_wp2_with (go_at_fn fn; refine HC2.out.mono ?_; rintro e w' ⟨rfl, hb'⟩; have Hb := Lib.hid hb'; clear hb')
          go_roundw
          case rel =>
            refine ⟨k + 1, by omega, by go_num, fun j hj => ?_, HW2.out.trans (Hb.out.mono HW2.out.size)⟩
            by_cases e : j = k
            · rw [e, Hq.out]; rfl
            · exact Hn.out j (by omega)
          case measure => simp [intOf]; omega
      · obtain rfl : k = n := by omega
        have HR0 := Lib.hid (show anyB (fun i => !p i) k = false from anyB_miss hno)
        clear hwr hno hp1 hx hy
        go_wp2
        go_ret
        exact ⟨by rw [HR.out, HR0.out]; rfl, Hw.out⟩
  · have hne : ((n : Int) != (m : Int)) = true := by simp; omega
    have HR := Lib.hid (show (decide (n = m) && !anyB (fun i => !p i) n) = false by rw [decide_eq_false hnm]; rfl)
    clear hp hx hy
    go_enter Try.func53, Try.ntmps53
    go_wp2
    go_ret
    exact ⟨by rw [HR.out]; rfl, Below.refl _ _⟩
theorem sameLivesI (g n c h m d : Nat) (X : Nat → Nat) (F : Nat → Bool) (Y : Nat → Nat) (G : Nat → Bool) (w : World) (hx : LivesAt w g 0 X F n) (hy : LivesAt w h 0 Y G m) (lx : Lt32 X n) (ly : Lt32 Y m) (hn : n ≤ 1048576) :
    Calls Try.prog 20 #[.slice (some ⟨g, 0, none⟩) n c, .slice (some ⟨h, 0, none⟩) m d] w fun e w' => e = .returned (.bool (sameLB X F n Y G m)) ∧ Below w.heap.size w w' := by
  have HC := Lib.hid (equalLife_any 54 (fun i => lifeSame (X i) (F i) (Y i) (G i)) g c h d n m X F Y G w (enters_of Try.func54 (by kernel_rfl) rfl) (fun e W i hi _ => sameLives1_any _ _ _ _ _ (lx i hi) (ly i (by have := e.1; omega))) hx hy hn)
  clear hx hy lx ly
  have HR := Lib.hid (show sameLB X F n Y G m = (decide (n = m) && !anyB (fun i => !lifeSame (X i) (F i) (Y i) (G i)) n) from rfl)
  generalize (decide (n = m) && !anyB (fun i => !lifeSame (X i) (F i) (Y i) (G i)) n) = r at *
  go_enter Try.func20, Try.ntmps20
  go_wp2_with fail
  refine HC.out.mono ?_
  rintro e w' ⟨rfl, hb⟩
  have Hb := Lib.hid hb
  clear hb
  go_wp2
  go_ret
  exact ⟨by rw [HR.out]; rfl, Hb.out⟩
set_option maxHeartbeats 2000000 in
theorem l02Same_any (g n c h m d : Nat) (X : Nat → Nat) (F : Nat → Bool) (Y : Nat → Nat) (G : Nat → Bool) (w : World) (hx : LivesAt w g 0 X F n) (hy : LivesAt w h 0 Y G m) (lx : Lt32 X n) (ly : Lt32 Y m) (hn : n ≤ 1048576) :
    Calls Try.prog 52 #[.slice (some ⟨g, 0, none⟩) n c, .slice (some ⟨h, 0, none⟩) m d] w fun e w' => e = .returned (.bool (sameLB X F n Y G m)) ∧ Below w.heap.size w w' := by
  by_cases hnm : n = m
  · subst hnm
    have HR := Lib.hid (show sameLB X F n Y G n = !anyB (fun i => !lifeSame (X i) (F i) (Y i) (G i)) n by unfold sameLB; rw [decide_eq_true rfl]; rfl)
    have hne : ((n : Int) != (n : Int)) = false := by simp
    go_enter Try.func52, Try.ntmps52
    go_wp2
    go_loopw [5] (fun i wr => ∃ k : Nat, k ≤ n ∧ i = .int .i64 k ∧ (∀ j, j < k → (!lifeSame (X j) (F j) (Y j) (G j)) = false) ∧ Below w.heap.size w wr) (fun i _ => n - (intOf i).toNat)
    case atStart => exact ⟨0, Nat.zero_le _, rfl, fun j hj => by omega, Below.refl _ _⟩
    case round =>
      obtain ⟨k, hk, rfl, hno, hwr⟩ := hrel
      have Hn := Lib.hid hno
      have Hw := Lib.hid hwr
      by_cases hlt : k < n
      · obtain ⟨cx, cx'⟩ := (hx.below hwr) k hlt
        obtain ⟨cy, cy'⟩ := (hy.below hwr) k hlt
        rw [Nat.zero_add] at cx cx' cy cy'
        have hlt' : (k : Int) < (n : Int) := by omega
        have hk0 : (0 : Int) ≤ (k : Int) := by omega
        have wx := lx k hlt
        have wy := ly k hlt
        clear hwr hx hy hno lx ly
        cases hq : (F k == G k)
        · have hb : (F k != G k) = true := by unfold bne; rw [hq]; rfl
          have HR0 := Lib.hid (show anyB (fun i => !lifeSame (X i) (F i) (Y i) (G i)) n = true from anyB_hit (p := fun i => !lifeSame (X i) (F i) (Y i) (G i)) hlt (by show (!lifeSame (X k) (F k) (Y k) (G k)) = true; unfold lifeSame; rw [hq]; simp))
          have hG : G k = !F k := by revert hq; cases F k <;> cases G k <;> simp
          rw [hG] at cy'
          clear hq hb hG
          generalize F k = fk at *
          obtain rfl | rfl : fk = true ∨ fk = false := by cases fk <;> simp
          all_goals
            go_wp2
            go_quiet (fail)
            go_wp2
            go_ret
            exact ⟨by rw [HR.out, HR0.out]; rfl, by repeat (first | exact Hw.out | refine below_drewN ?_ _ | refine Below.drew ?_)⟩
        · have hfg : G k = F k := by have : F k = G k := by simpa using hq
                                     exact this.symm
          rw [hfg] at cy'
          have hb : (F k != F k) = false := by simp
          clear hq
          have HS := Lib.hid (show lifeSame (X k) (F k) (Y k) (G k) = sameAll (fun _ => X k) (fun _ => Y k) 1 by unfold lifeSame; rw [hfg]; simp [sameAll])
          clear hfg
          go_wp2
          obtain ⟨wo, rfl⟩ : ∃ wo : World, wo = wr := ⟨_, rfl⟩
          cases hsm : sameAll (fun _ => X k) (fun _ => Y k) 1
          · have HR0 := Lib.hid (show anyB (fun i => !lifeSame (X i) (F i) (Y i) (G i)) n = true from anyB_hit (p := fun i => !lifeSame (X i) (F i) (Y i) (G i)) hlt (by show (!lifeSame (X k) (F k) (Y k) (G k)) = true; rw [HS.out, hsm]; rfl))
            go_region_held3 (fun w' => w'.cell? ⟨g, k * 2, none⟩ = some (.float .f32 (X k)) ∧ w'.cell? ⟨g, k * 2 + 1, none⟩ = some (.bool (F k)) ∧ w'.cell? ⟨h, k * 2, none⟩ = some (.float .f32 (Y k)) ∧ w'.cell? ⟨h, k * 2 + 1, none⟩ = some (.bool (F k))) (go_keep)
              (first | (go_at_call 86; refine (l01SameAll_any _ _ (fun _ => X k) (fun _ => Y k) 1 _ _ _ ?_ ?_ (fun _ _ => wx) (fun _ _ => wy) (by omega)).mono ?_; exact one_f32 (by go_simp); exact one_f32 (by go_simp); rintro e w' ⟨m, rfl, rfl⟩))
            all_goals
              go_wp2
              go_ret
              exact ⟨by rw [HR.out, HR0.out]; rfl, by repeat (first | exact Hw.out | refine below_drewN ?_ _ | refine Below.drew ?_ | refine Below.alloc ?_ (by have := Hw.out.size; simp; try omega) _)⟩
          · have HL := Lib.hid (HS.out.trans hsm)
            go_region_held3 (fun w' => w'.cell? ⟨g, k * 2, none⟩ = some (.float .f32 (X k)) ∧ w'.cell? ⟨g, k * 2 + 1, none⟩ = some (.bool (F k)) ∧ w'.cell? ⟨h, k * 2, none⟩ = some (.float .f32 (Y k)) ∧ w'.cell? ⟨h, k * 2 + 1, none⟩ = some (.bool (F k))) (go_keep)
              (first | (go_at_call 86; refine (l01SameAll_any _ _ (fun _ => X k) (fun _ => Y k) 1 _ _ _ ?_ ?_ (fun _ _ => wx) (fun _ _ => wy) (by omega)).mono ?_; exact one_f32 (by go_simp); exact one_f32 (by go_simp); rintro e w' ⟨m, rfl, rfl⟩))
            all_goals
              go_wp2
              go_roundw
              case rel =>
                refine ⟨k + 1, by omega, by go_num, fun j hj => ?_, by repeat (first | exact Hw.out | refine below_drewN ?_ _ | refine Below.drew ?_ | refine Below.alloc ?_ (by have := Hw.out.size; simp; try omega) _)⟩
                by_cases e : j = k
                · rw [e, HL.out]; rfl
                · exact Hn.out j (by omega)
              case measure => simp [intOf]; omega
      · obtain rfl : k = n := by omega
        have HR0 := Lib.hid (show anyB (fun i => !lifeSame (X i) (F i) (Y i) (G i)) k = false from anyB_miss hno)
        clear hwr hno hx hy
        go_wp2
        go_ret
        exact ⟨by rw [HR.out, HR0.out]; rfl, Hw.out⟩
  · have hne : ((n : Int) != (m : Int)) = true := by simp; omega
    have HR := Lib.hid (show sameLB X F n Y G m = false by unfold sameLB; rw [decide_eq_false hnm]; rfl)
    clear hx hy
    go_enter Try.func52, Try.ntmps52
    go_wp2
    go_ret
    exact ⟨by rw [HR.out]; rfl, Below.refl _ _⟩
theorem sameLivesS (g n c h m d : Nat) (X : Nat → Nat) (F : Nat → Bool) (Y : Nat → Nat) (G : Nat → Bool) (w : World) (hx : LivesAt w g 0 X F n) (hy : LivesAt w h 0 Y G m) (lx : Lt32 X n) (ly : Lt32 Y m) (hn : n ≤ 1048576) :
    Calls Try.prog 19 #[.slice (some ⟨g, 0, none⟩) n c, .slice (some ⟨h, 0, none⟩) m d] w fun e w' => e = .returned (.bool (sameLB X F n Y G m)) ∧ Below w.heap.size w w' := by
  have HC := Lib.hid (l02Same_any g n c h m d X F Y G w hx hy lx ly hn)
  clear hx hy lx ly
  go_enter Try.func19, Try.ntmps19
  go_wp2_with fail
  refine HC.out.mono ?_
  rintro e w' ⟨rfl, hb⟩
  have Hb := Lib.hid hb
  clear hb
  go_wp2
  go_ret
  exact ⟨rfl, Hb.out⟩
end Go.Proofs.Ytceckapldohkdaa
