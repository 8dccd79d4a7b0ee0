/- Contracts of the two texts' SameLaw. -/
import Derived.Test.YtehohiicecnmeaaLaw
import Derived.Test.YtehohiicecnmeaaSame
import Derived.Deep.RegionWith
import Derived.Deep.RegionHeld3
namespace Go.Proofs.Ytehohiicecnmeaa
open Go.RowKit Flt

/-- two laws are the same -/
def sameLawB (k1 k2 : Int) (a1 a2 b1 b2 : Nat) : Bool := (k1 == k2) && (sameB (cls .f32 a1) (cls .f32 a2) && sameB (cls .f32 b1) (cls .f32 b2))
def two (a b : Nat) : Nat → Nat := fun i => if i = 0 then a else b
theorem two_same (a1 a2 b1 b2 : Nat) : sameAll (two a1 b1) (two a2 b2) 2 = (sameB (cls .f32 a1) (cls .f32 a2) && sameB (cls .f32 b1) (cls .f32 b2)) := rfl
theorem f32s_two {w : World} {g a b : Nat} (h0 : w.cell? ⟨g, 0, none⟩ = some (.float .f32 a)) (h1 : w.cell? ⟨g, 1, none⟩ = some (.float .f32 b)) : F32s w g (two a b) 2 := by
  intro i hi
  have : i = 0 ∨ i = 1 := by omega
  rcases this with rfl | rfl
  · exact h0
  · exact h1
theorem lt_two {a b : Nat} (ha : a < 4294967296) (hb : b < 4294967296) : Lt32 (two a b) 2 := by
  intro i _
  unfold two; split <;> assumption

set_option maxHeartbeats 1000000 in
theorem l02SameLaw_no (k1 k2 : Int) (a1 b1 g a2 b2 h : Nat) (w : World) (hk : (k1 == k2) = false)
    (c0 : w.cell? ⟨g, 0, none⟩ = some (.int .i64 k1)) (d0 : w.cell? ⟨h, 0, none⟩ = some (.int .i64 k2)) :
    Calls Try.prog 52 #[.pointer (some ⟨g, 0, none⟩), .pointer (some ⟨h, 0, none⟩)] w fun e w' => e = .returned (.bool (sameLawB k1 k2 a1 a2 b1 b2)) ∧ Below w.heap.size w w' := by
  have H := Lib.hid (show sameLawB k1 k2 a1 a2 b1 b2 = false by unfold sameLawB; rw [hk]; rfl)
  go_enter Try.func52, Try.ntmps52
  go_wp2
  go_quiet (fail)
  go_wp2
  go_ret
  exact ⟨by rw [H.out]; rfl, below_drewN' _ _⟩
set_option maxHeartbeats 2000000 in
theorem l02SameLaw_yes (k : Int) (a1 b1 g a2 b2 h : Nat) (w : World)
    (c0 : w.cell? ⟨g, 0, none⟩ = some (.int .i64 k)) (d0 : w.cell? ⟨h, 0, none⟩ = some (.int .i64 k))
    (c1 : w.cell? ⟨g, 1, none⟩ = some (.float .f32 a1)) (d1 : w.cell? ⟨h, 1, none⟩ = some (.float .f32 a2))
    (c2 : w.cell? ⟨g, 2, none⟩ = some (.float .f32 b1)) (d2 : w.cell? ⟨h, 2, none⟩ = some (.float .f32 b2)) (wa1 : a1 < 4294967296) (wa2 : a2 < 4294967296) (wb1 : b1 < 4294967296) (wb2 : b2 < 4294967296) :
    Calls Try.prog 52 #[.pointer (some ⟨g, 0, none⟩), .pointer (some ⟨h, 0, none⟩)] w fun e w' => e = .returned (.bool (sameLawB k k a1 a2 b1 b2)) ∧ Below w.heap.size w w' := by
  have H := Lib.hid (show sameLawB k k a1 a2 b1 b2 = sameAll (two a1 b1) (two a2 b2) 2 by unfold sameLawB; simp [two_same])
  go_enter Try.func52, Try.ntmps52
  go_wp2
  go_region_held3 (fun w' => w'.cell? ⟨g, 0, none⟩ = some (.int .i64 k) ∧ w'.cell? ⟨h, 0, none⟩ = some (.int .i64 k) ∧ w'.cell? ⟨g, 1, none⟩ = some (.float .f32 a1) ∧ w'.cell? ⟨h, 1, none⟩ = some (.float .f32 a2) ∧ w'.cell? ⟨g, 2, none⟩ = some (.float .f32 b1) ∧ w'.cell? ⟨h, 2, none⟩ = some (.float .f32 b2)) (go_keep)
    (first | (go_at_call 57; refine (l01SameAll_any _ _ (two a1 b1) (two a2 b2) 2 _ _ _ ?_ ?_ (lt_two wa1 wb1) (lt_two wa2 wb2) (by omega)).mono ?_; exact f32s_two (by go_simp) (by go_simp); exact f32s_two (by go_simp) (by go_simp); rintro e w' ⟨m, rfl, rfl⟩))
  all_goals
    go_wp2
    go_ret
    exact ⟨by rw [H.out]; rfl, by repeat (first | exact Below.refl _ _ | refine below_drewN ?_ _ | refine Below.drew ?_ | refine Below.alloc ?_ (by simp; try omega) _)⟩
set_option maxHeartbeats 400000 in
theorem sameLawS (k1 k2 : Int) (a1 b1 a2 b2 : Nat) (w : World) (wa1 : a1 < 4294967296) (wa2 : a2 < 4294967296) (wb1 : b1 < 4294967296) (wb2 : b2 < 4294967296) :
    Calls Try.prog 35 #[.agg #[.int .i64 k1, .float .f32 a1, .float .f32 b1], .agg #[.int .i64 k2, .float .f32 a2, .float .f32 b2]] w fun e w' => e = .returned (.bool (sameLawB k1 k2 a1 a2 b1 b2)) ∧ Below w.heap.size w w' := by
  cases hk : (k1 == k2)
  · go_enter Try.func35, Try.ntmps35
    go_wp2_with fail
    refine (l02SameLaw_no k1 k2 a1 b1 _ a2 b2 _ _ hk (by go_simp) (by go_simp)).mono ?_
    rintro e w' ⟨rfl, hb⟩
    have Hb := Lib.hid hb
    clear hb
    go_wp2
    go_ret
    exact ⟨rfl, (((Below.refl _ _).alloc (Nat.le_refl _) _).alloc (by simp) _).trans (Hb.out.mono (by simp; omega))⟩
  · obtain rfl : k1 = k2 := by simpa using hk
    clear hk
    go_enter Try.func35, Try.ntmps35
    go_wp2_with fail
    refine (l02SameLaw_yes k1 a1 b1 _ a2 b2 _ _ (by go_simp) (by go_simp) (by go_simp) (by go_simp) (by go_simp) (by go_simp) wa1 wa2 wb1 wb2).mono ?_
    rintro e w' ⟨rfl, hb⟩
    have Hb := Lib.hid hb
    clear hb
    go_wp2
    go_ret
    exact ⟨rfl, (((Below.refl _ _).alloc (Nat.le_refl _) _).alloc (by simp) _).trans (Hb.out.mono (by simp; omega))⟩
set_option maxHeartbeats 400000 in
theorem sameLawI (k1 k2 : Int) (a1 b1 a2 b2 : Nat) (w : World) (wa1 : a1 < 4294967296) (wa2 : a2 < 4294967296) (wb1 : b1 < 4294967296) (wb2 : b2 < 4294967296) :
    Calls Try.prog 36 #[.agg #[.int .i64 k1, .float .f32 a1, .float .f32 b1], .agg #[.int .i64 k2, .float .f32 a2, .float .f32 b2]] w fun e w' => e = .returned (.bool (sameLawB k1 k2 a1 a2 b1 b2)) ∧ Below w.heap.size w w' := by
  cases hk : (k1 == k2)
  · have H := Lib.hid (show sameLawB k1 k2 a1 a2 b1 b2 = false by unfold sameLawB; rw [hk]; rfl)
    go_enter Try.func36, Try.ntmps36
    go_wp2
    go_ret
    exact ⟨by rw [H.out]; rfl, by repeat (first | exact Below.refl _ _ | refine below_drewN ?_ _ | refine Below.drew ?_ | refine Below.alloc ?_ (by simp; try omega) _)⟩
  cases hs : sameB (cls .f32 a1) (cls .f32 a2)
  · have H := Lib.hid (show sameLawB k1 k2 a1 a2 b1 b2 = false by unfold sameLawB; rw [hk, hs]; rfl)
    go_enter Try.func36, Try.ntmps36
    go_wp2_with (first | (go_at_call 30; refine (sameNumber_any _ _ _ wa1 wa2).mono ?_; rintro e w' ⟨n, rfl, rfl⟩))
    go_ret
    exact ⟨by rw [H.out]; rfl, by repeat (first | exact Below.refl _ _ | refine below_drewN ?_ _ | refine Below.drew ?_ | refine Below.alloc ?_ (by simp; try omega) _)⟩
  · have H := Lib.hid (show sameLawB k1 k2 a1 a2 b1 b2 = sameB (cls .f32 b1) (cls .f32 b2) by unfold sameLawB; rw [hk, hs]; rfl)
    go_enter Try.func36, Try.ntmps36
    go_wp2_with fail
    refine (sameNumber_any _ _ _ wa1 wa2).mono ?_
    rintro e w' ⟨n, rfl, rfl⟩
    go_wp2_with fail
    refine (sameNumber_any _ _ _ wb1 wb2).mono ?_
    rintro e w' ⟨m, rfl, rfl⟩
    go_wp2
    go_ret
    exact ⟨by rw [H.out]; rfl, by repeat (first | exact Below.refl _ _ | refine below_drewN ?_ _ | refine Below.drew ?_ | refine Below.alloc ?_ (by simp; try omega) _)⟩
end Go.Proofs.Ytehohiicecnmeaa
