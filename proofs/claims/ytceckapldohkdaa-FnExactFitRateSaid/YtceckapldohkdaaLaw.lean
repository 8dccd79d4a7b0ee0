/- Contracts of the functions on laws: the copy of a law, and whether a law is valid. -/
import Derived.Test.YtceckapldohkdaaNum
namespace Go.Proofs.Ytceckapldohkdaa
open Go.RowKit Flt

/-- at least 0.001; at most 1000: as both texts ask -/
def geT (c : Option Nat) : Bool := ford .f32 c (cls .f32 981668463) == some .gt || ford .f32 c (cls .f32 981668463) == some .eq
def leT (c : Option Nat) : Bool := ford .f32 c (cls .f32 1148846080) == some .lt || ford .f32 c (cls .f32 1148846080) == some .eq
def lawB (k : Int) (a b : Option Nat) : Bool := inB k 0 3 && (geT a && (leT a && (geT b && leT b)))

theorem toLaw_any (k : Int) (a b : Nat) (w : World) :
    Calls Try.prog 38 #[.agg #[.int .i64 k, .float .f32 a, .float .f32 b]] w fun e w' => e = .returned (.agg #[.int .i64 k, .float .f32 a, .float .f32 b]) ∧ Below w.heap.size w w' := by
  go_enter Try.func38, Try.ntmps38
  go_wp2
  refine bodyPost_ret (v := .agg #[.int .i64 k, .float .f32 a, .float .f32 b]) (by simp [results, Try.results38, go_sem]) rfl ⟨rfl, (((Below.refl _ _).alloc (Nat.le_refl _) _).alloc (by simp) _).alloc (by simp; omega) _⟩
theorem validLawI (k : Int) (a b : Nat) (w : World) :
    Calls Try.prog 71 #[.agg #[.int .i64 k, .float .f32 a, .float .f32 b]] w fun e w' => e = .returned (.bool (lawB k (cls .f32 a) (cls .f32 b))) ∧ Below w.heap.size w w' := by
  cases h0 : inB k 0 3
  · have H := Lib.hid (show lawB k (cls .f32 a) (cls .f32 b) = false by unfold lawB; rw [h0]; rfl)
    go_enter Try.func71, Try.ntmps71
    go_wp2_with (first | (go_at_call 67; refine (within_any _ _ _ _).mono ?_; rintro e w' ⟨rfl, rfl⟩))
    go_ret
    exact ⟨by rw [H.out]; rfl, (Below.refl _ _).alloc (Nat.le_refl _) _⟩
  cases h1 : geT (cls .f32 a)
  · have H := Lib.hid (show lawB k (cls .f32 a) (cls .f32 b) = false by unfold lawB; rw [h0, h1]; rfl)
    unfold geT at h1
    go_enter Try.func71, Try.ntmps71
    go_wp2_with (first | (go_at_call 67; refine (within_any _ _ _ _).mono ?_; rintro e w' ⟨rfl, rfl⟩))
    go_ret
    exact ⟨by rw [H.out]; rfl, (Below.refl _ _).alloc (Nat.le_refl _) _⟩
  cases h2 : leT (cls .f32 a)
  · have H := Lib.hid (show lawB k (cls .f32 a) (cls .f32 b) = false by unfold lawB; rw [h0, h1, h2]; rfl)
    unfold geT at h1
    unfold leT at h2
    go_enter Try.func71, Try.ntmps71
    go_wp2_with (first | (go_at_call 67; refine (within_any _ _ _ _).mono ?_; rintro e w' ⟨rfl, rfl⟩))
    go_ret
    exact ⟨by rw [H.out]; rfl, (Below.refl _ _).alloc (Nat.le_refl _) _⟩
  cases h3 : geT (cls .f32 b)
  · have H := Lib.hid (show lawB k (cls .f32 a) (cls .f32 b) = false by unfold lawB; rw [h0, h1, h2, h3]; rfl)
    unfold geT at h1 h3
    unfold leT at h2
    go_enter Try.func71, Try.ntmps71
    go_wp2_with (first | (go_at_call 67; refine (within_any _ _ _ _).mono ?_; rintro e w' ⟨rfl, rfl⟩))
    go_ret
    exact ⟨by rw [H.out]; rfl, (Below.refl _ _).alloc (Nat.le_refl _) _⟩
  · have H := Lib.hid (show lawB k (cls .f32 a) (cls .f32 b) = leT (cls .f32 b) by unfold lawB; rw [h0, h1, h2, h3]; rfl)
    unfold geT at h1 h3
    unfold leT at h2
    go_enter Try.func71, Try.ntmps71
    go_wp2_with (first | (go_at_call 67; refine (within_any _ _ _ _).mono ?_; rintro e w' ⟨rfl, rfl⟩))
    go_ret
    exact ⟨by rw [H.out]; rfl, (Below.refl _ _).alloc (Nat.le_refl _) _⟩
theorem l02Law_any (k : Int) (a b g : Nat) (w : World) (c0 : w.cell? ⟨g, 0, none⟩ = some (.int .i64 k)) (c1 : w.cell? ⟨g, 1, none⟩ = some (.float .f32 a)) (c2 : w.cell? ⟨g, 2, none⟩ = some (.float .f32 b)) :
    Calls Try.prog 68 #[.pointer (some ⟨g, 0, none⟩)] w fun e w' => e = .returned (.bool (lawB k (cls .f32 a) (cls .f32 b))) ∧ w = w' := by
  cases h0 : inB k 0 3
  · have H := Lib.hid (show lawB k (cls .f32 a) (cls .f32 b) = false by unfold lawB; rw [h0]; rfl)
    go_enter Try.func68, Try.ntmps68
    go_wp2_with (first | (go_at_call 65; refine (l00In_any _ _ _ _).mono ?_; rintro e w' ⟨rfl, rfl⟩))
    go_ret
    exact ⟨by rw [H.out]; rfl, rfl⟩
  cases h1 : geT (cls .f32 a)
  · have H := Lib.hid (show lawB k (cls .f32 a) (cls .f32 b) = false by unfold lawB; rw [h0, h1]; rfl)
    unfold geT at h1
    go_enter Try.func68, Try.ntmps68
    go_wp2_with (first | (go_at_call 65; refine (l00In_any _ _ _ _).mono ?_; rintro e w' ⟨rfl, rfl⟩))
    go_ret
    exact ⟨by rw [H.out]; rfl, rfl⟩
  cases h2 : leT (cls .f32 a)
  · have H := Lib.hid (show lawB k (cls .f32 a) (cls .f32 b) = false by unfold lawB; rw [h0, h1, h2]; rfl)
    unfold geT at h1
    unfold leT at h2
    go_enter Try.func68, Try.ntmps68
    go_wp2_with (first | (go_at_call 65; refine (l00In_any _ _ _ _).mono ?_; rintro e w' ⟨rfl, rfl⟩))
    go_ret
    exact ⟨by rw [H.out]; rfl, rfl⟩
  cases h3 : geT (cls .f32 b)
  · have H := Lib.hid (show lawB k (cls .f32 a) (cls .f32 b) = false by unfold lawB; rw [h0, h1, h2, h3]; rfl)
    unfold geT at h1 h3
    unfold leT at h2
    go_enter Try.func68, Try.ntmps68
    go_wp2_with (first | (go_at_call 65; refine (l00In_any _ _ _ _).mono ?_; rintro e w' ⟨rfl, rfl⟩))
    go_ret
    exact ⟨by rw [H.out]; rfl, rfl⟩
  · have H := Lib.hid (show lawB k (cls .f32 a) (cls .f32 b) = leT (cls .f32 b) by unfold lawB; rw [h0, h1, h2, h3]; rfl)
    unfold geT at h1 h3
    unfold leT at h2
    go_enter Try.func68, Try.ntmps68
    go_wp2_with (first | (go_at_call 65; refine (l00In_any _ _ _ _).mono ?_; rintro e w' ⟨rfl, rfl⟩))
    go_ret
    exact ⟨by rw [H.out]; rfl, rfl⟩
end Go.Proofs.Ytceckapldohkdaa
