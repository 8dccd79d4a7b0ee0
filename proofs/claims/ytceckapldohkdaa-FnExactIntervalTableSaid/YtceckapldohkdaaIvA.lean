/- Both texts' IntervalTable at whatever they are given. -/
import Derived.Test.YtceckapldohkdaaIvS
namespace Go.Proofs.Ytceckapldohkdaa
open Go.RowKit Go.Deep Flt

/-- what both texts ask -/
def ivOk (X : Nat → Nat) (n wd : Nat) (ct : Int) : Bool := livesB X n && (aboveB (cls .f32 wd) && inB ct 1 16)
set_option maxHeartbeats 400000 in
theorem ivI_no (g n c : Nat) (X : Nat → Nat) (F : Nat → Bool) (f : Nat → Value) (wd : Nat) (ct : Int) (w : World) (hx : LivesAt w g 0 X F n) (hn : n ≤ 1048576) (h : ivOk X n wd ct = false) :
    Calls Try.prog 32 #[.slice (some ⟨g, 0, none⟩) n c, .float .f32 wd, .int .i64 ct] w (IvRes false 0 f w) := by
  unfold ivOk at h
  cases hl : livesB X n
  · have HL := Lib.hid hl
    clear hl h
    go_enter Try.func32, Try.ntmps32
    go_wp2_with fail
    refine (areLivesI g n c X F _ hx hn).mono ?_
    rintro e w1 ⟨rfl, hb⟩
    have HB := Lib.hid hb
    clear hb
    rw [HL.out]
    go_wp2
    go_ret2
    exact ⟨none, 0, rfl, .inl rfl, HB.out⟩
  cases ha : aboveB (cls .f32 wd)
  · have HL := Lib.hid hl
    have HA := Lib.hid ha
    clear hl ha h
    go_enter Try.func32, Try.ntmps32
    go_wp2_with fail
    refine (areLivesI g n c X F _ hx hn).mono ?_
    rintro e w1 ⟨rfl, hb⟩
    have HB := Lib.hid hb
    clear hb
    rw [HL.out]
    go_wp2_with fail
    refine (areMore_one _ _ wd _ (by go_simp)).mono ?_
    rintro e w2 ⟨rfl, hb⟩
    have HB := Lib.hid ((HB.out.alloc HB.out.size (.cells #[.float .f32 wd] 32)).trans (hb.mono (by have := HB.out.size; simp; omega)))
    clear hb
    rw [HA.out]
    go_wp2
    go_ret2
    exact ⟨none, 0, rfl, .inl rfl, HB.out⟩
  · have hin : inB ct 1 16 = false := by rw [hl, ha] at h; exact h
    have HL := Lib.hid hl
    have HA := Lib.hid ha
    clear hl ha h
    go_enter Try.func32, Try.ntmps32
    go_wp2_with fail
    refine (areLivesI g n c X F _ hx hn).mono ?_
    rintro e w1 ⟨rfl, hb⟩
    have HB := Lib.hid hb
    clear hb
    rw [HL.out]
    go_wp2_with fail
    refine (areMore_one _ _ wd _ (by go_simp)).mono ?_
    rintro e w2 ⟨rfl, hb⟩
    have HB := Lib.hid ((HB.out.alloc HB.out.size (.cells #[.float .f32 wd] 32)).trans (hb.mono (by have := HB.out.size; simp; omega)))
    clear hb
    rw [HA.out]
    go_wp2_with (first | (go_at_call 67; refine (within_any _ _ _ _).mono ?_; rintro e w' ⟨rfl, rfl⟩))
    go_wp2
    go_ret2
    exact ⟨none, 0, rfl, .inl rfl, HB.out⟩
theorem ivI (g n c : Nat) (X : Nat → Nat) (F : Nat → Bool) (wd : Nat) (ct : Int) (w : World) (hx : LivesAt w g 0 X F n) (hn : n ≤ 1048576) :
    Calls Try.prog 32 #[.slice (some ⟨g, 0, none⟩) n c, .float .f32 wd, .int .i64 ct] w (IvRes (ivOk X n wd ct) (if ivOk X n wd ct then 3 * ct.toNat else 0) (ivV X F wd n) w) := by
  cases h : ivOk X n wd ct
  · exact ivI_no g n c X F _ wd ct w hx hn h
  · have h0 := h
    unfold ivOk at h0
    simp at h0
    have hc : 1 ≤ ct ∧ ct ≤ 16 := by simpa [inB] using h0.2.2
    obtain ⟨k, rfl⟩ : ∃ k : Nat, ct = (k : Int) := ⟨ct.toNat, by omega⟩
    exact ivI_yes g n c X F wd k w hx hn h0.1 h0.2.1 (by omega) (by omega)
set_option maxHeartbeats 400000 in
theorem ivS_no (g n c : Nat) (X : Nat → Nat) (F : Nat → Bool) (f : Nat → Value) (wd : Nat) (ct : Int) (w : World) (hx : LivesAt w g 0 X F n) (hn : n ≤ 1048576) (h : ivOk X n wd ct = false) :
    Calls Try.prog 31 #[.slice (some ⟨g, 0, none⟩) n c, .float .f32 wd, .int .i64 ct] w (IvRes false 0 f w) := by
  unfold ivOk at h
  cases hl : livesB X n
  · have HL := Lib.hid hl
    clear hl h
    go_enter Try.func31, Try.ntmps31
    go_wp2_with fail
    refine (l02Lives_any g n c X F _ hx hn).mono ?_
    rintro e w1 ⟨rfl, hd⟩
    have HB := Lib.hid hd.below
    clear hd
    rw [HL.out]
    go_wp2
    go_ret2
    exact ⟨none, 0, rfl, .inl rfl, HB.out⟩
  cases ha : aboveB (cls .f32 wd)
  · have HL := Lib.hid hl
    have HA := Lib.hid ha
    clear hl ha h
    go_enter Try.func31, Try.ntmps31
    go_wp2_with fail
    refine (l02Lives_any g n c X F _ hx hn).mono ?_
    rintro e w1 ⟨rfl, hd⟩
    have HB := Lib.hid hd.below
    clear hd
    rw [HL.out]
    go_wp2_with fail
    refine (l02Above_any wd _).mono ?_
    rintro e w2 ⟨rfl, hd⟩
    have HB := Lib.hid (HB.out.trans (hd.below.mono HB.out.size))
    clear hd
    rw [HA.out]
    go_wp2
    go_ret2
    exact ⟨none, 0, rfl, .inl rfl, HB.out⟩
  · have hin : inB ct 1 16 = false := by rw [hl, ha] at h; exact h
    have HL := Lib.hid hl
    have HA := Lib.hid ha
    clear hl ha h
    go_enter Try.func31, Try.ntmps31
    go_wp2_with fail
    refine (l02Lives_any g n c X F _ hx hn).mono ?_
    rintro e w1 ⟨rfl, hd⟩
    have HB := Lib.hid hd.below
    clear hd
    rw [HL.out]
    go_wp2_with fail
    refine (l02Above_any wd _).mono ?_
    rintro e w2 ⟨rfl, hd⟩
    have HB := Lib.hid (HB.out.trans (hd.below.mono HB.out.size))
    clear hd
    rw [HA.out]
    go_wp2_with (first | (go_at_call 65; refine (l00In_any _ _ _ _).mono ?_; rintro e w' ⟨rfl, rfl⟩))
    go_wp2
    go_ret2
    exact ⟨none, 0, rfl, .inl rfl, HB.out⟩
theorem ivS (g n c : Nat) (X : Nat → Nat) (F : Nat → Bool) (wd : Nat) (ct : Int) (w : World) (hx : LivesAt w g 0 X F n) (hn : n ≤ 1048576) :
    Calls Try.prog 31 #[.slice (some ⟨g, 0, none⟩) n c, .float .f32 wd, .int .i64 ct] w (IvRes (ivOk X n wd ct) (if ivOk X n wd ct then 3 * ct.toNat else 0) (ivV X F wd n) w) := by
  cases h : ivOk X n wd ct
  · exact ivS_no g n c X F _ wd ct w hx hn h
  · have h0 := h
    unfold ivOk at h0
    simp at h0
    have hc : 1 ≤ ct ∧ ct ≤ 16 := by simpa [inB] using h0.2.2
    obtain ⟨k, rfl⟩ : ∃ k : Nat, ct = (k : Int) := ⟨ct.toNat, by omega⟩
    exact ivS_yes g n c X F wd k w hx hn h0.1 h0.2.1 (by omega) (by omega)
end Go.Proofs.Ytceckapldohkdaa
