/- Contracts of both texts' FitRate. -/
import Derived.Test.YtceckapldohkdaaTot
import Derived.Test.YtceckapldohkdaaLaw
import Derived.Test.YtceckapldohkdaaFin
namespace Go.Proofs.Ytceckapldohkdaa
open Go.RowKit Go.Deep Flt

theorem below_of_eq {w w' : World} (h : w = w') : Below w.heap.size w w' := h ▸ Below.refl _ _
set_option maxHeartbeats 400000 in
theorem ifLaw_no (k : Int) (a b : Nat) (w : World) (h : lawB k (cls .f32 a) (cls .f32 b) = false) :
    Calls Try.prog 63 #[.agg #[.int .i64 k, .float .f32 a, .float .f32 b]] w fun e w' => e = .returned (.tuple #[.agg #[.int .i64 0, .float .f32 0, .float .f32 0], .bool false]) ∧ Below w.heap.size w w' := by
  have HL := Lib.hid h
  clear h
  go_enter Try.func63, Try.ntmps63
  go_wp2_with fail
  refine (validLawI k a b _).mono ?_
  rintro e w1 ⟨rfl, hb⟩
  rw [HL.out]
  have Hb := Lib.hid hb
  obtain ⟨hc, hf⟩ := bcell hb
  have hz := hb.size
  simp at hz hc hf
  clear hb
  go_wp2
  refine bodyPost_ret (v := .tuple #[.agg #[.int .i64 0, .float .f32 0, .float .f32 0], .bool false]) (by simp [results, Try.results63, go_sem, hc]) rfl ⟨rfl, ?_⟩
  repeat (first | exact (((Below.refl _ _).alloc (Nat.le_refl _) _).alloc (by simp) _).trans (Hb.out.mono (by simp; omega)) | refine Below.setCell ?_ (by simp) _)
set_option maxHeartbeats 400000 in
theorem ifLaw_yes (k : Int) (a b : Nat) (w : World) (h : lawB k (cls .f32 a) (cls .f32 b) = true) :
    Calls Try.prog 63 #[.agg #[.int .i64 k, .float .f32 a, .float .f32 b]] w fun e w' => e = .returned (.tuple #[.agg #[.int .i64 k, .float .f32 a, .float .f32 b], .bool true]) ∧ Below w.heap.size w w' := by
  have HL := Lib.hid h
  clear h
  go_enter Try.func63, Try.ntmps63
  go_wp2_with fail
  refine (validLawI k a b _).mono ?_
  rintro e w1 ⟨rfl, hb⟩
  rw [HL.out]
  have Hb := Lib.hid hb
  obtain ⟨hc, hf⟩ := bcell hb
  have hz := hb.size
  simp at hz hc hf
  clear hb
  go_wp2
  refine bodyPost_ret (v := .tuple #[.agg #[.int .i64 k, .float .f32 a, .float .f32 b], .bool true]) (by simp [results, Try.results63, go_sem, hc]) rfl ⟨rfl, ?_⟩
  repeat (first | exact (((Below.refl _ _).alloc (Nat.le_refl _) _).alloc (by simp) _).trans (Hb.out.mono (by simp; omega)) | refine Below.setCell ?_ (by simp) _)
set_option maxHeartbeats 400000 in
theorem giveLaw_no (k : Int) (a b : Nat) (w : World) (h : lawB k (cls .f32 a) (cls .f32 b) = false) :
    Calls Try.prog 62 #[.agg #[.int .i64 k, .float .f32 a, .float .f32 b]] w fun e w' => e = .returned (.tuple #[.agg #[.int .i64 0, .float .f32 0, .float .f32 0], .bool false]) ∧ Below w.heap.size w w' := by
  have HL := Lib.hid h
  clear h
  go_enter Try.func62, Try.ntmps62
  go_wp2_with fail
  refine (l02Law_any k a b _ _ (by go_simp) (by go_simp) (by go_simp)).mono ?_
  rintro e w1 ⟨rfl, hw⟩
  have hb := below_of_eq hw
  clear hw
  rw [HL.out]
  have Hb := Lib.hid hb
  obtain ⟨hc, hf⟩ := bcell hb
  have hz := hb.size
  simp at hz hc hf
  clear hb
  go_wp2
  refine bodyPost_ret (v := .tuple #[.agg #[.int .i64 0, .float .f32 0, .float .f32 0], .bool false]) (by simp [results, Try.results62, go_sem, hc]) rfl ⟨rfl, ?_⟩
  repeat (first | exact (((Below.refl _ _).alloc (Nat.le_refl _) _).alloc (by simp) _).trans (Hb.out.mono (by simp; omega)) | refine Below.setCell ?_ (by simp) _)
set_option maxHeartbeats 400000 in
theorem giveLaw_yes (k : Int) (a b : Nat) (w : World) (h : lawB k (cls .f32 a) (cls .f32 b) = true) :
    Calls Try.prog 62 #[.agg #[.int .i64 k, .float .f32 a, .float .f32 b]] w fun e w' => e = .returned (.tuple #[.agg #[.int .i64 k, .float .f32 a, .float .f32 b], .bool true]) ∧ Below w.heap.size w w' := by
  have HL := Lib.hid h
  clear h
  go_enter Try.func62, Try.ntmps62
  go_wp2_with fail
  refine (l02Law_any k a b _ _ (by go_simp) (by go_simp) (by go_simp)).mono ?_
  rintro e w1 ⟨rfl, hw⟩
  have hb := below_of_eq hw
  clear hw
  rw [HL.out]
  have Hb := Lib.hid hb
  obtain ⟨hc, hf⟩ := bcell hb
  have hz := hb.size
  simp at hz hc hf
  clear hb
  go_wp2
  refine bodyPost_ret (v := .tuple #[.agg #[.int .i64 k, .float .f32 a, .float .f32 b], .bool true]) (by simp [results, Try.results62, go_sem, hc]) rfl ⟨rfl, ?_⟩
  repeat (first | exact (((Below.refl _ _).alloc (Nat.le_refl _) _).alloc (by simp) _).trans (Hb.out.mono (by simp; omega)) | refine Below.setCell ?_ (by simp) _)
/-- the scale: the time of the test by how many failed -/
def fitC (X : Nat → Nat) (F : Nat → Bool) (n : Nat) : Option Nat := fop .quo .f32 (totC X n) (cls .f32 (floatOfInt .f32 (cntF F n : Nat)))
def fitB (X : Nat → Nat) (F : Nat → Bool) (n : Nat) : Bool := livesB X n && (decide (cntF F n ≠ 0) && lawB 0 (cls .f32 1065353216) (fitC X F n))
def fitS (X : Nat → Nat) (F : Nat → Bool) (n : Nat) : Option Nat := if fitB X F n then cls .f32 1065353216 else cls .f32 0
def fitR (X : Nat → Nat) (F : Nat → Bool) (n : Nat) : Option Nat := if fitB X F n then fitC X F n else cls .f32 0
theorem inf_quo : ∀ c : Nat, c < 49 → 0 < c → lawB 0 (cls .f32 1065353216) (fop .quo .f32 (some 2139095040) (cls .f32 (floatOfInt .f32 (c : Int)))) = false ∧ lawB 0 (cls .f32 1065353216) (fop .quo .f32 (some 4286578688) (cls .f32 (floatOfInt .f32 (c : Int)))) = false := by decide +kernel
theorem nan_quo (d : Option Nat) : lawB 0 (cls .f32 1065353216) (fop .quo .f32 none d) = false := by
  have h : geT (fop .quo .f32 none d) = false := by cases d <;> rfl
  unfold lawB
  rw [h]
  simp
theorem wfc_totC (X : Nat → Nat) (n : Nat) : Wfc .f32 (totC X n) := by
  cases n with
  | zero => exact wfc_cls (by decide)
  | succ n => exact wfc_fop _ _ _ _
/-- a time that is not finite makes no law -/
theorem fit_fin {X : Nat → Nat} {F : Nat → Bool} {n : Nat} (hn : n ≤ 48) (h0 : cntF F n ≠ 0) (hf : finB (totC X n) = false) : lawB 0 (cls .f32 1065353216) (fitC X F n) = false := by
  have hc := cntF_le F n
  have hw := wfc_totC X n
  rw [finB_eq hw.nn] at hf
  unfold fitC
  cases ht : totC X n with
  | none => exact nan_quo _
  | some b =>
    rw [ht] at hf hw
    obtain ⟨hr, hb⟩ := hw b rfl
    have hb' : b < 4294967296 := hb
    have hi : ¬ rung FloatKind.f32.format b < FloatKind.f32.format.infRung := of_decide_eq_false hf
    rw [rung32, f32_inf] at hr hi
    have : b = 2139095040 ∨ b = 4286578688 := by omega
    have h2 := inf_quo (cntF F n) (by omega) (by omega)
    rcases this with rfl | rfl
    · exact h2.1
    · exact h2.2
theorem lives_few {X : Nat → Nat} {n : Nat} (h : livesB X n = true) : n ≤ 48 := by
  unfold livesB at h
  simp at h
  exact h.2.1
set_option maxHeartbeats 1000000 in
theorem fitSpec_bad (g n c : Nat) (X : Nat → Nat) (F : Nat → Bool) (w : World) (hx : LivesAt w g 0 X F n) (hn : n ≤ 1048576) (hl : livesB X n = false) :
    Calls Try.prog 28 #[.slice (some ⟨g, 0, none⟩) n c] w fun e w' => e = .returned (.tuple #[.agg #[.int .i64 0, .float .f32 0, .float .f32 0], .bool false]) ∧ Below w.heap.size w w' := by
  have HL := Lib.hid hl
  clear hl
  have HX := Lib.hid (hx.below (show Below w.heap.size w (w.alloc (.cells #[.int .i64 0, .float .f32 0, .float .f32 0] 39)) from (Below.refl _ _).alloc (Nat.le_refl _) _))
  clear hx
  go_enter Try.func28, Try.ntmps28
  go_wp2_with fail
  refine (l02Lives_any g n c X F _ HX.out hn).mono ?_
  rintro e w1 ⟨rfl, hd⟩
  rw [HL.out]
  have HX1 := Lib.hid (HX.out.drew hd)
  have HB := Lib.hid hd.below
  clear hd
  obtain ⟨hc, hf⟩ := bcell HB.out
  have hz := HB.out.size
  simp at hz hc hf
  go_wp2
  refine bodyPost_ret (v := .tuple #[.agg #[.int .i64 0, .float .f32 0, .float .f32 0], .bool false]) (by simp [results, Try.results28, go_sem, hc]) rfl ⟨rfl, ?_⟩
  repeat (first | exact ((Below.refl _ _).alloc (Nat.le_refl _) _).trans (HB.out.mono (by simp)) | refine Below.setCell ?_ (by simp) _)
set_option maxHeartbeats 1000000 in
theorem fitSpec_none (g n c : Nat) (X : Nat → Nat) (F : Nat → Bool) (w : World) (hx : LivesAt w g 0 X F n) (hn : n ≤ 1048576) (hl : livesB X n = true) (h0 : cntF F n = 0) :
    Calls Try.prog 28 #[.slice (some ⟨g, 0, none⟩) n c] w fun e w' => e = .returned (.tuple #[.agg #[.int .i64 0, .float .f32 0, .float .f32 0], .bool false]) ∧ Below w.heap.size w w' := by
  have HL := Lib.hid hl
  have H0 := Lib.hid h0
  clear hl h0
  have HX := Lib.hid (hx.below (show Below w.heap.size w (w.alloc (.cells #[.int .i64 0, .float .f32 0, .float .f32 0] 39)) from (Below.refl _ _).alloc (Nat.le_refl _) _))
  clear hx
  go_enter Try.func28, Try.ntmps28
  go_wp2_with fail
  refine (l02Lives_any g n c X F _ HX.out hn).mono ?_
  rintro e w1 ⟨rfl, hd⟩
  rw [HL.out]
  have HX1 := Lib.hid (HX.out.drew hd)
  have HB := Lib.hid hd.below
  clear hd
  go_wp2_with fail
  refine (l02Failed_any g n c X F _ HX1.out hn).mono ?_
  rintro e w2 ⟨rfl, rfl⟩
  rw [H0.out]
  obtain ⟨hc, hf⟩ := bcell HB.out
  have hz := HB.out.size
  simp at hz hc hf
  go_wp2
  refine bodyPost_ret (v := .tuple #[.agg #[.int .i64 0, .float .f32 0, .float .f32 0], .bool false]) (by simp [results, Try.results28, go_sem, hc]) rfl ⟨rfl, ?_⟩
  repeat (first | exact ((Below.refl _ _).alloc (Nat.le_refl _) _).trans (HB.out.mono (by simp)) | refine Below.setCell ?_ (by simp) _)
set_option maxHeartbeats 1000000 in
theorem fitSpec_no (g n c : Nat) (X : Nat → Nat) (F : Nat → Bool) (w : World) (hx : LivesAt w g 0 X F n) (hn : n ≤ 1048576) (hl : livesB X n = true) (h0 : cntF F n ≠ 0) (hw : lawB 0 (cls .f32 1065353216) (fitC X F n) = false) :
    Calls Try.prog 28 #[.slice (some ⟨g, 0, none⟩) n c] w fun e w' => e = .returned (.tuple #[.agg #[.int .i64 0, .float .f32 0, .float .f32 0], .bool false]) ∧ Below w.heap.size w w' := by
  have HL := Lib.hid hl
  have HW := Lib.hid hw
  clear hl hw
  have HX := Lib.hid (hx.below (show Below w.heap.size w (w.alloc (.cells #[.int .i64 0, .float .f32 0, .float .f32 0] 39)) from (Below.refl _ _).alloc (Nat.le_refl _) _))
  clear hx
  generalize hcd : cntF F n = cd at *
  have hne : ((cd : Int) == 0) = false := by simp; omega
  have hne' : (0 : Int) < (cd : Int) := by omega
  clear h0
  have HCD := Lib.hid hcd
  clear hcd
  go_enter Try.func28, Try.ntmps28
  go_wp2_with fail
  refine (l02Lives_any g n c X F _ HX.out hn).mono ?_
  rintro e w1 ⟨rfl, hd⟩
  rw [HL.out]
  have HX1 := Lib.hid (HX.out.drew hd)
  have HB := Lib.hid hd.below
  clear hd
  go_wp2_with fail
  refine (l02Failed_any g n c X F _ HX1.out hn).mono ?_
  rintro e w2 ⟨rfl, rfl⟩
  rw [HCD.out]
  go_wp2_with fail
  refine (l02Total_any g n c X F _ HX1.out hn).mono ?_
  rintro e w3 ⟨s, rfl, hs, hd⟩
  have Hs := Lib.hid hs
  have HX3 := Lib.hid (HX1.out.drew hd)
  have HB := Lib.hid (HB.out.trans (hd.below.mono HB.out.size))
  clear hs hd
  go_wp2_with fail
  refine (l02Failed_any g n c X F _ HX3.out hn).mono ?_
  rintro e w4 ⟨rfl, rfl⟩
  rw [HCD.out]
  go_wp2_with (first | (refine wpList_fop rfl .quo _ _ _ _ rfl rfl .f32 _ _ rfl rfl ?_; intro τ q))
  refine (giveLaw_no 0 1065353216 _ _ (by rw [cls_rep' (nn_fop _ _ _ _), Hs.out, ← HCD.out]; exact HW.out)).mono ?_
  rintro e w5 ⟨rfl, hb⟩
  have HB := Lib.hid ((HB.out.trans ((below_drewN' _ _).mono HB.out.size)).trans (hb.mono HB.out.size))
  clear hb
  obtain ⟨hc, hf⟩ := bcell HB.out
  have hz := HB.out.size
  simp at hz hc hf
  go_wp2
  refine bodyPost_ret (v := .tuple #[.agg #[.int .i64 0, .float .f32 0, .float .f32 0], .bool false]) (by simp [results, Try.results28, go_sem, hc]) rfl ⟨rfl, ?_⟩
  repeat (first | exact ((Below.refl _ _).alloc (Nat.le_refl _) _).trans (HB.out.mono (by simp)) | refine Below.setCell ?_ (by simp) _)
set_option maxHeartbeats 1000000 in
theorem fitSpec_yes (g n c : Nat) (X : Nat → Nat) (F : Nat → Bool) (w : World) (hx : LivesAt w g 0 X F n) (hn : n ≤ 1048576) (hl : livesB X n = true) (h0 : cntF F n ≠ 0) (hw : lawB 0 (cls .f32 1065353216) (fitC X F n) = true) :
    Calls Try.prog 28 #[.slice (some ⟨g, 0, none⟩) n c] w fun e w' => (∃ r, e = .returned (.tuple #[.agg #[.int .i64 0, .float .f32 1065353216, .float .f32 r], .bool true]) ∧ cls .f32 r = fitC X F n) ∧ Below w.heap.size w w' := by
  have HL := Lib.hid hl
  have HW := Lib.hid hw
  clear hl hw
  have HX := Lib.hid (hx.below (show Below w.heap.size w (w.alloc (.cells #[.int .i64 0, .float .f32 0, .float .f32 0] 39)) from (Below.refl _ _).alloc (Nat.le_refl _) _))
  clear hx
  generalize hcd : cntF F n = cd at *
  have hne : ((cd : Int) == 0) = false := by simp; omega
  have hne' : (0 : Int) < (cd : Int) := by omega
  clear h0
  have HCD := Lib.hid hcd
  clear hcd
  go_enter Try.func28, Try.ntmps28
  go_wp2_with fail
  refine (l02Lives_any g n c X F _ HX.out hn).mono ?_
  rintro e w1 ⟨rfl, hd⟩
  rw [HL.out]
  have HX1 := Lib.hid (HX.out.drew hd)
  have HB := Lib.hid hd.below
  clear hd
  go_wp2_with fail
  refine (l02Failed_any g n c X F _ HX1.out hn).mono ?_
  rintro e w2 ⟨rfl, rfl⟩
  rw [HCD.out]
  go_wp2_with fail
  refine (l02Total_any g n c X F _ HX1.out hn).mono ?_
  rintro e w3 ⟨s, rfl, hs, hd⟩
  have Hs := Lib.hid hs
  have HX3 := Lib.hid (HX1.out.drew hd)
  have HB := Lib.hid (HB.out.trans (hd.below.mono HB.out.size))
  clear hs hd
  go_wp2_with fail
  refine (l02Failed_any g n c X F _ HX3.out hn).mono ?_
  rintro e w4 ⟨rfl, rfl⟩
  rw [HCD.out]
  go_wp2_with (first | (refine wpList_fop rfl .quo _ _ _ _ rfl rfl .f32 _ _ rfl rfl ?_; intro τ q))
  refine (giveLaw_yes 0 1065353216 _ _ (by rw [cls_rep' (nn_fop _ _ _ _), Hs.out, ← HCD.out]; exact HW.out)).mono ?_
  rintro e w5 ⟨rfl, hb⟩
  have HB := Lib.hid ((HB.out.trans ((below_drewN' _ _).mono HB.out.size)).trans (hb.mono HB.out.size))
  clear hb
  obtain ⟨hc, hf⟩ := bcell HB.out
  have hz := HB.out.size
  simp at hz hc hf
  go_wp2
  refine bodyPost_ret (v := .tuple #[.agg #[.int .i64 0, .float .f32 1065353216, .float .f32 (rep .f32 (fop .quo .f32 (cls .f32 s) (cls .f32 (floatOfInt .f32 (cd : Int)))) τ)], .bool true]) (by simp [results, Try.results28, go_sem, hc]) rfl ⟨⟨_, rfl, (cls_rep' (nn_fop _ _ _ _) _).trans (by rw [Hs.out, ← HCD.out]; rfl)⟩, ?_⟩
  repeat (first | exact ((Below.refl _ _).alloc (Nat.le_refl _) _).trans (HB.out.mono (by simp)) | refine Below.setCell ?_ (by simp) _)
set_option maxHeartbeats 1000000 in
theorem fitImpl_bad (g n c : Nat) (X : Nat → Nat) (F : Nat → Bool) (w : World) (hx : LivesAt w g 0 X F n) (hn : n ≤ 1048576) (hl : timeOk X n = false) :
    Calls Try.prog 29 #[.slice (some ⟨g, 0, none⟩) n c] w fun e w' => e = .returned (.tuple #[.agg #[.int .i64 0, .float .f32 0, .float .f32 0], .bool false]) ∧ Below w.heap.size w w' := by
  have HL := Lib.hid hl
  clear hl
  have HX := Lib.hid (hx.below (show Below w.heap.size w (w.alloc (.cells #[.int .i64 0, .float .f32 0, .float .f32 0] 39)) from (Below.refl _ _).alloc (Nat.le_refl _) _))
  clear hx
  go_enter Try.func29, Try.ntmps29
  go_wp2_with fail
  refine (timeI g n c X F _ HX.out hn).mono ?_
  rintro e w1 ⟨s, rfl, hs, hb⟩
  rw [HL.out]
  have Hs := Lib.hid hs
  have HX1 := Lib.hid (HX.out.below hb)
  have HB := Lib.hid hb
  clear hb hs
  obtain ⟨hc, hf⟩ := bcell HB.out
  have hz := HB.out.size
  simp at hz hc hf
  go_wp2
  refine bodyPost_ret (v := .tuple #[.agg #[.int .i64 0, .float .f32 0, .float .f32 0], .bool false]) (by simp [results, Try.results29, go_sem, hc]) rfl ⟨rfl, ?_⟩
  repeat (first | exact ((Below.refl _ _).alloc (Nat.le_refl _) _).trans (HB.out.mono (by simp)) | refine Below.setCell ?_ (by simp) _)
set_option maxHeartbeats 1000000 in
theorem fitImpl_none (g n c : Nat) (X : Nat → Nat) (F : Nat → Bool) (w : World) (hx : LivesAt w g 0 X F n) (hn : n ≤ 1048576) (hl : timeOk X n = true) (h0 : cntF F n = 0) :
    Calls Try.prog 29 #[.slice (some ⟨g, 0, none⟩) n c] w fun e w' => e = .returned (.tuple #[.agg #[.int .i64 0, .float .f32 0, .float .f32 0], .bool false]) ∧ Below w.heap.size w w' := by
  have HL := Lib.hid hl
  have H0 := Lib.hid h0
  clear hl h0
  have HX := Lib.hid (hx.below (show Below w.heap.size w (w.alloc (.cells #[.int .i64 0, .float .f32 0, .float .f32 0] 39)) from (Below.refl _ _).alloc (Nat.le_refl _) _))
  clear hx
  go_enter Try.func29, Try.ntmps29
  go_wp2_with fail
  refine (timeI g n c X F _ HX.out hn).mono ?_
  rintro e w1 ⟨s, rfl, hs, hb⟩
  rw [HL.out]
  have Hs := Lib.hid hs
  have HX1 := Lib.hid (HX.out.below hb)
  have HB := Lib.hid hb
  clear hb hs
  go_wp2_with fail
  refine (failed_any g n c X F _ HX1.out hn).mono ?_
  rintro e w2 ⟨rfl, hb⟩
  have HX2 := Lib.hid (HX1.out.below hb)
  have HB := Lib.hid (HB.out.trans (hb.mono HB.out.size))
  clear hb
  rw [H0.out]
  obtain ⟨hc, hf⟩ := bcell HB.out
  have hz := HB.out.size
  simp at hz hc hf
  go_wp2
  refine bodyPost_ret (v := .tuple #[.agg #[.int .i64 0, .float .f32 0, .float .f32 0], .bool false]) (by simp [results, Try.results29, go_sem, hc]) rfl ⟨rfl, ?_⟩
  repeat (first | exact ((Below.refl _ _).alloc (Nat.le_refl _) _).trans (HB.out.mono (by simp)) | refine Below.setCell ?_ (by simp) _)
set_option maxHeartbeats 1000000 in
theorem fitImpl_no (g n c : Nat) (X : Nat → Nat) (F : Nat → Bool) (w : World) (hx : LivesAt w g 0 X F n) (hn : n ≤ 1048576) (hl : timeOk X n = true) (h0 : cntF F n ≠ 0) (hw : lawB 0 (cls .f32 1065353216) (fitC X F n) = false) :
    Calls Try.prog 29 #[.slice (some ⟨g, 0, none⟩) n c] w fun e w' => e = .returned (.tuple #[.agg #[.int .i64 0, .float .f32 0, .float .f32 0], .bool false]) ∧ Below w.heap.size w w' := by
  have HL := Lib.hid hl
  have HW := Lib.hid hw
  clear hl hw
  have HX := Lib.hid (hx.below (show Below w.heap.size w (w.alloc (.cells #[.int .i64 0, .float .f32 0, .float .f32 0] 39)) from (Below.refl _ _).alloc (Nat.le_refl _) _))
  clear hx
  generalize hcd : cntF F n = cd at *
  have hne : ((cd : Int) == 0) = false := by simp; omega
  have hne' : (0 : Int) < (cd : Int) := by omega
  clear h0
  have HCD := Lib.hid hcd
  clear hcd
  go_enter Try.func29, Try.ntmps29
  go_wp2_with fail
  refine (timeI g n c X F _ HX.out hn).mono ?_
  rintro e w1 ⟨s, rfl, hs, hb⟩
  rw [HL.out]
  have Hs := Lib.hid hs
  have HX1 := Lib.hid (HX.out.below hb)
  have HB := Lib.hid hb
  clear hb hs
  go_wp2_with fail
  refine (failed_any g n c X F _ HX1.out hn).mono ?_
  rintro e w2 ⟨rfl, hb⟩
  have HX2 := Lib.hid (HX1.out.below hb)
  have HB := Lib.hid (HB.out.trans (hb.mono HB.out.size))
  clear hb
  rw [HCD.out]
  go_wp2_with fail
  refine (failed_any g n c X F _ HX2.out hn).mono ?_
  rintro e w4 ⟨rfl, hb⟩
  rw [HCD.out]
  have HB := Lib.hid (HB.out.trans (hb.mono HB.out.size))
  clear hb
  have HT : Hid (cls .f32 s = totC X n) := by have h := Hs.out; unfold timeC at h; rw [HL.out] at h; exact h
  go_wp2_with (first | (refine wpList_fop rfl .quo _ _ _ _ rfl rfl .f32 _ _ rfl rfl ?_; intro τ q))
  refine (ifLaw_no 0 1065353216 _ _ (by rw [cls_rep' (nn_fop _ _ _ _), HT.out, ← HCD.out]; exact HW.out)).mono ?_
  rintro e w5 ⟨rfl, hb⟩
  have HB := Lib.hid ((HB.out.trans ((below_drewN' _ _).mono HB.out.size)).trans (hb.mono HB.out.size))
  clear hb
  obtain ⟨hc, hf⟩ := bcell HB.out
  have hz := HB.out.size
  simp at hz hc hf
  go_wp2
  refine bodyPost_ret (v := .tuple #[.agg #[.int .i64 0, .float .f32 0, .float .f32 0], .bool false]) (by simp [results, Try.results29, go_sem, hc]) rfl ⟨rfl, ?_⟩
  repeat (first | exact ((Below.refl _ _).alloc (Nat.le_refl _) _).trans (HB.out.mono (by simp)) | refine Below.setCell ?_ (by simp) _)
set_option maxHeartbeats 1000000 in
theorem fitImpl_yes (g n c : Nat) (X : Nat → Nat) (F : Nat → Bool) (w : World) (hx : LivesAt w g 0 X F n) (hn : n ≤ 1048576) (hl : timeOk X n = true) (h0 : cntF F n ≠ 0) (hw : lawB 0 (cls .f32 1065353216) (fitC X F n) = true) :
    Calls Try.prog 29 #[.slice (some ⟨g, 0, none⟩) n c] w fun e w' => (∃ r, e = .returned (.tuple #[.agg #[.int .i64 0, .float .f32 1065353216, .float .f32 r], .bool true]) ∧ cls .f32 r = fitC X F n) ∧ Below w.heap.size w w' := by
  have HL := Lib.hid hl
  have HW := Lib.hid hw
  clear hl hw
  have HX := Lib.hid (hx.below (show Below w.heap.size w (w.alloc (.cells #[.int .i64 0, .float .f32 0, .float .f32 0] 39)) from (Below.refl _ _).alloc (Nat.le_refl _) _))
  clear hx
  generalize hcd : cntF F n = cd at *
  have hne : ((cd : Int) == 0) = false := by simp; omega
  have hne' : (0 : Int) < (cd : Int) := by omega
  clear h0
  have HCD := Lib.hid hcd
  clear hcd
  go_enter Try.func29, Try.ntmps29
  go_wp2_with fail
  refine (timeI g n c X F _ HX.out hn).mono ?_
  rintro e w1 ⟨s, rfl, hs, hb⟩
  rw [HL.out]
  have Hs := Lib.hid hs
  have HX1 := Lib.hid (HX.out.below hb)
  have HB := Lib.hid hb
  clear hb hs
  go_wp2_with fail
  refine (failed_any g n c X F _ HX1.out hn).mono ?_
  rintro e w2 ⟨rfl, hb⟩
  have HX2 := Lib.hid (HX1.out.below hb)
  have HB := Lib.hid (HB.out.trans (hb.mono HB.out.size))
  clear hb
  rw [HCD.out]
  go_wp2_with fail
  refine (failed_any g n c X F _ HX2.out hn).mono ?_
  rintro e w4 ⟨rfl, hb⟩
  rw [HCD.out]
  have HB := Lib.hid (HB.out.trans (hb.mono HB.out.size))
  clear hb
  have HT : Hid (cls .f32 s = totC X n) := by have h := Hs.out; unfold timeC at h; rw [HL.out] at h; exact h
  go_wp2_with (first | (refine wpList_fop rfl .quo _ _ _ _ rfl rfl .f32 _ _ rfl rfl ?_; intro τ q))
  refine (ifLaw_yes 0 1065353216 _ _ (by rw [cls_rep' (nn_fop _ _ _ _), HT.out, ← HCD.out]; exact HW.out)).mono ?_
  rintro e w5 ⟨rfl, hb⟩
  have HB := Lib.hid ((HB.out.trans ((below_drewN' _ _).mono HB.out.size)).trans (hb.mono HB.out.size))
  clear hb
  obtain ⟨hc, hf⟩ := bcell HB.out
  have hz := HB.out.size
  simp at hz hc hf
  go_wp2
  refine bodyPost_ret (v := .tuple #[.agg #[.int .i64 0, .float .f32 1065353216, .float .f32 (rep .f32 (fop .quo .f32 (cls .f32 s) (cls .f32 (floatOfInt .f32 (cd : Int)))) τ)], .bool true]) (by simp [results, Try.results29, go_sem, hc]) rfl ⟨⟨_, rfl, (cls_rep' (nn_fop _ _ _ _) _).trans (by rw [HT.out, ← HCD.out]; rfl)⟩, ?_⟩
  repeat (first | exact ((Below.refl _ _).alloc (Nat.le_refl _) _).trans (HB.out.mono (by simp)) | refine Below.setCell ?_ (by simp) _)
/-- what both texts give: no law, or the law of kind 0 with the scale -/
theorem fit_none {X : Nat → Nat} {F : Nat → Bool} {n : Nat} (h : fitB X F n = false) : ∃ s r, (Ending.returned (.tuple #[.agg #[.int .i64 0, .float .f32 0, .float .f32 0], .bool false]) : Ending) = .returned (.tuple #[.agg #[.int .i64 0, .float .f32 s, .float .f32 r], .bool (fitB X F n)]) ∧ cls .f32 s = fitS X F n ∧ cls .f32 r = fitR X F n :=
  ⟨0, 0, by rw [h], by unfold fitS; rw [h]; rfl, by unfold fitR; rw [h]; rfl⟩
theorem fit_some {X : Nat → Nat} {F : Nat → Bool} {n q : Nat} (h : fitB X F n = true) (hq : cls .f32 q = fitC X F n) : ∃ s r, (Ending.returned (.tuple #[.agg #[.int .i64 0, .float .f32 1065353216, .float .f32 q], .bool true]) : Ending) = .returned (.tuple #[.agg #[.int .i64 0, .float .f32 s, .float .f32 r], .bool (fitB X F n)]) ∧ cls .f32 s = fitS X F n ∧ cls .f32 r = fitR X F n :=
  ⟨1065353216, q, by rw [h], by unfold fitS; rw [h]; rfl, by unfold fitR; rw [h, hq]; rfl⟩
theorem fitSpec (g n c : Nat) (X : Nat → Nat) (F : Nat → Bool) (w : World) (hx : LivesAt w g 0 X F n) (hn : n ≤ 1048576) :
    Calls Try.prog 28 #[.slice (some ⟨g, 0, none⟩) n c] w fun e w' => (∃ s r, e = .returned (.tuple #[.agg #[.int .i64 0, .float .f32 s, .float .f32 r], .bool (fitB X F n)]) ∧ cls .f32 s = fitS X F n ∧ cls .f32 r = fitR X F n) ∧ Below w.heap.size w w' := by
  cases hl : livesB X n
  · exact (fitSpec_bad g n c X F w hx hn hl).mono fun e w' ⟨he, hb⟩ => ⟨he ▸ fit_none (by unfold fitB; rw [hl]; rfl), hb⟩
  by_cases h0 : cntF F n = 0
  · exact (fitSpec_none g n c X F w hx hn hl h0).mono fun e w' ⟨he, hb⟩ => ⟨he ▸ fit_none (by unfold fitB; rw [h0]; simp), hb⟩
  cases hw : lawB 0 (cls .f32 1065353216) (fitC X F n)
  · exact (fitSpec_no g n c X F w hx hn hl h0 hw).mono fun e w' ⟨he, hb⟩ => ⟨he ▸ fit_none (by unfold fitB; rw [hw]; simp), hb⟩
  · exact (fitSpec_yes g n c X F w hx hn hl h0 hw).mono fun e w' ⟨⟨q, he, hq⟩, hb⟩ => ⟨he ▸ fit_some (by unfold fitB; rw [hl, hw, decide_eq_true h0]; rfl) hq, hb⟩
theorem fitImpl (g n c : Nat) (X : Nat → Nat) (F : Nat → Bool) (w : World) (hx : LivesAt w g 0 X F n) (hn : n ≤ 1048576) :
    Calls Try.prog 29 #[.slice (some ⟨g, 0, none⟩) n c] w fun e w' => (∃ s r, e = .returned (.tuple #[.agg #[.int .i64 0, .float .f32 s, .float .f32 r], .bool (fitB X F n)]) ∧ cls .f32 s = fitS X F n ∧ cls .f32 r = fitR X F n) ∧ Below w.heap.size w w' := by
  cases hl : timeOk X n
  · refine (fitImpl_bad g n c X F w hx hn hl).mono fun e w' ⟨he, hb⟩ => ⟨he ▸ fit_none ?_, hb⟩
    unfold timeOk at hl
    unfold fitB
    cases h1 : livesB X n
    · rfl
    · rw [h1] at hl
      by_cases h0 : cntF F n = 0
      · rw [h0]; simp
      · rw [fit_fin (lives_few h1) h0 hl]; simp
  have hv : livesB X n = true := by unfold timeOk at hl; simp at hl; exact hl.1
  by_cases h0 : cntF F n = 0
  · exact (fitImpl_none g n c X F w hx hn hl h0).mono fun e w' ⟨he, hb⟩ => ⟨he ▸ fit_none (by unfold fitB; rw [h0]; simp), hb⟩
  cases hw : lawB 0 (cls .f32 1065353216) (fitC X F n)
  · exact (fitImpl_no g n c X F w hx hn hl h0 hw).mono fun e w' ⟨he, hb⟩ => ⟨he ▸ fit_none (by unfold fitB; rw [hw]; simp), hb⟩
  · exact (fitImpl_yes g n c X F w hx hn hl h0 hw).mono fun e w' ⟨⟨q, he, hq⟩, hb⟩ => ⟨he ▸ fit_some (by unfold fitB; rw [hv, hw, decide_eq_true h0]; rfl) hq, hb⟩
/-- two laws of one kind and of the same numbers -/
theorem eqLaw_same (k : Int) (a b x y : Nat) (w : World) (h1 : cls .f32 a = cls .f32 x) (h2 : cls .f32 b = cls .f32 y) :
    Calls Try.prog 30 #[.agg #[.int .i64 k, .float .f32 a, .float .f32 b], .agg #[.int .i64 k, .float .f32 x, .float .f32 y]] w fun e w' => e = .returned (.bool true) ∧ Below w.heap.size w w' := by
  have H1 := Lib.hid h1
  have H2 := Lib.hid h2
  clear h1 h2
  go_enter Try.func30, Try.ntmps30
  go_wp2_with (first | (refine wpList_conv rfl _ _ _ rfl .f32 .f64 _ rfl (by decide) (by kernel_rfl) Try.underlying36 (noOver_widen _) ?_; intro τ q))
  refine (sameFloat_same _ _ _ (by rw [cls_rep' (nn_fconv _ _ _ (nn_cls _ _)), cls_rep' (nn_fconv _ _ _ (nn_cls _ _)), H1.out])).mono ?_
  rintro e w1 ⟨q, rfl, rfl⟩
  go_wp2_with (first | (refine wpList_conv rfl _ _ _ rfl .f32 .f64 _ rfl (by decide) (by kernel_rfl) Try.underlying36 (noOver_widen _) ?_; intro τ q))
  refine (sameFloat_same _ _ _ (by rw [cls_rep' (nn_fconv _ _ _ (nn_cls _ _)), cls_rep' (nn_fconv _ _ _ (nn_cls _ _)), H2.out])).mono ?_
  rintro e w1 ⟨q, rfl, rfl⟩
  go_wp2
  go_ret
  exact ⟨rfl, by repeat (first | exact Below.refl _ _ | refine below_drewN ?_ _ | refine Below.drew ?_ | refine Below.alloc ?_ (by simp; try omega) _)⟩
end Go.Proofs.Ytceckapldohkdaa
