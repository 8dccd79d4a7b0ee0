/- FnExactAngleTurns: for every point the law returns true: program and reference give the same angle. -/
import Derived.Test.YtcjkelnhikhbhaaAngI
namespace Go.Proofs.Ytcjkelnhikhbhaa.FnExactAngleTurns
open Go.ChangeShapes Go.WideShapes Go.ChangeAt Go.RowKit Go.Deep Flt

/-- whether a float32 is a finite number, by its bits -/
def fin (b : Nat) : Bool := finC .f32 (cls .f32 b)
def zer (b : Nat) : Bool := ford .f32 (cls .f32 b) (cls .f32 0) == some .eq
/-- the angle of a point, as a class -/
def angC (a b : Nat) : Option Nat :=
  if fin a = true then if fin b = true then if zer b = true then if zer a = true then some 0 else fconv .f64 .f32 (angW (conv .f32 .f64 a) (conv .f32 .f64 b)) else fconv .f64 .f32 (angW (conv .f32 .f64 a) (conv .f32 .f64 b)) else none else none

theorem fin_some {b : Nat} (h : fin b = true) : cls .f32 b = some b ∧ rung FloatKind.f32.format b < FloatKind.f32.format.infRung := by
  unfold fin cls at *
  split
  · rename_i h1; rw [if_pos h1] at h; exact ⟨rfl, by simpa [finC] using h⟩
  · rename_i h1; rw [if_neg h1] at h; cases h
theorem fin_wide {b : Nat} (h : fin b = true) : rung FloatKind.f64.format (conv .f32 .f64 b) < 9218868437227405312 := by
  rw [conv_rung (fin_some h).2]; exact noOver_widen b (fin_some h).2
theorem zer_not {b : Nat} (h : fin b = true) (hz : zer b = false) : rung FloatKind.f64.format (conv .f32 .f64 b) ≠ 0 := by
  intro h0
  have h1 := (wide_rung_zero (Nat.le_of_lt (fin_some h).2)).1 h0
  unfold zer at hz
  rw [zero_cmp32 (Nat.le_of_lt (fin_some h).2), if_pos h1] at hz
  cases hz
/-- the core's facts -/
structure Core (a b y x : Nat) : Prop where
  ly : y < 18446744073709551616
  lx : x < 18446744073709551616
  cy : ∀ τ, rep .f64 (fconv .f32 .f64 (cls .f32 a)) τ = y
  cx : ∀ τ, rep .f64 (fconv .f32 .f64 (cls .f32 b)) τ = x
  L : (ford .f64 (cls .f64 x) (cls .f64 0) == some .lt) = (ford .f32 (cls .f32 b) (cls .f32 0) == some .lt)
  D : (ford .f64 (cls .f64 y) (cls .f64 0) == some .lt) = (ford .f32 (cls .f32 a) (cls .f32 0) == some .lt)
  zx : (ford .f64 (cls .f64 x) (cls .f64 0) == some .eq) = zer b
  zy : (ford .f64 (cls .f64 y) (cls .f64 0) == some .eq) = zer a
  fy : (ford .f64 (fop .sub .f64 (cls .f64 y) (cls .f64 y)) (cls .f64 0) != some .eq) = false
  fx : (ford .f64 (fop .sub .f64 (cls .f64 x) (cls .f64 x)) (cls .f64 0) != some .eq) = false
theorem fin_test64 {b : Nat} (h : fin b = true) : (ford .f64 (fop .sub .f64 (cls .f64 (conv .f32 .f64 b)) (cls .f64 (conv .f32 .f64 b))) (cls .f64 0) != some .eq) = false := by
  have := fin_test (nn_cls .f64 (conv .f32 .f64 b))
  have h2 : finC .f64 (cls .f64 (conv .f32 .f64 b)) = true := by
    have hw := fin_wide h
    rw [cls_of_le (Nat.le_of_lt hw)]; exact decide_eq_true hw
  rw [h2] at this
  unfold bne; rw [this]; rfl
theorem core {a b : Nat} (ha : fin a = true) (hb : fin b = true) : Core a b (conv .f32 .f64 a) (conv .f32 .f64 b) where
  ly := conv_lt _ _ _
  lx := conv_lt _ _ _
  cy := fun τ => by rw [(fin_some ha).1]; rfl
  cx := fun τ => by rw [(fin_some hb).1]; rfl
  L := by rw [wide_cmp (Nat.le_of_lt (fin_some hb).2)]
  D := by rw [wide_cmp (Nat.le_of_lt (fin_some ha).2)]
  zx := by rw [wide_cmp (Nat.le_of_lt (fin_some hb).2)]; rfl
  zy := by rw [wide_cmp (Nat.le_of_lt (fin_some ha).2)]; rfl
  fy := fin_test64 ha
  fx := fin_test64 hb

set_option maxHeartbeats 2000000 in
theorem angI (a b : Nat) (w : World) :
    Calls Try.prog 40 #[.float .f32 a, .float .f32 b] w fun e w' => ∃ r, e = .returned (.float .f32 r) ∧ cls .f32 r = angC a b ∧ Drew w w' := by
  cases hb : fin b
  · have HC := Lib.hid (show angC a b = none by unfold angC; rw [hb]; split <;> rfl)
    have h1 : finB (cls .f32 b) = false := (finB_eq (nn_cls _ _)).trans hb
    clear hb
    go_enter Try.func40, Try.ntmps40
    go_wp2_with (first | (go_at_call 50; refine (isFinite_any _ _).mono ?_; rintro e w1 ⟨n, rfl, rfl⟩) | (refine (nan_any _).mono ?_; rintro e w1 ⟨rfl, rfl⟩) | (refine wpList_conv rfl _ _ _ rfl .f64 .f32 _ rfl (by decide) (by kernel_rfl) Try.underlying23 (fun h => absurd h (by decide +kernel)) ?_; intro τ n))
    go_ret
    exact ⟨_, rfl, (cls_rep' (nn_fconv _ _ _ (nn_cls _ _)) _).trans (by rw [HC.out]; decide +kernel), by repeat (first | exact Drew.refl _ | refine Drew.drewN ?_ _ | refine Drew.drew ?_)⟩
  cases ha : fin a
  · have HC := Lib.hid (show angC a b = none by unfold angC; rw [ha]; rfl)
    have h1 : finB (cls .f32 b) = true := (finB_eq (nn_cls _ _)).trans hb
    have h2 : finB (cls .f32 a) = false := (finB_eq (nn_cls _ _)).trans ha
    clear ha hb
    go_enter Try.func40, Try.ntmps40
    go_wp2_with (first | (go_at_call 50; refine (isFinite_any _ _).mono ?_; rintro e w1 ⟨n, rfl, rfl⟩) | (refine (nan_any _).mono ?_; rintro e w1 ⟨rfl, rfl⟩) | (refine wpList_conv rfl _ _ _ rfl .f64 .f32 _ rfl (by decide) (by kernel_rfl) Try.underlying23 (fun h => absurd h (by decide +kernel)) ?_; intro τ n))
    go_ret
    exact ⟨_, rfl, (cls_rep' (nn_fconv _ _ _ (nn_cls _ _)) _).trans (by rw [HC.out]; decide +kernel), by repeat (first | exact Drew.refl _ | refine Drew.drewN ?_ _ | refine Drew.drew ?_)⟩
  have h1 : finB (cls .f32 b) = true := (finB_eq (nn_cls _ _)).trans hb
  have h2 : finB (cls .f32 a) = true := (finB_eq (nn_cls _ _)).trans ha
  have K := core ha hb
  have wa := fin_wide ha
  have wb := fin_wide hb
  cases hzb : zer b
  · have HC := (show angC a b = fconv .f64 .f32 (angW (conv .f32 .f64 a) (conv .f32 .f64 b)) by unfold angC; rw [ha, hb, hzb]; rfl)
    rw [HC]
    exact angI_core a b _ _ w K.ly K.lx K.cy K.cx h2 h1 K.L K.D (bd_angW wa wb (.inr (zer_not hb hzb))) (.inl hzb)
  cases hza : zer a
  · have HC := (show angC a b = fconv .f64 .f32 (angW (conv .f32 .f64 a) (conv .f32 .f64 b)) by unfold angC; rw [ha, hb, hzb, hza]; rfl)
    rw [HC]
    exact angI_core a b _ _ w K.ly K.lx K.cy K.cx h2 h1 K.L K.D (bd_angW wa wb (.inl (zer_not ha hza))) (.inr ⟨hzb, hza⟩)
  have HC := Lib.hid (show angC a b = some 0 by unfold angC; rw [ha, hb, hzb, hza]; rfl)
  unfold zer at hza hzb
  clear ha hb K wa wb
  go_enter Try.func40, Try.ntmps40
  go_wp2_with (first | (go_at_call 50; refine (isFinite_any _ _).mono ?_; rintro e w1 ⟨n, rfl, rfl⟩))
  go_ret
  exact ⟨_, rfl, by rw [HC.out]; decide +kernel, by repeat (first | exact Drew.refl _ | refine Drew.drewN ?_ _ | refine Drew.drew ?_)⟩

theorem angWide_nan (y x : Nat) (w : World)
    (h : (ford .f64 (fop .sub .f64 (cls .f64 y) (cls .f64 y)) (cls .f64 0) != some .eq) = true ∨ ((ford .f64 (fop .sub .f64 (cls .f64 y) (cls .f64 y)) (cls .f64 0) != some .eq) = false ∧ (ford .f64 (fop .sub .f64 (cls .f64 x) (cls .f64 x)) (cls .f64 0) != some .eq) = true)) :
    Calls Try.prog 75 #[.float .f64 y, .float .f64 x] w fun e w' => e = .returned (.float .f64 9221120237041090561) ∧ Drew w w' := by
  rcases h with h | ⟨h, h2⟩
  all_goals
    go_enter Try.func75, Try.ntmps75
    go_wp2_with (first | (refine wpList_fop rfl .sub _ _ _ _ rfl rfl .f64 _ _ rfl rfl ?_; intro τ q) | (refine wpList_fop_g rfl .sub _ _ _ _ rfl rfl .f64 _ _ rfl rfl ?_; intro τ q) | (refine (nan_any _).mono ?_; rintro e w1 ⟨rfl, rfl⟩))
    go_ret
    exact ⟨rfl, by repeat (first | exact Drew.refl _ | refine Drew.drewN ?_ _ | refine Drew.drew ?_)⟩
theorem angWide_zero (y x : Nat) (w : World)
    (fy : (ford .f64 (fop .sub .f64 (cls .f64 y) (cls .f64 y)) (cls .f64 0) != some .eq) = false)
    (fx : (ford .f64 (fop .sub .f64 (cls .f64 x) (cls .f64 x)) (cls .f64 0) != some .eq) = false)
    (h : (ford .f64 (cls .f64 x) (cls .f64 0) == some .eq) = true) (h2 : (ford .f64 (cls .f64 y) (cls .f64 0) == some .eq) = true) :
    Calls Try.prog 75 #[.float .f64 y, .float .f64 x] w fun e w' => e = .returned (.float .f64 0) ∧ Drew w w' := by
  go_enter Try.func75, Try.ntmps75
  go_wp2_with (first | (refine wpList_fop rfl .sub _ _ _ _ rfl rfl .f64 _ _ rfl rfl ?_; intro τ q) | (refine wpList_fop_g rfl .sub _ _ _ _ rfl rfl .f64 _ _ rfl rfl ?_; intro τ q))
  go_ret
  exact ⟨rfl, by repeat (first | exact Drew.refl _ | refine Drew.drewN ?_ _ | refine Drew.drew ?_)⟩

theorem nan_test {b : Nat} (h : fin b = false) (τ : Tp .f64) : (ford .f64 (fop .sub .f64 (cls .f64 (rep .f64 (fconv .f32 .f64 (cls .f32 b)) τ)) (cls .f64 (rep .f64 (fconv .f32 .f64 (cls .f32 b)) τ))) (cls .f64 0) != some .eq) = true := by
  rw [cls_rep' (nn_fconv _ _ _ (nn_cls _ _))]
  have := fin_test (nn_fconv .f32 .f64 _ (nn_cls .f32 b))
  rw [finC_widen (nn_cls _ _)] at this
  have h' : finC .f32 (cls .f32 b) = false := h
  rw [h'] at this
  unfold bne; rw [this]; rfl
theorem num_test {b : Nat} (h : fin b = true) (τ : Tp .f64) : (ford .f64 (fop .sub .f64 (cls .f64 (rep .f64 (fconv .f32 .f64 (cls .f32 b)) τ)) (cls .f64 (rep .f64 (fconv .f32 .f64 (cls .f32 b)) τ))) (cls .f64 0) != some .eq) = false := by
  rw [show rep .f64 (fconv .f32 .f64 (cls .f32 b)) τ = conv .f32 .f64 b by rw [(fin_some h).1]; rfl]
  exact fin_test64 h

set_option maxHeartbeats 2000000 in
theorem l01Angle_any (a b : Nat) (w : World) :
    Calls Try.prog 64 #[.float .f32 a, .float .f32 b] w fun e w' => ∃ r, e = .returned (.float .f32 r) ∧ cls .f32 r = angC a b ∧ Drew w w' := by
  cases hf : (fin a && fin b)
  · have HC := Lib.hid (show angC a b = none by unfold angC; cases ha : fin a <;> cases hb : fin b <;> first | rfl | (rw [ha, hb] at hf; cases hf))
    have HH := Lib.hid (fun (τ σ : Tp .f64) => show (ford .f64 (fop .sub .f64 (cls .f64 (rep .f64 (fconv .f32 .f64 (cls .f32 a)) τ)) (cls .f64 (rep .f64 (fconv .f32 .f64 (cls .f32 a)) τ))) (cls .f64 0) != some .eq) = true ∨ ((ford .f64 (fop .sub .f64 (cls .f64 (rep .f64 (fconv .f32 .f64 (cls .f32 a)) τ)) (cls .f64 (rep .f64 (fconv .f32 .f64 (cls .f32 a)) τ))) (cls .f64 0) != some .eq) = false ∧ (ford .f64 (fop .sub .f64 (cls .f64 (rep .f64 (fconv .f32 .f64 (cls .f32 b)) σ)) (cls .f64 (rep .f64 (fconv .f32 .f64 (cls .f32 b)) σ))) (cls .f64 0) != some .eq) = true) by
      cases ha : fin a
      · exact .inl (nan_test ha τ)
      · exact .inr ⟨num_test ha τ, nan_test (by rw [ha] at hf; simpa using hf) σ⟩)
    clear hf
    go_enter Try.func64, Try.ntmps64
    go_wp2_with (first | (refine wpList_conv rfl _ _ _ rfl .f32 .f64 _ rfl (by decide) (by kernel_rfl) Try.underlying28 (noOver_widen _) ?_; intro τ q) | (refine (angWide_nan _ _ _ (HH.out _ _)).mono ?_; rintro e w1 ⟨rfl, hd⟩; have HD := Lib.hid hd; clear hd) | (refine (narrow_any _ _ (fun h => absurd h (by decide +kernel))).mono ?_; rintro e w' ⟨ρ, q, rfl, rfl⟩))
    go_ret
    exact ⟨_, rfl, (cls_rep' (nn_fconv _ _ _ (nn_cls _ _)) _).trans (by rw [HC.out]; decide +kernel), by repeat (first | exact ((Drew.refl _).drewN _).trans HD.out | exact HD.out | exact Drew.refl _ | refine Drew.drewN ?_ _ | refine Drew.drew ?_)⟩
  have ha : fin a = true := ((Bool.and_eq_true _ _).mp hf).1
  have hb : fin b = true := ((Bool.and_eq_true _ _).mp hf).2
  have K := core ha hb
  have wa := fin_wide ha
  have wb := fin_wide hb
  have hcy := K.cy
  have hcx := K.cx
  have KH := Lib.hid K
  cases hzz : (zer b && zer a)
  · have HC := Lib.hid (show angC a b = fconv .f64 .f32 (angW (conv .f32 .f64 a) (conv .f32 .f64 b)) by unfold angC; rw [ha, hb]; cases hzb : zer b <;> cases hza : zer a <;> first | rfl | (rw [hza, hzb] at hzz; cases hzz))
    have HB := Lib.hid (bd_angW wa wb (by
      cases hzb : zer b
      · exact .inr (zer_not hb hzb)
      · exact .inl (zer_not ha (by rw [hzb] at hzz; simpa using hzz))))
    have HZ := Lib.hid (show (ford .f64 (cls .f64 (conv .f32 .f64 b)) (cls .f64 0) == some .eq) = false ∨ ((ford .f64 (cls .f64 (conv .f32 .f64 b)) (cls .f64 0) == some .eq) = true ∧ (ford .f64 (cls .f64 (conv .f32 .f64 a)) (cls .f64 0) == some .eq) = false) by
      rw [K.zx, K.zy]
      cases hzb : zer b
      · exact .inl rfl
      · exact .inr ⟨rfl, by rw [hzb] at hzz; simpa using hzz⟩)
    clear hf ha hb wa wb hzz K
    generalize conv .f32 .f64 a = Y at *
    generalize conv .f32 .f64 b = X at *
    go_enter Try.func64, Try.ntmps64
    go_wp2_with (first | (refine wpList_conv rfl _ _ _ rfl .f32 .f64 _ rfl (by decide) (by kernel_rfl) Try.underlying28 (noOver_widen _) ?_; intro τ q; first | rw [hcy τ] | rw [hcx τ]) | (refine (angWide_any _ _ _ KH.out.ly KH.out.lx KH.out.fy KH.out.fx HZ.out).mono ?_; rintro e w1 ⟨r, rfl, hr, hlt, hd⟩; have HR := Lib.hid hr; have HD := Lib.hid hd; have ho := noOver_82 (b := r) (by rw [HR.out]; exact HB.out); clear hr hd) | (refine (narrow_any _ _ ho).mono ?_; rintro e w' ⟨ρ, q, rfl, rfl⟩))
    go_ret
    exact ⟨_, rfl, (cls_rep' (nn_fconv _ _ _ (nn_cls _ _)) _).trans (by rw [HC.out, HR.out]), by repeat (first | exact ((Drew.refl _).drewN _).trans HD.out | exact HD.out | exact Drew.refl _ | refine Drew.drewN ?_ _ | refine Drew.drew ?_)⟩
  · have HC := Lib.hid (show angC a b = some 0 by unfold angC; rw [ha, hb, ((Bool.and_eq_true _ _).mp hzz).1, ((Bool.and_eq_true _ _).mp hzz).2]; rfl)
    have HZ := Lib.hid (K.zx.trans ((Bool.and_eq_true _ _).mp hzz).1)
    have HZ2 := Lib.hid (K.zy.trans ((Bool.and_eq_true _ _).mp hzz).2)
    clear hf ha hb wa wb hzz K
    generalize conv .f32 .f64 a = Y at *
    generalize conv .f32 .f64 b = X at *
    go_enter Try.func64, Try.ntmps64
    go_wp2_with (first | (refine wpList_conv rfl _ _ _ rfl .f32 .f64 _ rfl (by decide) (by kernel_rfl) Try.underlying28 (noOver_widen _) ?_; intro τ q; first | rw [hcy τ] | rw [hcx τ]) | (refine (angWide_zero _ _ _ KH.out.fy KH.out.fx HZ.out HZ2.out).mono ?_; rintro e w1 ⟨rfl, hd⟩; have HD := Lib.hid hd; clear hd) | (refine (narrow_any _ _ (fun _ => by decide +kernel)).mono ?_; rintro e w' ⟨ρ, q, rfl, rfl⟩))
    go_ret
    exact ⟨_, rfl, (cls_rep' (nn_fconv _ _ _ (nn_cls _ _)) _).trans (by rw [HC.out]; decide +kernel), by repeat (first | exact ((Drew.refl _).drewN _).trans HD.out | exact HD.out | exact Drew.refl _ | refine Drew.drewN ?_ _ | refine Drew.drew ?_)⟩

theorem angS (a b : Nat) (w : World) :
    Calls Try.prog 39 #[.float .f32 a, .float .f32 b] w fun e w' => ∃ r, e = .returned (.float .f32 r) ∧ cls .f32 r = angC a b ∧ Drew w w' := by
  go_enter Try.func39, Try.ntmps39
  go_wp2_with fail
  refine (l01Angle_any a b w).mono ?_
  rintro e w1 ⟨r, rfl, hr, hd⟩
  have HR := Lib.hid hr
  have HD := Lib.hid hd
  clear hr hd
  go_wp2
  go_ret
  exact ⟨r, rfl, HR.out, HD.out⟩

set_option maxHeartbeats 1000000 in
theorem walk (a b : Nat) (w : World) (_ : a < 4294967296) (_ : b < 4294967296) :
    Calls Try.prog 13 #[.float .f32 a, .float .f32 b] w fun e w' => e = .returned (.bool true) ∧ Below w.heap.size w w' := by
  go_enter Try.func13, Try.ntmps13
  go_wp2_with fail
  refine (angS a b w).mono ?_
  rintro e w1 ⟨r, rfl, hr, hd⟩
  have HR := Lib.hid hr
  have HD := Lib.hid hd
  clear hr hd
  go_wp2_with fail
  refine (angI a b _).mono ?_
  rintro e w2 ⟨s, rfl, hs, hd⟩
  have HS := Lib.hid hs
  have HE := Lib.hid (HD.out.trans hd)
  clear hs hd
  go_wp2_with (first | (refine wpList_conv rfl _ _ _ rfl .f32 .f64 _ rfl (by decide) (by kernel_rfl) Try.underlying28 (noOver_widen _) ?_; intro τ k))
  refine (sameFloat_same _ _ _ (by rw [cls_rep' (nn_fconv _ _ _ (nn_cls _ _)), cls_rep' (nn_fconv _ _ _ (nn_cls _ _)), HR.out, HS.out])).mono ?_
  rintro e w5 ⟨k, rfl, rfl⟩
  go_wp2
  go_ret
  exact ⟨rfl, (HE.out.drewN _).below⟩

set_option maxRecDepth 100000 in
theorem lifted (os : Os) (started : os.Started) (H : Type) (enc : TypeId × Value → H) :
    ReturnsInHanded {} Try.checked os 13 .any (Rows.fnExactAngleTurnsSpec.pre6 enc Try.prog Try.f13 Rows.fnExactAngleTurnsRow.domain false) (Rows.fnExactAngleTurnsSpec.post enc Try.prog Try.f13 false true false false) := by
  refine returnsInHanded_of_change (C := Try.checked) own started (by kernel_rfl) Try.func13
    (ChangeSpec.witness6 (enc := enc) (C := Try.checked) false ⟨#[], #[.float .f32 0, .float .f32 0], []⟩ 8 (by kernel_rfl) (by kernel_rfl) (by kernel_rfl) (by kernel_rfl)) ?_
  intro W base args ds gs before hval0 hW hcnd _
  have hval : ∀ (j : Nat) t v, Try.f13.params[j]? = some t → args[j]? = some v → Value.okWide Try.prog W .any base t v := hval0
  have hW' := hW
  obtain ⟨p, q, hA0, hV, rfl, hfz, hnd⟩ := hW
  have hA : DataW.TrodAll enc Try.prog W 0 (fun _ => true) true Try.f13.params.toList args.toList ds p := hA0
  rw [Try.params13] at hA hval
  obtain ⟨v0, vs0, d0, ds0, p0, q0, hargs, rfl, rfl, h0, r0⟩ := trodAll_cons hA
  obtain ⟨v1, vs1, d1, ds1, p1, q1, rfl, rfl, rfl, h1, r1⟩ := trodAll_cons r0
  obtain ⟨rfl, rfl, rfl⟩ := trodAll_nil r1
  obtain rfl : args = #[v0, v1] := by cases args; simp_all
  obtain ⟨rfl, rfl⟩ := trodVars_none hV
  have k0 := h0
  have lt0 : ∀ x ∈ p0, x.block < W.heap.size := by obtain ⟨m, hm⟩ := k0; exact DataW.trod_lt m _ _ _ hm
  obtain ⟨a0, rfl, rfl, rfl, w00⟩ := open_float Try.underlying23 (hval 0 23 v0 rfl rfl) h0
  have w0 : a0 < 4294967296 := by simpa [Lit.wf] using w00
  have k1 := h1
  have lt1 : ∀ x ∈ p1, x.block < W.heap.size := by obtain ⟨m, hm⟩ := k1; exact DataW.trod_lt m _ _ _ hm
  obtain ⟨a1, rfl, rfl, rfl, w10⟩ := open_float Try.underlying23 (hval 1 23 v1 rfl rfl) h1
  have w1 : a1 < 4294967296 := by simpa [Lit.wf] using w10
  clear hA0 hval0
  refine (walk a0 a1 W w0 w1).mono fun e W' ⟨he, bel⟩ => ?_
  subst he
  exact ⟨_, rfl, _, _, _, [], _, [], hW', trodAll_mk1 (shut_bool Try.underlying4 _), (trodAll_cons_mk (Below.trod laidOut (by kernel_rfl) (of_decide_eq_true (by kernel_rfl)) k0 bel lt0) (trodAll_cons_mk (Below.trod laidOut (by kernel_rfl) (of_decide_eq_true (by kernel_rfl)) k1 bel lt1) trodAll_mk0)), rfl, bel.frame _, fun h => by cases h⟩

theorem over : Rows.fnExactAngleTurnsRow.holds Try.pinned (OpenSpec.ofChange Rows.fnExactAngleTurnsSpec) :=
  OpenClaim.holds_of_wide 13 Try.f13 rfl rfl rfl rfl rfl rfl rfl ⟨rfl, rfl, rfl, rfl, rfl⟩ rfl rfl rfl rfl rfl (by kernel_rfl) Try.func13 (by kernel_rfl)
    (of_decide_eq_true (by kernel_rfl)) (by unfold Func.isWrapper; first | (rw [if_pos (by decide +kernel)]; kernel_rfl) | (rw [if_neg (by decide +kernel)]; exact ⟨rfl, rfl⟩))
    (fun os started H enc _ => lifted os started H enc)

/-- the statement -/
theorem proved : Rows.FnExactAngleTurnsSaid := over
end Go.Proofs.Ytcjkelnhikhbhaa.FnExactAngleTurns
