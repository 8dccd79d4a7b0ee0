/- FnExactSineTurns: for every number the law returns true: program and reference give the same sine of turns. -/
import Derived.Test.YtcjkelnhikhbhaaSinT
import Derived.Test.YtcjkelnhikhbhaaRoot
namespace Go.Proofs.Ytcjkelnhikhbhaa.FnExactSineTurns
open Go.ChangeShapes Go.WideShapes Go.ChangeAt Go.RowKit Go.Deep Flt

/-- the sine of a float32 of turns, as a class -/
def sinC (b : Nat) : Option Nat :=
  if finC .f32 (cls .f32 b) = true then
    if 4841369599423283200 ≤ rung FloatKind.f64.format (conv .f32 .f64 b) then some 0
    else fconv .f64 .f32 (sinF (fr1 (fr0 (conv .f32 .f64 b) ((Go.floatToIntVal .f64 (conv .f32 .f64 b) .i64).getD 0))))
  else none

theorem fin_some {b : Nat} (h : finC .f32 (cls .f32 b) = true) : cls .f32 b = some b ∧ rung FloatKind.f32.format b < FloatKind.f32.format.infRung := by
  unfold cls at *
  split
  · rename_i h1; rw [if_pos h1] at h; exact ⟨rfl, by simpa [finC] using h⟩
  · rename_i h1; rw [if_neg h1] at h; cases h
theorem fin_wide {b : Nat} (h : finC .f32 (cls .f32 b) = true) : rung FloatKind.f64.format (conv .f32 .f64 b) < FloatKind.f64.format.infRung := by
  rw [conv_rung (fin_some h).2]; exact noOver_widen b (fin_some h).2

set_option maxHeartbeats 1000000 in
theorem impl_any (b : Nat) (w : World) :
    Calls Try.prog 30 #[.float .f32 b] w fun e w' => ∃ r, e = .returned (.float .f32 r) ∧ cls .f32 r = sinC b ∧ Drew w w' := by
  cases hf : finC .f32 (cls .f32 b)
  · have h1 : finB (cls .f32 b) = false := (finB_eq (nn_cls _ _)).trans hf
    have HC := Lib.hid (show sinC b = none by unfold sinC; rw [hf]; rfl)
    clear hf
    go_enter Try.func30, Try.ntmps30
    go_wp2_with (first | (refine (isFinite_any _ _).mono ?_; rintro e w1 ⟨n, rfl, rfl⟩) | (refine (nan_any _).mono ?_; rintro e w1 ⟨rfl, rfl⟩) | (refine wpList_conv rfl _ _ _ rfl .f64 .f32 _ rfl (by decide) (by kernel_rfl) Try.underlying23 (fun h => absurd h (by decide +kernel)) ?_; intro τ n))
    go_ret
    exact ⟨_, rfl, by rw [HC.out, cls_rep' (nn_fconv _ _ _ (nn_cls _ _))]; rfl, by repeat (first | exact Drew.refl _ | refine Drew.drewN ?_ _ | refine Drew.drew ?_)⟩
  · have h1 : finB (cls .f32 b) = true := (finB_eq (nn_cls _ _)).trans hf
    have hcb := (fin_some hf).1
    have hw := fin_wide hf
    have hconv : ∀ τ, rep .f64 (fconv .f32 .f64 (cls .f32 b)) τ = conv .f32 .f64 b := fun τ => by rw [hcb]; rfl
    have hlt : conv .f32 .f64 b < 18446744073709551616 := conv_lt _ _ _
    have hg := great_tests hw
    by_cases hge : 4841369599423283200 ≤ rung FloatKind.f64.format (conv .f32 .f64 b)
    · have HC := Lib.hid (show sinC b = some 0 by unfold sinC; rw [if_pos hf, if_pos hge])
      rw [decide_eq_true hge] at hg
      have HG := Lib.hid hg
      clear hf hcb hw hge hg
      have hg := HG.out
      generalize conv .f32 .f64 b = Y at *
      go_enter Try.func30, Try.ntmps30
      go_wp2_with (first | (refine (isFinite_any _ _).mono ?_; rintro e w1 ⟨n, rfl, rfl⟩) | (refine wpList_conv rfl _ _ _ rfl .f32 .f64 _ rfl (by decide) (by kernel_rfl) Try.underlying28 (noOver_widen _) ?_; intro τ n; rw [hconv τ]) | (refine (abs_any _ _ hlt).mono ?_; rintro e w1 ⟨rfl, rfl⟩))
      go_ret
      exact ⟨_, rfl, by rw [HC.out]; decide +kernel, by repeat (first | exact Drew.refl _ | refine Drew.drewN ?_ _ | refine Drew.drew ?_)⟩
    · rw [decide_eq_false hge] at hg
      obtain ⟨n, hn, hbd⟩ := whole_part (b := conv .f32 .f64 b) (by omega)
      have HC := Lib.hid (show sinC b = fconv .f64 .f32 (sinF (fr1 (fr0 (conv .f32 .f64 b) n))) by unfold sinC; rw [if_pos hf, if_neg hge, hn]; rfl)
      have HB := Lib.hid (bd_sinF (bd_fr1 hbd))
      have HN := Lib.hid hn
      clear hf hcb hw hge hn hbd
      generalize conv .f32 .f64 b = Y at *
      go_enter Try.func30, Try.ntmps30
      go_wp2_with (first | (refine (isFinite_any _ _).mono ?_; rintro e w1 ⟨q, rfl, rfl⟩) | (refine wpList_conv rfl _ _ _ rfl .f32 .f64 _ rfl (by decide) (by kernel_rfl) Try.underlying28 (noOver_widen _) ?_; intro τ q; rw [hconv τ]) | (refine (abs_any _ _ hlt).mono ?_; rintro e w1 ⟨rfl, rfl⟩) | (refine (sine_any _ n _ HN.out).mono ?_; rintro e w1 ⟨r, rfl, hr, hrlt, hd⟩; have HR := Lib.hid hr; have HD := Lib.hid hd; have ho := noOver_118 (b := r) (by rw [HR.out]; exact HB.out); clear hr hd) | (refine wpList_conv rfl _ _ _ rfl .f64 .f32 _ rfl (by decide) (by kernel_rfl) Try.underlying23 ho ?_; intro ρ q))
      go_ret
      exact ⟨_, rfl, by rw [HC.out, cls_rep' (nn_fconv _ _ _ (nn_cls _ _)), HR.out], by repeat (first | exact ((Drew.refl _).drewN _).trans HD.out | exact HD.out | exact Drew.refl _ | refine Drew.drewN ?_ _ | refine Drew.drew ?_)⟩

set_option maxHeartbeats 1000000 in
theorem l01Sine_any (b : Nat) (w : World) :
    Calls Try.prog 52 #[.float .f32 b] w fun e w' => ∃ r, e = .returned (.float .f32 r) ∧ cls .f32 r = sinC b ∧ Drew w w' := by
  cases hf : finC .f32 (cls .f32 b)
  · have h1 : (ford .f64 (fop .sub .f64 (fconv .f32 .f64 (cls .f32 b)) (fconv .f32 .f64 (cls .f32 b))) (cls .f64 0) != some .eq) = true := by
      have := fin_test (nn_fconv .f32 .f64 _ (nn_cls .f32 b))
      rw [finC_widen (nn_cls _ _), hf] at this
      unfold bne; rw [this]; rfl
    have H1 := Lib.hid h1
    have HC := Lib.hid (show sinC b = none by unfold sinC; rw [hf]; rfl)
    clear hf h1
    go_enter Try.func52, Try.ntmps52
    go_wp2_with (first | (refine wpList_conv rfl _ _ _ rfl .f32 .f64 _ rfl (by decide) (by kernel_rfl) Try.underlying28 (noOver_widen _) ?_; intro τ q) | (refine (sineWide_nan _ _ (by rw [cls_rep' (nn_fconv _ _ _ (nn_cls _ _))]; exact H1.out)).mono ?_; rintro e w1 ⟨r, rfl, hr, hrlt, hd⟩; have HR := Lib.hid hr; have HD := Lib.hid hd; have ho : NoOver .f64 .f32 r := (noOver_118 (b := r) (by rw [HR.out]; exact Bd.none _ _)); clear hr hd) | (refine (narrow_any _ _ ho).mono ?_; rintro e w' ⟨ρ, q, rfl, rfl⟩))
    go_ret
    exact ⟨_, rfl, by rw [HC.out, cls_rep' (nn_fconv _ _ _ (nn_cls _ _)), HR.out]; rfl, by repeat (first | exact ((Drew.refl _).drewN _).trans HD.out | exact HD.out | exact Drew.refl _ | refine Drew.drewN ?_ _ | refine Drew.drew ?_)⟩
  · have hcb := (fin_some hf).1
    have hw := fin_wide hf
    have hconv : ∀ τ, rep .f64 (fconv .f32 .f64 (cls .f32 b)) τ = conv .f32 .f64 b := fun τ => by rw [hcb]; rfl
    have h1 : (ford .f64 (fop .sub .f64 (cls .f64 (conv .f32 .f64 b)) (cls .f64 (conv .f32 .f64 b))) (cls .f64 0) != some .eq) = false := by
      have := fin_test (nn_cls .f64 (conv .f32 .f64 b))
      have h2 : finC .f64 (cls .f64 (conv .f32 .f64 b)) = true := by rw [cls_of_le (Nat.le_of_lt hw)]; simpa [finC] using hw
      rw [h2] at this
      unfold bne; rw [this]; rfl
    have hg := great_tests2 hw
    by_cases hge : 4841369599423283200 ≤ rung FloatKind.f64.format (conv .f32 .f64 b)
    · have HC := Lib.hid (show sinC b = some 0 by unfold sinC; rw [if_pos hf, if_pos hge])
      rw [decide_eq_true hge] at hg
      have HG := Lib.hid hg
      have H1 := Lib.hid h1
      clear hf hcb hw hge hg h1
      generalize conv .f32 .f64 b = Y at *
      go_enter Try.func52, Try.ntmps52
      go_wp2_with (first | (refine wpList_conv rfl _ _ _ rfl .f32 .f64 _ rfl (by decide) (by kernel_rfl) Try.underlying28 (noOver_widen _) ?_; intro τ q; rw [hconv τ]) | (refine (sineWide_zero _ _ H1.out HG.out).mono ?_; rintro e w1 ⟨r, rfl, hr, hrlt, hd⟩; have HR := Lib.hid hr; have HD := Lib.hid hd; have ho : NoOver .f64 .f32 r := (noOver_118 (b := r) (by rw [HR.out]; exact fun b hb => by cases hb; decide +kernel)); clear hr hd) | (refine (narrow_any _ _ ho).mono ?_; rintro e w' ⟨ρ, q, rfl, rfl⟩))
      go_ret
      exact ⟨_, rfl, by rw [HC.out, cls_rep' (nn_fconv _ _ _ (nn_cls _ _)), HR.out]; decide +kernel, by repeat (first | exact ((Drew.refl _).drewN _).trans HD.out | exact HD.out | exact Drew.refl _ | refine Drew.drewN ?_ _ | refine Drew.drew ?_)⟩
    · rw [decide_eq_false hge] at hg
      obtain ⟨g1, g2⟩ := Bool.or_eq_false_iff.1 hg
      obtain ⟨n, hn, hbd⟩ := whole_part (b := conv .f32 .f64 b) (by omega)
      have HC := Lib.hid (show sinC b = fconv .f64 .f32 (sinF (fr1 (fr0 (conv .f32 .f64 b) n))) by unfold sinC; rw [if_pos hf, if_neg hge, hn]; rfl)
      have HB := Lib.hid (bd_sinF (bd_fr1 hbd))
      have HN := Lib.hid hn
      have G1 := Lib.hid g1
      have G2 := Lib.hid g2
      have H1 := Lib.hid h1
      clear hf hcb hw hge hn hbd hg g1 g2 h1
      generalize conv .f32 .f64 b = Y at *
      go_enter Try.func52, Try.ntmps52
      go_wp2_with (first | (refine wpList_conv rfl _ _ _ rfl .f32 .f64 _ rfl (by decide) (by kernel_rfl) Try.underlying28 (noOver_widen _) ?_; intro τ q; rw [hconv τ]) | (refine (sineWide_any _ n _ HN.out H1.out G1.out G2.out).mono ?_; rintro e w1 ⟨r, rfl, hr, hrlt, hd⟩; have HR := Lib.hid hr; have HD := Lib.hid hd; have ho := noOver_118 (b := r) (by rw [HR.out]; exact HB.out); clear hr hd) | (refine (narrow_any _ _ ho).mono ?_; rintro e w' ⟨ρ, q, rfl, rfl⟩))
      go_ret
      exact ⟨_, rfl, by rw [HC.out, cls_rep' (nn_fconv _ _ _ (nn_cls _ _)), HR.out], by repeat (first | exact ((Drew.refl _).drewN _).trans HD.out | exact HD.out | exact Drew.refl _ | refine Drew.drewN ?_ _ | refine Drew.drew ?_)⟩

theorem spec_any (b : Nat) (w : World) :
    Calls Try.prog 29 #[.float .f32 b] w fun e w' => ∃ r, e = .returned (.float .f32 r) ∧ cls .f32 r = sinC b ∧ Drew w w' := by
  go_enter Try.func29, Try.ntmps29
  go_wp2_with fail
  refine (l01Sine_any b w).mono ?_
  rintro e w1 ⟨r, rfl, hr, hd⟩
  have HR := Lib.hid hr
  have HD := Lib.hid hd
  clear hr hd
  go_wp2
  go_ret
  exact ⟨r, rfl, HR.out, HD.out⟩

set_option maxHeartbeats 1000000 in
theorem walk (b : Nat) (w : World) (_ : b < 4294967296) :
    Calls Try.prog 8 #[.float .f32 b] w fun e w' => e = .returned (.bool true) ∧ Below w.heap.size w w' := by
  go_enter Try.func8, Try.ntmps8
  go_wp2_with fail
  refine (spec_any b w).mono ?_
  rintro e w1 ⟨r, rfl, hr, hd⟩
  have HR := Lib.hid hr
  have HD := Lib.hid hd
  clear hr hd
  go_wp2_with fail
  refine (impl_any b _).mono ?_
  rintro e w2 ⟨s, rfl, hs, hd⟩
  have HS := Lib.hid hs
  have HE := Lib.hid (HD.out.trans hd)
  clear hs hd
  go_wp2_with (first | (refine wpList_conv rfl _ _ _ rfl .f32 .f64 _ rfl (by decide) (by kernel_rfl) Try.underlying28 (noOver_widen _) ?_; intro τ k))
  refine (sameFloat_same _ _ _ (by rw [cls_rep' (nn_fconv _ _ _ (nn_cls _ _)), cls_rep' (nn_fconv _ _ _ (nn_cls _ _)), HR.out, HS.out])).mono ?_
  rintro e w5 ⟨k, rfl, rfl⟩
  go_wp2
  go_ret
  exact ⟨rfl, (HE.out.drewN _).below⟩

set_option maxRecDepth 100000 in
theorem lifted (os : Os) (started : os.Started) (H : Type) (enc : TypeId × Value → H) :
    ReturnsInHanded {} Try.checked os 8 .any (Rows.fnExactSineTurnsSpec.pre6 enc Try.prog Try.f8 Rows.fnExactSineTurnsRow.domain false) (Rows.fnExactSineTurnsSpec.post enc Try.prog Try.f8 false true false false) := by
  refine returnsInHanded_of_change (C := Try.checked) own started (by kernel_rfl) Try.func8
    (ChangeSpec.witness6 (enc := enc) (C := Try.checked) false ⟨#[], #[.float .f32 0], []⟩ 8 (by kernel_rfl) (by kernel_rfl) (by kernel_rfl) (by kernel_rfl)) ?_
  intro W base args ds gs before hval0 hW hcnd _
  have hval : ∀ (j : Nat) t v, Try.f8.params[j]? = some t → args[j]? = some v → Value.okWide Try.prog W .any base t v := hval0
  have hW' := hW
  obtain ⟨p, q, hA0, hV, rfl, hfz, hnd⟩ := hW
  have hA : DataW.TrodAll enc Try.prog W 0 (fun _ => true) true Try.f8.params.toList args.toList ds p := hA0
  rw [Try.params8] at hA hval
  obtain ⟨v0, vs0, d0, ds0, p0, q0, hargs, rfl, rfl, h0, r0⟩ := trodAll_cons hA
  obtain ⟨rfl, rfl, rfl⟩ := trodAll_nil r0
  obtain rfl : args = #[v0] := by cases args; simp_all
  obtain ⟨rfl, rfl⟩ := trodVars_none hV
  have k0 := h0
  have lt0 : ∀ x ∈ p0, x.block < W.heap.size := by obtain ⟨m, hm⟩ := k0; exact DataW.trod_lt m _ _ _ hm
  obtain ⟨a0, rfl, rfl, rfl, w00⟩ := open_float Try.underlying23 (hval 0 23 v0 rfl rfl) h0
  have w0 : a0 < 4294967296 := by simpa [Lit.wf] using w00
  clear hA0 hval0
  refine (walk a0 W w0).mono fun e W' ⟨he, bel⟩ => ?_
  subst he
  exact ⟨_, rfl, _, _, _, [], _, [], hW', trodAll_mk1 (shut_bool Try.underlying4 _), (trodAll_cons_mk (Below.trod laidOut (by kernel_rfl) (of_decide_eq_true (by kernel_rfl)) k0 bel lt0) trodAll_mk0), rfl, bel.frame _, fun h => by cases h⟩

theorem over : Rows.fnExactSineTurnsRow.holds Try.pinned (OpenSpec.ofChange Rows.fnExactSineTurnsSpec) :=
  OpenClaim.holds_of_wide 8 Try.f8 rfl rfl rfl rfl rfl rfl rfl ⟨rfl, rfl, rfl, rfl, rfl⟩ rfl rfl rfl rfl rfl (by kernel_rfl) Try.func8 (by kernel_rfl)
    (of_decide_eq_true (by kernel_rfl)) (by unfold Func.isWrapper; first | (rw [if_pos (by decide +kernel)]; kernel_rfl) | (rw [if_neg (by decide +kernel)]; exact ⟨rfl, rfl⟩))
    (fun os started H enc _ => lifted os started H enc)

/-- the statement -/
theorem proved : Rows.FnExactSineTurnsSaid := over
end Go.Proofs.Ytcjkelnhikhbhaa.FnExactSineTurns
