/- FnExactDotNumbers: for every two lists of float32 the law returns true: program and reference add the products from left to right, where there are few and as many of both, and leave the lists alone. -/
import Derived.Test.YtcjkelnhikhbhaaDot
namespace Go.Proofs.Ytcjkelnhikhbhaa.FnExactDotNumbers
open Go.ChangeShapes Go.WideShapes Go.ChangeAt Go.RowKit Go.Deep Flt

set_option maxHeartbeats 1000000 in
theorem walk (a : Option Addr) (n c : Nat) (a' : Option Addr) (n' c' : Nat) (w : World) (h : n ≤ maxLen ∧ ∃ X, RowF w a X n ∧ Lt32 X n) (h' : n' ≤ maxLen ∧ ∃ X, RowF w a' X n' ∧ Lt32 X n') :
    Calls Try.prog 3 #[.slice a n c, .slice a' n' c'] w fun e w' => e = .returned (.bool true) ∧ Below w.heap.size w w' := by
  obtain ⟨hm, X, hr, _⟩ := h
  obtain ⟨hm', Y, hr', _⟩ := h'
  unfold maxLen at hm hm'
  by_cases hn : (n : Int) > 1048576
  · go_enter Try.func3, Try.ntmps3
    go_wp2
    go_ret
    exact ⟨rfl, Below.refl _ _⟩
  have hnn : n ≤ 1048576 := by omega
  by_cases hk : (n' : Int) > 1048576
  · go_enter Try.func3, Try.ntmps3
    go_wp2
    go_ret
    exact ⟨rfl, Below.refl _ _⟩
  have hkk : n' ≤ 1048576 := by omega
  go_enter Try.func3, Try.ntmps3
  go_wp2_with fail
  refine (toF32_any a X n c _ hr hnn).mono ?_
  rintro e w1 ⟨rfl, r1, b1⟩
  have B1 := Lib.hid b1
  have F1 := F32s.of_row r1
  have P1 := hr.below b1
  have Q1 := hr'.below b1
  clear r1 b1 hr hr'
  go_wp2_with fail
  refine (toF32_any a' Y n' c' _ Q1 hkk).mono ?_
  rintro e w2 ⟨rfl, r2, b2⟩
  have B2 := Lib.hid (B1.out.trans (b2.mono B1.out.size))
  have F2 := F1.below b2
  have G2 := F32s.of_row r2
  have P2 := P1.below b2
  have Q2 := Q1.below b2
  clear r2 b2 P1 Q1 F1
  go_wp2_with fail
  refine (dotS _ _ X Y n n' n n' _ F2 G2 hnn hkk).mono ?_
  rintro e w3 ⟨r, rfl, hc, hd⟩
  have HC := Lib.hid hc
  have P3 := P2.below hd.below
  have Q3 := Q2.below hd.below
  have B3 := Lib.hid (B2.out.trans (hd.below.mono B2.out.size))
  clear hc hd P2 Q2 F2 G2
  go_wp2_with fail
  refine (toF32_any a X n c _ P3 hnn).mono ?_
  rintro e w4 ⟨rfl, r4, b4⟩
  have F4 := F32s.of_row r4
  have P4 := P3.below b4
  have Q4 := Q3.below b4
  have B4 := Lib.hid (B3.out.trans (b4.mono B3.out.size))
  clear r4 b4 P3 Q3
  go_wp2_with fail
  refine (toF32_any a' Y n' c' _ Q4 hkk).mono ?_
  rintro e w5 ⟨rfl, r5, b5⟩
  have F5 := F4.below b5
  have G5 := F32s.of_row r5
  have P5 := P4.below b5
  have Q5 := Q4.below b5
  have B5 := Lib.hid (B4.out.trans (b5.mono B4.out.size))
  clear r5 b5 P4 Q4 F4
  go_wp2_with fail
  refine (dotI _ _ X Y n n' n n' _ F5 G5 hnn hkk).mono ?_
  rintro e w6 ⟨q, rfl, hq, hd⟩
  have HQ := Lib.hid hq
  have F6 := F5.below hd.below
  have G6 := G5.below hd.below
  have P6 := P5.below hd.below
  have Q6 := Q5.below hd.below
  have B6 := Lib.hid (B5.out.trans (hd.below.mono B5.out.size))
  clear hq hd F5 G5 P5 Q5
  go_wp2_with (first | (refine wpList_conv rfl _ _ _ rfl .f32 .f64 _ rfl (by decide) (by kernel_rfl) Try.underlying28 (noOver_widen _) ?_; intro τ k))
  refine (sameFloat_same _ _ _ (by rw [cls_rep' (nn_fconv _ _ _ (nn_cls _ _)), cls_rep' (nn_fconv _ _ _ (nn_cls _ _)), HC.out, HQ.out])).mono ?_
  rintro e w7 ⟨k, rfl, rfl⟩
  go_wp2_with fail
  refine (toF32_any a X n c _ (P6.below (below_drewN' _ _)) hnn).mono ?_
  rintro e w8 ⟨rfl, r8, b8⟩
  have H8 := F32s.of_row r8
  have F8 := (F6.below (below_drewN' _ _)).below b8
  have G8 := (G6.below (below_drewN' _ _)).below b8
  have Q8 := (Q6.below (below_drewN' _ _)).below b8
  have B8 := Lib.hid ((B6.out.trans ((below_drewN' _ _).mono B6.out.size)).trans (b8.mono B6.out.size))
  clear r8 b8 F6 G6 P6 Q6
  go_wp2_with fail
  refine (eqF32_same _ _ X X n n n _ F8 H8 (fun _ _ => rfl) hnn).mono ?_
  rintro e w9 ⟨rfl, hd⟩
  have G9 := G8.below hd.below
  have Q9 := Q8.below hd.below
  have B9 := Lib.hid (B8.out.trans (hd.below.mono B8.out.size))
  clear hd F8 H8 G8 Q8
  go_wp2_with fail
  refine (toF32_any a' Y n' c' _ Q9 hkk).mono ?_
  rintro e w10 ⟨rfl, r10, b10⟩
  have H10 := F32s.of_row r10
  have G10 := G9.below b10
  have B10 := Lib.hid (B9.out.trans (b10.mono B9.out.size))
  clear r10 b10 G9 Q9
  go_wp2_with fail
  refine (eqF32_same _ _ Y Y n' n' n' _ G10 H10 (fun _ _ => rfl) hkk).mono ?_
  rintro e w11 ⟨rfl, hd⟩
  have B11 := Lib.hid (B10.out.trans (hd.below.mono B10.out.size))
  clear hd G10 H10
  go_wp2
  go_ret
  exact ⟨rfl, B11.out⟩

set_option maxRecDepth 100000 in
theorem lifted (os : Os) (started : os.Started) (H : Type) (enc : TypeId × Value → H) :
    ReturnsInHanded {} Try.checked os 3 .any (Rows.fnExactDotNumbersSpec.pre6 enc Try.prog Try.f3 Rows.fnExactDotNumbersRow.domain false) (Rows.fnExactDotNumbersSpec.post enc Try.prog Try.f3 false true false false) := by
  refine returnsInHanded_of_change (C := Try.checked) own started (by kernel_rfl) Try.func3
    (ChangeSpec.witness6 (enc := enc) (C := Try.checked) false ⟨#[], #[.slice none 0 0, .slice none 0 0], []⟩ 8 (by kernel_rfl) (by kernel_rfl) (by kernel_rfl) (by kernel_rfl)) ?_
  intro W base args ds gs before hval0 hW hcnd _
  have hval : ∀ (j : Nat) t v, Try.f3.params[j]? = some t → args[j]? = some v → Value.okWide Try.prog W .any base t v := hval0
  have hW' := hW
  obtain ⟨p, q, hA0, hV, rfl, hfz, hnd⟩ := hW
  have hA : DataW.TrodAll enc Try.prog W 0 (fun _ => true) true Try.f3.params.toList args.toList ds p := hA0
  rw [Try.params3] at hA hval
  obtain ⟨v0, vs0, d0, ds0, p0, q0, hargs, rfl, rfl, h0, r0⟩ := trodAll_cons hA
  obtain ⟨v1, vs1, d1, ds1, p1, q1, rfl, rfl, rfl, h1, r1⟩ := trodAll_cons r0
  obtain ⟨rfl, rfl, rfl⟩ := trodAll_nil r1
  obtain rfl : args = #[v0, v1] := by cases args; simp_all
  obtain ⟨rfl, rfl⟩ := trodVars_none hV
  have k0 := h0
  have lt0 : ∀ x ∈ p0, x.block < W.heap.size := by obtain ⟨m, hm⟩ := k0; exact DataW.trod_lt m _ _ _ hm
  obtain ⟨a0, n0, c0, rfl⟩ := okWide_slice Try.underlying22 (hval 0 22 v0 rfl rfl)
  have w0 := slice_opened23 h0
  have k1 := h1
  have lt1 : ∀ x ∈ p1, x.block < W.heap.size := by obtain ⟨m, hm⟩ := k1; exact DataW.trod_lt m _ _ _ hm
  obtain ⟨a1, n1, c1, rfl⟩ := okWide_slice Try.underlying22 (hval 1 22 v1 rfl rfl)
  have w1 := slice_opened23 h1
  clear hA0 hval0
  refine (walk a0 n0 c0 a1 n1 c1 W w0 w1).mono fun e W' ⟨he, bel⟩ => ?_
  subst he
  exact ⟨_, rfl, _, _, _, [], _, [], hW', trodAll_mk1 (shut_bool Try.underlying4 _), (trodAll_cons_mk (Below.trod laidOut (by kernel_rfl) (of_decide_eq_true (by kernel_rfl)) k0 bel lt0) (trodAll_cons_mk (Below.trod laidOut (by kernel_rfl) (of_decide_eq_true (by kernel_rfl)) k1 bel lt1) trodAll_mk0)), rfl, bel.frame _, fun h => by cases h⟩

theorem over : Rows.fnExactDotNumbersRow.holds Try.pinned (OpenSpec.ofChange Rows.fnExactDotNumbersSpec) :=
  OpenClaim.holds_of_wide 3 Try.f3 rfl rfl rfl rfl rfl rfl rfl ⟨rfl, rfl, rfl, rfl, rfl⟩ rfl rfl rfl rfl rfl (by kernel_rfl) Try.func3 (by kernel_rfl)
    (of_decide_eq_true (by kernel_rfl)) (by unfold Func.isWrapper; first | (rw [if_pos (by decide +kernel)]; kernel_rfl) | (rw [if_neg (by decide +kernel)]; exact ⟨rfl, rfl⟩))
    (fun os started H enc _ => lifted os started H enc)

/-- the statement -/
theorem proved : Rows.FnExactDotNumbersSaid := over
end Go.Proofs.Ytcjkelnhikhbhaa.FnExactDotNumbers
