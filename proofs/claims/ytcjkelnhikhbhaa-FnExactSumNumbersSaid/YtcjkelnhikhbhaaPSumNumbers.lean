/- FnExactSumNumbers: for every list of float32 the law returns true: program and reference add its numbers from left to right, where there are few, and leave the list alone. -/
import Derived.Test.YtcjkelnhikhbhaaSum
namespace Go.Proofs.Ytcjkelnhikhbhaa.FnExactSumNumbers
open Go.ChangeShapes Go.WideShapes Go.ChangeAt Go.RowKit Go.Deep Flt

set_option maxHeartbeats 1000000 in
theorem walk (a : Option Addr) (n c : Nat) (w : World) (h : n ≤ maxLen ∧ ∃ X, RowF w a X n ∧ Lt32 X n) :
    Calls Try.prog 4 #[.slice a n c] w fun e w' => e = .returned (.bool true) ∧ Below w.heap.size w w' := by
  obtain ⟨hm, X, hr, _⟩ := h
  unfold maxLen at hm
  by_cases hn : (n : Int) > 1048576
  · go_enter Try.func4, Try.ntmps4
    go_wp2
    go_ret
    exact ⟨rfl, Below.refl _ _⟩
  have hn' : n ≤ 1048576 := by omega
  go_enter Try.func4, Try.ntmps4
  go_wp2_with fail
  refine (toF32_any a X n c _ hr hn').mono ?_
  rintro e w1 ⟨rfl, r1, b1⟩
  have R1 := Lib.hid r1
  have B1 := Lib.hid b1
  have F1 := F32s.of_row r1
  have P1 := hr.below b1
  clear r1 b1 hr
  go_wp2_with fail
  refine (sumS _ X n n _ F1 hn').mono ?_
  rintro e w2 ⟨r, rfl, hc, hd⟩
  have HC := Lib.hid hc
  have P2 := P1.below hd.below
  have B2 := Lib.hid (B1.out.trans (hd.below.mono B1.out.size))
  clear hc hd P1
  go_wp2_with fail
  refine (toF32_any a X n c _ P2 hn').mono ?_
  rintro e w3 ⟨rfl, r3, b3⟩
  have F3 := F32s.of_row r3
  have P3 := P2.below b3
  have B3 := Lib.hid (B2.out.trans (b3.mono B2.out.size))
  clear r3 b3 P2 F1
  go_wp2_with fail
  refine (sumI _ X n n _ F3 hn').mono ?_
  rintro e w4 ⟨q, rfl, hq, hd⟩
  have HQ := Lib.hid hq
  have F4 := F3.below hd.below
  have P4 := P3.below hd.below
  have B4 := Lib.hid (B3.out.trans (hd.below.mono B3.out.size))
  clear hq hd F3 P3
  go_wp2_with (first | (refine wpList_conv rfl _ _ _ rfl .f32 .f64 _ rfl (by decide) (by kernel_rfl) Try.underlying28 (noOver_widen _) ?_; intro τ k))
  refine (sameFloat_same _ _ _ (by rw [cls_rep' (nn_fconv _ _ _ (nn_cls _ _)), cls_rep' (nn_fconv _ _ _ (nn_cls _ _)), HC.out, HQ.out])).mono ?_
  rintro e w5 ⟨k, rfl, rfl⟩
  go_wp2_with fail
  refine (toF32_any a X n c _ (P4.below (below_drewN' _ _)) hn').mono ?_
  rintro e w5 ⟨rfl, r5, b5⟩
  have F5 := F32s.of_row r5
  have F6 := (F4.below (below_drewN' _ _)).below b5
  have B5 := Lib.hid ((B4.out.trans ((below_drewN' _ _).mono B4.out.size)).trans (b5.mono B4.out.size))
  clear r5 b5 F4 P4
  go_wp2_with fail
  refine (eqF32_same _ _ X X n n n _ F6 F5 (fun _ _ => rfl) hn').mono ?_
  rintro e w6 ⟨rfl, hd⟩
  have B6 := Lib.hid (B5.out.trans (hd.below.mono B5.out.size))
  clear hd F5 F6
  go_wp2
  go_ret
  exact ⟨rfl, B6.out⟩

set_option maxRecDepth 100000 in
theorem lifted (os : Os) (started : os.Started) (H : Type) (enc : TypeId × Value → H) :
    ReturnsInHanded {} Try.checked os 4 .any (Rows.fnExactSumNumbersSpec.pre6 enc Try.prog Try.f4 Rows.fnExactSumNumbersRow.domain false) (Rows.fnExactSumNumbersSpec.post enc Try.prog Try.f4 false true false false) := by
  refine returnsInHanded_of_change (C := Try.checked) own started (by kernel_rfl) Try.func4
    (ChangeSpec.witness6 (enc := enc) (C := Try.checked) false ⟨#[], #[.slice none 0 0], []⟩ 8 (by kernel_rfl) (by kernel_rfl) (by kernel_rfl) (by kernel_rfl)) ?_
  intro W base args ds gs before hval0 hW hcnd _
  have hval : ∀ (j : Nat) t v, Try.f4.params[j]? = some t → args[j]? = some v → Value.okWide Try.prog W .any base t v := hval0
  have hW' := hW
  obtain ⟨p, q, hA0, hV, rfl, hfz, hnd⟩ := hW
  have hA : DataW.TrodAll enc Try.prog W 0 (fun _ => true) true Try.f4.params.toList args.toList ds p := hA0
  rw [Try.params4] at hA hval
  obtain ⟨v0, vs0, d0, ds0, p0, q0, hargs, rfl, rfl, h0, r0⟩ := trodAll_cons hA
  obtain ⟨rfl, rfl, rfl⟩ := trodAll_nil r0
  obtain rfl : args = #[v0] := by cases args; simp_all
  obtain ⟨rfl, rfl⟩ := trodVars_none hV
  have k0 := h0
  have lt0 : ∀ x ∈ p0, x.block < W.heap.size := by obtain ⟨m, hm⟩ := k0; exact DataW.trod_lt m _ _ _ hm
  obtain ⟨a0, n0, c0, rfl⟩ := okWide_slice Try.underlying22 (hval 0 22 v0 rfl rfl)
  have w0 := slice_opened23 h0
  clear hA0 hval0
  refine (walk a0 n0 c0 W w0).mono fun e W' ⟨he, bel⟩ => ?_
  subst he
  exact ⟨_, rfl, _, _, _, [], _, [], hW', trodAll_mk1 (shut_bool Try.underlying4 _), (trodAll_cons_mk (Below.trod laidOut (by kernel_rfl) (of_decide_eq_true (by kernel_rfl)) k0 bel lt0) trodAll_mk0), rfl, bel.frame _, fun h => by cases h⟩

theorem over : Rows.fnExactSumNumbersRow.holds Try.pinned (OpenSpec.ofChange Rows.fnExactSumNumbersSpec) :=
  OpenClaim.holds_of_wide 4 Try.f4 rfl rfl rfl rfl rfl rfl rfl ⟨rfl, rfl, rfl, rfl, rfl⟩ rfl rfl rfl rfl rfl (by kernel_rfl) Try.func4 (by kernel_rfl)
    (of_decide_eq_true (by kernel_rfl)) (by unfold Func.isWrapper; first | (rw [if_pos (by decide +kernel)]; kernel_rfl) | (rw [if_neg (by decide +kernel)]; exact ⟨rfl, rfl⟩))
    (fun os started H enc _ => lifted os started H enc)

/-- the statement -/
theorem proved : Rows.FnExactSumNumbersSaid := over
end Go.Proofs.Ytcjkelnhikhbhaa.FnExactSumNumbers
