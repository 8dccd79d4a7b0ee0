/- FnExactTimeOfTest: for every list of lives the law returns true: program and reference tell the same sum of times, and leave the list alone. -/
import Derived.Test.YtceckapldohkdaaTot
namespace Go.Proofs.Ytceckapldohkdaa.FnExactTimeOfTest
open Go.ChangeShapes Go.WideShapes Go.ChangeAt Go.RowKit Go.Deep Flt

set_option maxHeartbeats 1000000 in
theorem walk (a : Option Addr) (n c : Nat) (w : World) (h : n ≤ maxLen ∧ ∃ X F, RowL w a X F n ∧ Lt32 X n) :
    Calls Try.prog 6 #[.slice a n c] w fun e w' => e = .returned (.bool true) ∧ Below w.heap.size w w' := by
  obtain ⟨hm, X, F, hr, _⟩ := h
  unfold maxLen at hm
  by_cases hn : (n : Int) ≤ 1048576
  · have hn' : n ≤ 1048576 := by omega
    have hd : (0 : Int) ≤ 1048576 - (n : Int) := by omega
    go_enter Try.func6, Try.ntmps6
    go_wp2_with fail
    refine (szLifeS_yes a n c 1048576 _ (by omega) (by omega) hn).mono ?_
    rintro e w1 ⟨rfl, rfl⟩
    go_wp2_with fail
    refine (toLifeS_any a X F n c _ hr hn').mono ?_
    rintro e w1 ⟨rfl, r1, b1⟩
    have R1 := Lib.hid r1
    have B1 := Lib.hid b1
    have P1 := hr.below b1
    clear r1 b1 hr
    go_wp2_with fail
    refine (timeS _ n n X F _ R1.out hn').mono ?_
    rintro e w2 ⟨r, rfl, hr, hd2⟩
    have HR := Lib.hid hr
    clear hr
    have P2 := P1.below hd2
    have B2 := Lib.hid (B1.out.trans (hd2.mono B1.out.size))
    clear hd2 P1
    go_wp2_with fail
    refine (toLifeS_any a X F n c _ P2 hn').mono ?_
    rintro e w3 ⟨rfl, r3, b3⟩
    have R3 := Lib.hid r3
    have P3 := P2.below b3
    have B3 := Lib.hid (B2.out.trans (b3.mono B2.out.size))
    clear r3 b3 P2
    go_wp2_with fail
    refine (timeI _ n n X F _ R3.out hn').mono ?_
    rintro e w4 ⟨q, rfl, hq, b4⟩
    have HQ := Lib.hid hq
    clear hq
    have R4 := Lib.hid (R3.out.below b4)
    have P4 := P3.below b4
    have B4 := Lib.hid (B3.out.trans (b4.mono B3.out.size))
    clear b4 P3
    go_wp2_with (first | (refine wpList_conv rfl _ _ _ rfl .f32 .f64 _ rfl (by decide) (by kernel_rfl) Try.underlying36 (noOver_widen _) ?_; intro τ k))
    refine (sameFloat_same _ _ _ (by rw [cls_rep' (nn_fconv _ _ _ (nn_cls _ _)), cls_rep' (nn_fconv _ _ _ (nn_cls _ _)), HR.out, HQ.out])).mono ?_
    rintro e w5 ⟨k, rfl, rfl⟩
    go_wp2_with fail
    refine (toLifeS_any a X F n c _ (P4.below (below_drewN' _ _)) hn').mono ?_
    rintro e w5 ⟨rfl, r5, b5⟩
    have R5 := Lib.hid r5
    have R6 := Lib.hid ((R4.out.below (below_drewN' _ _)).below b5)
    have B5 := Lib.hid ((B4.out.trans ((below_drewN' _ _).mono B4.out.size)).trans (b5.mono B4.out.size))
    clear r5 b5 P4
    go_wp2_with fail
    refine (eqLifeS_same _ _ X X F n n n _ R6.out R5.out (fun _ _ => rfl) hn').mono ?_
    rintro e w6 ⟨rfl, b6⟩
    have B6 := Lib.hid (B5.out.trans (b6.mono B5.out.size))
    clear b6
    go_wp2
    go_ret
    exact ⟨rfl, B6.out⟩
  · go_enter Try.func6, Try.ntmps6
    go_wp2_with fail
    refine (szLifeS_no a n c 1048576 _ hm (by omega) (by omega) (by omega)).mono ?_
    rintro e w1 ⟨rfl, rfl⟩
    go_wp2
    go_ret
    exact ⟨rfl, Below.refl _ _⟩

set_option maxRecDepth 100000 in
theorem lifted (os : Os) (started : os.Started) (H : Type) (enc : TypeId × Value → H) :
    ReturnsInHanded {} Try.checked os 6 .any (Rows.fnExactTimeOfTestSpec.pre6 enc Try.prog Try.f6 Rows.fnExactTimeOfTestRow.domain false) (Rows.fnExactTimeOfTestSpec.post enc Try.prog Try.f6 false true false false) := by
  refine returnsInHanded_of_change (C := Try.checked) own started (by kernel_rfl) Try.func6
    (ChangeSpec.witness6 (enc := enc) (C := Try.checked) false ⟨#[], #[.slice none 0 0], []⟩ 8 (by kernel_rfl) (by kernel_rfl) (by kernel_rfl) (by kernel_rfl)) ?_
  intro W base args ds gs before hval0 hW hcnd _
  have hval : ∀ (j : Nat) t v, Try.f6.params[j]? = some t → args[j]? = some v → Value.okWide Try.prog W .any base t v := hval0
  have hW' := hW
  obtain ⟨p, q, hA0, hV, rfl, hfz, hnd⟩ := hW
  have hA : DataW.TrodAll enc Try.prog W 0 (fun _ => true) true Try.f6.params.toList args.toList ds p := hA0
  rw [Try.params6] at hA hval
  obtain ⟨v0, vs0, d0, ds0, p0, q0, hargs, rfl, rfl, h0, r0⟩ := trodAll_cons hA
  obtain ⟨rfl, rfl, rfl⟩ := trodAll_nil r0
  obtain rfl : args = #[v0] := by cases args; simp_all
  obtain ⟨rfl, rfl⟩ := trodVars_none hV
  have k0 := h0
  have lt0 : ∀ x ∈ p0, x.block < W.heap.size := by obtain ⟨m, hm⟩ := k0; exact DataW.trod_lt m _ _ _ hm
  obtain ⟨a0, n0, c0, rfl⟩ := okWide_slice Try.underlying22 (hval 0 22 v0 rfl rfl)
  have w0 := slice_opened59 h0
  clear hA0 hval0
  refine (walk a0 n0 c0 W w0).mono fun e W' ⟨he, bel⟩ => ?_
  subst he
  exact ⟨_, rfl, _, _, _, [], _, [], hW', trodAll_mk1 (shut_bool Try.underlying4 _), (trodAll_cons_mk (Below.trod laidOut (by kernel_rfl) (of_decide_eq_true (by kernel_rfl)) k0 bel lt0) trodAll_mk0), rfl, bel.frame _, fun h => by cases h⟩

theorem over : Rows.fnExactTimeOfTestRow.holds Try.pinned (OpenSpec.ofChange Rows.fnExactTimeOfTestSpec) :=
  OpenClaim.holds_of_wide 6 Try.f6 rfl rfl rfl rfl rfl rfl rfl ⟨rfl, rfl, rfl, rfl, rfl⟩ rfl rfl rfl rfl rfl (by kernel_rfl) Try.func6 (by kernel_rfl)
    (of_decide_eq_true (by kernel_rfl)) (by unfold Func.isWrapper; first | (rw [if_pos (by decide +kernel)]; kernel_rfl) | (rw [if_neg (by decide +kernel)]; exact ⟨rfl, rfl⟩))
    (fun os started H enc _ => lifted os started H enc)

/-- the statement -/
theorem proved : Rows.FnExactTimeOfTestSaid := over
end Go.Proofs.Ytceckapldohkdaa.FnExactTimeOfTest
