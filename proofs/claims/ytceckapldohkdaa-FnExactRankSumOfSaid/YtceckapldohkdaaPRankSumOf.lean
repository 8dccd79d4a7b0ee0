/- FnExactRankSumOf: for every two lists of lives the law returns true: program and reference tell the same sum of ranks, and leave the lists alone. -/
import Derived.Test.YtceckapldohkdaaRsoI
namespace Go.Proofs.Ytceckapldohkdaa.FnExactRankSumOf
open Go.ChangeShapes Go.WideShapes Go.ChangeAt Go.RowKit Go.Deep Flt

set_option maxHeartbeats 2000000 in
theorem walk (a : Option Addr) (n c : Nat) (b : Option Addr) (m d : Nat) (w : World) (h0 : n ≤ maxLen ∧ ∃ X F, RowL w a X F n ∧ Lt32 X n) (h1 : m ≤ maxLen ∧ ∃ X F, RowL w b X F m ∧ Lt32 X m) :
    Calls Try.prog 7 #[.slice a n c, .slice b m d] w fun e w' => e = .returned (.bool true) ∧ Below w.heap.size w w' := by
  obtain ⟨hm, X, F, PA0, lx⟩ := h0
  obtain ⟨hm1, Y, G, PB0, ly⟩ := h1
  unfold maxLen at hm hm1
  by_cases hn : (n : Int) ≤ 1048576
  case neg =>
    go_enter Try.func7, Try.ntmps7
    go_wp2_with fail
    refine (szLifeS_no a n c 1048576 _ hm (by omega) (by omega) (by omega)).mono ?_
    rintro e w1 ⟨rfl, rfl⟩
    go_wp2
    go_ret
    exact ⟨rfl, Below.refl _ _⟩
  have hd : (0 : Int) ≤ 1048576 - (n : Int) := by omega
  by_cases hmn : (m : Int) ≤ 1048576 - (n : Int)
  case neg =>
    go_enter Try.func7, Try.ntmps7
    go_wp2_with fail
    refine (szLifeS_yes a n c 1048576 _ (by omega) (by omega) hn).mono ?_
    rintro e w1 ⟨rfl, rfl⟩
    go_wp2_with fail
    refine (szLifeS_no b m d (1048576 - (n : Int)) _ hm1 hd (by omega) (by omega)).mono ?_
    rintro e w1 ⟨rfl, rfl⟩
    go_wp2
    go_ret
    exact ⟨rfl, Below.refl _ _⟩
  have hn' : n ≤ 1048576 := by omega
  have hm' : m ≤ 1048576 := by omega
  have hd2 : (0 : Int) ≤ 1048576 - (n : Int) - (m : Int) := by omega
  go_enter Try.func7, Try.ntmps7
  go_wp2_with fail
  refine (szLifeS_yes a n c 1048576 _ (by omega) (by omega) hn).mono ?_
  rintro e w1 ⟨rfl, rfl⟩
  go_wp2_with fail
  refine (szLifeS_yes b m d (1048576 - (n : Int)) _ hd (by omega) hmn).mono ?_
  rintro e w1 ⟨rfl, rfl⟩


  go_wp2_with fail
  refine (toLifeS_any a X F n c _ PA0 hn').mono ?_
  rintro e w1 ⟨rfl, r1, b1⟩
  have RA := Lib.hid r1
  clear r1
  have PA1 := PA0.below b1
  have PB1 := PB0.below b1
  have B1 := Lib.hid b1
  clear b1 PA0 PB0
  go_wp2_with fail
  refine (toLifeS_any b Y G m d _ PB1 hm').mono ?_
  rintro e w2 ⟨rfl, r2, b2⟩
  have RB := Lib.hid r2
  clear r2
  have RA := Lib.hid (RA.out.below b2)
  have PA2 := PA1.below b2
  have PB2 := PB1.below b2
  have B2 := Lib.hid (B1.out.trans (b2.mono B1.out.size))
  clear b2 PA1 PB1
  go_wp2_with fail
  refine (rsoS _ n n _ m m X F Y G _ RA.out RB.out hn' hm').mono ?_
  rintro e w3 ⟨rfl, b3⟩
  have RA := Lib.hid (RA.out.below b3)
  have RB := Lib.hid (RB.out.below b3)
  have PA3 := PA2.below b3
  have PB3 := PB2.below b3
  have B3 := Lib.hid (B2.out.trans (b3.mono B2.out.size))
  clear b3 PA2 PB2
  go_wp2_with fail
  refine (toLifeS_any a X F n c _ PA3 hn').mono ?_
  rintro e w4 ⟨rfl, r4, b4⟩
  have RA := Lib.hid r4
  clear r4
  have PA4 := PA3.below b4
  have PB4 := PB3.below b4
  have B4 := Lib.hid (B3.out.trans (b4.mono B3.out.size))
  clear b4 PA3 PB3
  go_wp2_with fail
  refine (toLifeS_any b Y G m d _ PB4 hm').mono ?_
  rintro e w5 ⟨rfl, r5, b5⟩
  have RB := Lib.hid r5
  clear r5
  have RA := Lib.hid (RA.out.below b5)
  have PA5 := PA4.below b5
  have PB5 := PB4.below b5
  have B5 := Lib.hid (B4.out.trans (b5.mono B4.out.size))
  clear b5 PA4 PB4
  go_wp2_with fail
  refine (rsoI _ n n _ m m X F Y G _ RA.out RB.out hn' hm').mono ?_
  rintro e w6 ⟨rfl, b6⟩
  have RA := Lib.hid (RA.out.below b6)
  have RB := Lib.hid (RB.out.below b6)
  have PA6 := PA5.below b6
  have PB6 := PB5.below b6
  have B6 := Lib.hid (B5.out.trans (b6.mono B5.out.size))
  clear b6 PA5 PB5
  go_wp2_with fail
  refine (toLifeS_any a X F n c _ PA6 hn').mono ?_
  rintro e w7 ⟨rfl, r7, b7⟩
  have RC := Lib.hid r7
  clear r7
  have RA := Lib.hid (RA.out.below b7)
  have RB := Lib.hid (RB.out.below b7)
  have PA7 := PA6.below b7
  have PB7 := PB6.below b7
  have B7 := Lib.hid (B6.out.trans (b7.mono B6.out.size))
  clear b7 PA6 PB6
  go_wp2_with fail
  refine (eqLifeS_same _ _ X X F n n n _ RA.out RC.out (fun _ _ => rfl) hn').mono ?_
  rintro e w8 ⟨rfl, b8⟩
  have RA := Lib.hid (RA.out.below b8)
  have RB := Lib.hid (RB.out.below b8)
  have RC := Lib.hid (RC.out.below b8)
  have PA8 := PA7.below b8
  have PB8 := PB7.below b8
  have B8 := Lib.hid (B7.out.trans (b8.mono B7.out.size))
  clear b8 PA7 PB7
  go_wp2_with fail
  refine (toLifeS_any b Y G m d _ PB8 hm').mono ?_
  rintro e w9 ⟨rfl, r9, b9⟩
  have RD := Lib.hid r9
  clear r9
  have RB := Lib.hid (RB.out.below b9)
  have PA9 := PA8.below b9
  have PB9 := PB8.below b9
  have B9 := Lib.hid (B8.out.trans (b9.mono B8.out.size))
  clear b9 PA8 PB8
  go_wp2_with fail
  refine (eqLifeS_same _ _ Y Y G m m m _ RB.out RD.out (fun _ _ => rfl) hm').mono ?_
  rintro e w10 ⟨rfl, b10⟩
  have RB := Lib.hid (RB.out.below b10)
  have RD := Lib.hid (RD.out.below b10)
  have PA10 := PA9.below b10
  have PB10 := PB9.below b10
  have B10 := Lib.hid (B9.out.trans (b10.mono B9.out.size))
  clear b10 PA9 PB9
  go_wp2
  go_ret
  exact ⟨rfl, B10.out⟩

set_option maxRecDepth 100000 in
theorem lifted (os : Os) (started : os.Started) (H : Type) (enc : TypeId × Value → H) :
    ReturnsInHanded {} Try.checked os 7 .any (Rows.fnExactRankSumOfSpec.pre6 enc Try.prog Try.f7 Rows.fnExactRankSumOfRow.domain false) (Rows.fnExactRankSumOfSpec.post enc Try.prog Try.f7 false true false false) := by
  refine returnsInHanded_of_change (C := Try.checked) own started (by kernel_rfl) Try.func7
    (ChangeSpec.witness6 (enc := enc) (C := Try.checked) false ⟨#[], #[.slice none 0 0, .slice none 0 0], []⟩ 8 (by kernel_rfl) (by kernel_rfl) (by kernel_rfl) (by kernel_rfl)) ?_
  intro W base args ds gs before hval0 hW hcnd _
  have hval : ∀ (j : Nat) t v, Try.f7.params[j]? = some t → args[j]? = some v → Value.okWide Try.prog W .any base t v := hval0
  have hW' := hW
  obtain ⟨p, q, hA0, hV, rfl, hfz, hnd⟩ := hW
  have hA : DataW.TrodAll enc Try.prog W 0 (fun _ => true) true Try.f7.params.toList args.toList ds p := hA0
  rw [Try.params7] at hA hval
  obtain ⟨v0, vs0, d0, ds0, p0, q0, hargs, rfl, rfl, h0, r0⟩ := trodAll_cons hA
  obtain ⟨v1, vs1, d1, ds1, p1, q1, rfl, rfl, rfl, h1, r1⟩ := trodAll_cons r0
  obtain ⟨rfl, rfl, rfl⟩ := trodAll_nil r1
  obtain rfl : args = #[v0, v1] := by cases args; simp_all
  obtain ⟨rfl, rfl⟩ := trodVars_none hV
  have k0 := h0
  have lt0 : ∀ x ∈ p0, x.block < W.heap.size := by obtain ⟨m, hm⟩ := k0; exact DataW.trod_lt m _ _ _ hm
  obtain ⟨a0, n0, c0, rfl⟩ := okWide_slice Try.underlying22 (hval 0 22 v0 rfl rfl)
  have w0 := slice_opened59 h0
  have k1 := h1
  have lt1 : ∀ x ∈ p1, x.block < W.heap.size := by obtain ⟨m, hm⟩ := k1; exact DataW.trod_lt m _ _ _ hm
  obtain ⟨a1, n1, c1, rfl⟩ := okWide_slice Try.underlying22 (hval 1 22 v1 rfl rfl)
  have w1 := slice_opened59 h1
  clear hA0 hval0
  refine (walk a0 n0 c0 a1 n1 c1 W w0 w1).mono fun e W' ⟨he, bel⟩ => ?_
  subst he
  exact ⟨_, rfl, _, _, _, [], _, [], hW', trodAll_mk1 (shut_bool Try.underlying4 _), (trodAll_cons_mk (Below.trod laidOut (by kernel_rfl) (of_decide_eq_true (by kernel_rfl)) k0 bel lt0) (trodAll_cons_mk (Below.trod laidOut (by kernel_rfl) (of_decide_eq_true (by kernel_rfl)) k1 bel lt1) trodAll_mk0)), rfl, bel.frame _, fun h => by cases h⟩

theorem over : Rows.fnExactRankSumOfRow.holds Try.pinned (OpenSpec.ofChange Rows.fnExactRankSumOfSpec) :=
  OpenClaim.holds_of_wide 7 Try.f7 rfl rfl rfl rfl rfl rfl rfl ⟨rfl, rfl, rfl, rfl, rfl⟩ rfl rfl rfl rfl rfl (by kernel_rfl) Try.func7 (by kernel_rfl)
    (of_decide_eq_true (by kernel_rfl)) (by unfold Func.isWrapper; first | (rw [if_pos (by decide +kernel)]; kernel_rfl) | (rw [if_neg (by decide +kernel)]; exact ⟨rfl, rfl⟩))
    (fun os started H enc _ => lifted os started H enc)

/-- the statement -/
theorem proved : Rows.FnExactRankSumOfSaid := over
end Go.Proofs.Ytceckapldohkdaa.FnExactRankSumOf
