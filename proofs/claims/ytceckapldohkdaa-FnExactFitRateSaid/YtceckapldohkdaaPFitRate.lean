/- FnExactFitRate: for every list of lives the law returns true: program and reference give the same law, and leave the list alone. -/
import Derived.Test.YtceckapldohkdaaFit
namespace Go.Proofs.Ytceckapldohkdaa.FnExactFitRate
open Go.ChangeShapes Go.WideShapes Go.ChangeAt Go.RowKit Go.Deep Flt

def Box3 (w : World) (b : Nat) (x y z : Value) : Prop := w.cell? ⟨b, 0, none⟩ = some x ∧ w.cell? ⟨b, 1, none⟩ = some y ∧ w.cell? ⟨b, 2, none⟩ = some z
theorem Box3.below {w w' : World} {b : Nat} {x y z : Value} (h : Box3 w b x y z) (hb : Below w.heap.size w w') : Box3 w' b x y z :=
  ⟨(hb.cell (World.block_lt_of_cell? w _ h.1)).trans h.1, (hb.cell (World.block_lt_of_cell? w _ h.2.1)).trans h.2.1, (hb.cell (World.block_lt_of_cell? w _ h.2.2)).trans h.2.2⟩
theorem Box3.new (w : World) (x y z : Value) (t : TypeId) : Box3 (w.alloc (.cells #[x, y, z] t)) w.heap.size x y z := by
  refine ⟨?_, ?_, ?_⟩ <;> go_simp
theorem alloc_below (w : World) (o : Obj) : Below w.heap.size w (w.alloc o) := (Below.refl _ _).alloc (Nat.le_refl _) _

set_option maxHeartbeats 2000000 in
theorem walk (a : Option Addr) (n c : Nat) (w : World) (h : n ≤ maxLen ∧ ∃ X F, RowL w a X F n ∧ Lt32 X n) :
    Calls Try.prog 8 #[.slice a n c] w fun e w' => e = .returned (.bool true) ∧ Below w.heap.size w w' := by
  obtain ⟨hm, X, F, hr, _⟩ := h
  unfold maxLen at hm
  by_cases hn : (n : Int) ≤ 1048576
  case neg =>
    go_enter Try.func8, Try.ntmps8
    go_wp2_with fail
    refine (szLifeS_no a n c 1048576 _ hm (by omega) (by omega) (by omega)).mono ?_
    rintro e w1 ⟨rfl, rfl⟩
    go_wp2
    go_ret
    exact ⟨rfl, Below.refl _ _⟩
  have hn' : n ≤ 1048576 := by omega
  have hd : (0 : Int) ≤ 1048576 - (n : Int) := by omega
  go_enter Try.func8, Try.ntmps8
  go_wp2_with fail
  refine (szLifeS_yes a n c 1048576 _ (by omega) (by omega) hn).mono ?_
  rintro e w1 ⟨rfl, rfl⟩
  go_wp2_with fail
  refine (toLifeS_any a X F n c _ hr hn').mono ?_
  rintro e w1 ⟨rfl, r1, b1⟩
  have R1 := Lib.hid r1
  have B1 := Lib.hid b1
  have P1 := hr.below b1
  clear r1 b1 hr
  go_wp2_with fail
  refine (fitSpec _ n n X F _ R1.out hn').mono ?_
  rintro e w2 ⟨⟨s1, q1, rfl, hs1, hq1⟩, b2⟩
  have HS1 := Lib.hid (And.intro hs1 hq1)
  have B2 := Lib.hid (B1.out.trans (b2.mono B1.out.size))
  have P2 := P1.below b2
  clear hs1 hq1 b2 P1
  go_wp2_with fail
  refine (toLifeS_any a X F n c _ (P2.below (alloc_below _ _)) hn').mono ?_
  rintro e w3 ⟨rfl, r3, b3⟩
  have R3 := Lib.hid (show LivesAt w3 (w2.heap.size + 1) 0 X F n by simpa using r3)
  have X3 := Lib.hid ((Box3.new _ _ _ _ _).below b3)
  have P3 := (P2.below (alloc_below _ _)).below b3
  have B3 := Lib.hid ((B2.out.trans ((alloc_below _ _).mono B2.out.size)).trans (b3.mono (by simp; have := B2.out.size; omega)))
  clear r3 b3 P2
  go_wp2_with fail
  refine (fitImpl _ n n X F _ R3.out hn').mono ?_
  rintro e w4 ⟨⟨s2, q2, rfl, hs2, hq2⟩, b4⟩
  have HS2 := Lib.hid (And.intro hs2 hq2)
  have R4 := Lib.hid ((R3.out.below b4).below (alloc_below w4 (.cells #[.int .i64 0, .float .f32 s2, .float .f32 q2] 39)))
  have X4 := (X3.out.below b4).below (alloc_below w4 (.cells #[.int .i64 0, .float .f32 s2, .float .f32 q2] 39))
  have P4 := (P3.below b4).below (alloc_below w4 (.cells #[.int .i64 0, .float .f32 s2, .float .f32 q2] 39))
  have B4 := Lib.hid (B3.out.trans (b4.mono B3.out.size))
  clear hs2 hq2 b4 P3
  obtain ⟨x0, x1, x2⟩ := X4
  go_wp2_with fail
  refine (eqLaw_same 0 _ _ _ _ _ (HS2.out.1.trans HS1.out.1.symm) (HS2.out.2.trans HS1.out.2.symm)).mono ?_
  rintro e w5 ⟨rfl, b5⟩
  have R5 := Lib.hid (R4.out.below b5)
  have P5 := P4.below b5
  have B5 := Lib.hid ((B4.out.trans ((alloc_below _ _).mono B4.out.size)).trans (b5.mono (by simp; have := B4.out.size; omega)))
  clear b5 P4 x0 x1 x2
  go_wp2_with fail
  refine (toLifeS_any a X F n c _ P5 hn').mono ?_
  rintro e w6 ⟨rfl, r6, b6⟩
  have R6 := Lib.hid r6
  have R7 := Lib.hid (R5.out.below b6)
  have B6 := Lib.hid (B5.out.trans (b6.mono B5.out.size))
  clear r6 b6 P5
  go_wp2_with fail
  refine (eqLifeS_same _ _ X X F n n n _ R7.out R6.out (fun _ _ => rfl) hn').mono ?_
  rintro e w7 ⟨rfl, b7⟩
  have B7 := Lib.hid (B6.out.trans (b7.mono B6.out.size))
  clear b7
  go_wp2
  go_ret
  exact ⟨rfl, B7.out⟩

set_option maxRecDepth 100000 in
theorem lifted (os : Os) (started : os.Started) (H : Type) (enc : TypeId × Value → H) :
    ReturnsInHanded {} Try.checked os 8 .any (Rows.fnExactFitRateSpec.pre6 enc Try.prog Try.f8 Rows.fnExactFitRateRow.domain false) (Rows.fnExactFitRateSpec.post enc Try.prog Try.f8 false true false false) := by
  refine returnsInHanded_of_change (C := Try.checked) own started (by kernel_rfl) Try.func8
    (ChangeSpec.witness6 (enc := enc) (C := Try.checked) false ⟨#[], #[.slice none 0 0], []⟩ 8 (by kernel_rfl) (by kernel_rfl) (by kernel_rfl) (by kernel_rfl)) ?_
  intro W base args ds gs before hval0 hW hcnd _
  have hval : ∀ (j : Nat) t v, Try.f8.params[j]? = some t → args[j]? = some v → Value.okWide Try.prog W .any base t v := hval0
  have hW' := hW
  obtain ⟨p, q, hA0, hV, rfl, hfz, hnd⟩ := hW
  have hA : DataW.TrodAll enc Try.prog W 0 (fun _ => true) true Try.f8.params.toList args.toList ds p := hA0
  rw [Try.params8] at hA hval
  obtain ⟨v0, vs0, d0, ds0, p0, q0, hargs, rfl, rfl, h0, r0⟩ := trodAll_cons hA
  obtain ⟨rfl, rfl, rfl⟩ := trodAll_nil r0
  obtain rfl : args = #[v0] := by cases args; simp_all
  obtain ⟨rfl, rfl⟩ := trodVars_none hV
  have k0 := h0
  have lt0 : ∀ x ∈ p0, x.block < W.heap.size := by obtain ⟨m, hm⟩ := k0; exact DataW.trod_lt m _ _ _ hm
  obtain ⟨a0, n0, c0, rfl⟩ := okWide_slice Try.underlying22 (hval 0 22 v0 rfl rfl)
  have w0 := slice_opened59 h0
  clear hA0 hval0
  refine (walk a0 n0 c0 W w0).mono fun e W' ⟨he, bel⟩ => ?_
  subst he
  exact ⟨_, rfl, _, _, _, [], _, [], hW', trodAll_mk1 (shut_bool Try.underlying4 _), (trodAll_cons_mk (Below.trod laidOut (by kernel_rfl) (of_decide_eq_true (by kernel_rfl)) k0 bel lt0) trodAll_mk0), rfl, bel.frame _, fun h => by cases h⟩

theorem over : Rows.fnExactFitRateRow.holds Try.pinned (OpenSpec.ofChange Rows.fnExactFitRateSpec) :=
  OpenClaim.holds_of_wide 8 Try.f8 rfl rfl rfl rfl rfl rfl rfl ⟨rfl, rfl, rfl, rfl, rfl⟩ rfl rfl rfl rfl rfl (by kernel_rfl) Try.func8 (by kernel_rfl)
    (of_decide_eq_true (by kernel_rfl)) (by unfold Func.isWrapper; first | (rw [if_pos (by decide +kernel)]; kernel_rfl) | (rw [if_neg (by decide +kernel)]; exact ⟨rfl, rfl⟩))
    (fun os started H enc _ => lifted os started H enc)

/-- the statement -/
theorem proved : Rows.FnExactFitRateSaid := over
end Go.Proofs.Ytceckapldohkdaa.FnExactFitRate
