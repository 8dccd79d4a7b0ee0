/- FnExactIntervalTable: for every list of lives, width and count the law returns true: program and reference give the same table, the list is left alone, and the table is the call's own. -/
import Derived.Test.YtceckapldohkdaaIvA
namespace Go.Proofs.Ytceckapldohkdaa.FnExactIntervalTable
open Go.ChangeShapes Go.WideShapes Go.ChangeAt Go.RowKit Go.Deep Flt

set_option maxHeartbeats 4000000 in
theorem walk (a : Option Addr) (n c : Nat) (wd : Nat) (ct : Int) (w : World) (h : n ≤ maxLen ∧ ∃ X F, RowL w a X F n ∧ Lt32 X n) (_h1 : wd < 4294967296) (_h2 : (Lit.int .i64 ct).wf = true) :
    Calls Try.prog 9 #[.slice a n c, .float .f32 wd, .int .i64 ct] w fun e w' => e = .returned (.bool true) ∧ Below w.heap.size w w' := by
  obtain ⟨hm, X, F, P0, _⟩ := h
  unfold maxLen at hm
  by_cases hn : (n : Int) ≤ 1048576
  case neg =>
    go_enter Try.func9, Try.ntmps9
    go_wp2_with fail
    refine (szLifeS_no a n c 1048576 _ hm (by omega) (by omega) (by omega)).mono ?_
    rintro e w1 ⟨rfl, rfl⟩
    go_wp2
    go_ret
    exact ⟨rfl, Below.refl _ _⟩
  have hn' : n ≤ 1048576 := by omega
  have hd : (0 : Int) ≤ 1048576 - (n : Int) := by omega
  have hS := fun g W hx => ivS g n n X F wd ct W hx hn'
  have hI := fun g W hx => ivI g n n X F wd ct W hx hn'
  have hN : (if ivOk X n wd ct then 3 * ct.toNat else 0) ≤ 48 := by
    cases ho : ivOk X n wd ct
    · simp
    · unfold ivOk at ho
      simp [inB] at ho
      simp; omega
  generalize (if ivOk X n wd ct then 3 * ct.toNat else 0) = N at *
  generalize ivOk X n wd ct = ok at *
  have hV : ivV X F wd n = fun j => .int .i64 ((fun j => ((ivZ X F wd n j : Nat) : Int)) j) := rfl
  rw [hV] at hS hI
  clear hV
  generalize (fun j => ((ivZ X F wd n j : Nat) : Int)) = f at *
  have HS := Lib.hid hS
  have HI := Lib.hid hI
  clear hS hI
  go_enter Try.func9, Try.ntmps9
  go_wp2_with fail
  refine (szLifeS_yes a n c 1048576 _ (by omega) (by omega) hn).mono ?_
  rintro e w1 ⟨rfl, rfl⟩
  go_wp2_with fail
  refine (toLifeS_any a X F n c _ P0 hn').mono ?_
  rintro e w1 ⟨rfl, r1, b1⟩
  have R1 := Lib.hid r1
  have B1 := Lib.hid b1
  clear r1 b1
  go_wp2_with fail
  refine (HS.out _ _ R1.out).mono ?_
  rintro e w2 ⟨A, cA, rfl, oA, b2⟩
  have OA := Lib.hid oA
  have s2 := b2.size
  have B2 := Lib.hid (B1.out.trans (b2.mono B1.out.size))
  clear oA b2
  go_wp2_with fail
  refine (toLifeS_row a X F n c _ (P0.below B2.out) hn').mono ?_
  rintro e w3 ⟨rfl, r3, b3⟩
  have s3 := r3.lt
  have R3 := Lib.hid r3
  have OA := Lib.hid (OA.out.below b3)
  have B3 := Lib.hid (B2.out.trans (b3.mono B2.out.size))
  clear r3 b3
  go_wp2_with fail
  refine (HI.out _ _ (lives_of_row R3.out)).mono ?_
  rintro e w4 ⟨A2, cB, rfl, oB, b4⟩
  have OB := Lib.hid oB
  have s4 := b4.size
  have R4 := Lib.hid (row_below R3.out b4)
  have OA := Lib.hid (OA.out.below b4)
  have B4 := Lib.hid (B3.out.trans (b4.mono B3.out.size))
  clear oB b4
  go_wp2_with fail
  refine (eqI64_same A2 N cB A cA f _ _ _ _ _ OB.out OA.out (by omega)).mono ?_
  rintro e w5 ⟨rfl, hd5⟩
  have b5 := hd5.below
  have R5 := Lib.hid (row_below R4.out b5)
  have OA := Lib.hid (OA.out.below b5)
  have OB := Lib.hid (OB.out.below b5)
  have B5 := Lib.hid (B4.out.trans (b5.mono B4.out.size))
  have s5 := b5.size
  clear hd5 b5
  go_wp2_with fail
  refine (toLifeS_any a X F n c _ (P0.below B5.out) hn').mono ?_
  rintro e w6 ⟨rfl, r6, b6⟩
  have C6 := Lib.hid r6
  have R6 := Lib.hid (row_below R5.out b6)
  have OA := Lib.hid (OA.out.below b6)
  have OB := Lib.hid (OB.out.below b6)
  have B6 := Lib.hid (B5.out.trans (b6.mono B5.out.size))
  have s6 := b6.size
  clear r6 b6
  go_wp2_with fail
  refine (eqLifeS_same _ _ X X F n n n _ (lives_of_row R6.out) C6.out (fun _ _ => rfl) hn').mono ?_
  rintro e w7 ⟨rfl, b7⟩
  have R7 := Lib.hid (row_below R6.out b7)
  have OA := Lib.hid (OA.out.below b7)
  have OB := Lib.hid (OB.out.below b7)
  have B7 := Lib.hid (B6.out.trans (b7.mono B6.out.size))
  have s7 := b7.size
  clear b7
  have k8 : (0 : Int) ≤ 1 + 2 * (n : Int) := by omega
  go_wp2_with fail
  refine (markLifeS_any _ n n _ _ R7.out hn').mono ?_
  rintro e w8 ⟨rfl, t8⟩
  have OA := Lib.hid (OA.out.touch t8 (by omega))
  have OB := Lib.hid (OB.out.touch t8 (by omega))
  have B8 := Lib.hid (t8.below B7.out (by have := B2.out.size; omega) B7.out.size)
  have s8 := t8.size
  clear t8
  go_wp2_with fail
  refine (eqI64_same A2 N cB A cA f _ _ _ _ _ OB.out OA.out (by omega)).mono ?_
  rintro e w9 ⟨rfl, hd9⟩
  have b9 := hd9.below
  have OA := Lib.hid (OA.out.below b9)
  have OB := Lib.hid (OB.out.below b9)
  have B9 := Lib.hid (B8.out.trans (b9.mono B8.out.size))
  have s9 := b9.size
  clear hd9 b9
  go_wp2_with fail
  refine (markI64_any A2 N cB _ _ _ 1 _ OB.out (by omega) (by omega)).mono ?_
  rintro e w10 ⟨rfl, oM, t10⟩
  have OM := Lib.hid oM
  have OA := Lib.hid (OA.out.touch t10 (by omega))
  have B10 := Lib.hid (t10.below B9.out (by have := B3.out.size; omega) B9.out.size)
  have s10 := t10.size
  clear oM t10
  go_wp2_with fail
  refine (heldI64_any A2 N cB _ _ 1 _ OM.out (by omega) (by omega)).mono ?_
  rintro e w11 ⟨rfl, rfl⟩
  go_wp2_with fail
  refine (toLifeS_any a X F n c _ (P0.below B10.out) hn').mono ?_
  rintro e w12 ⟨rfl, r12, b12⟩
  have R12 := Lib.hid r12
  have OA := Lib.hid (OA.out.below b12)
  have OM := Lib.hid (OM.out.below b12)
  have B12 := Lib.hid (B10.out.trans (b12.mono B10.out.size))
  clear r12 b12
  go_wp2_with fail
  refine (HI.out _ _ R12.out).mono ?_
  rintro e w13 ⟨A3, cC, rfl, oC, b13⟩
  have OC := Lib.hid oC
  have OA := Lib.hid (OA.out.below b13)
  have OM := Lib.hid (OM.out.below b13)
  have B13 := Lib.hid (B12.out.trans (b13.mono B12.out.size))
  clear oC b13
  go_wp2_with fail
  refine (eqI64_same A3 N cC A cA f _ _ _ _ _ OC.out OA.out (by omega)).mono ?_
  rintro e w14 ⟨rfl, hd14⟩
  have OM := Lib.hid (OM.out.below hd14.below)
  have B14 := Lib.hid (B13.out.trans (hd14.below.mono B13.out.size))
  clear hd14
  go_wp2_with fail
  refine (heldI64_any A2 N cB _ _ 1 _ OM.out (by omega) (by omega)).mono ?_
  rintro e w15 ⟨rfl, rfl⟩
  go_wp2
  go_ret
  exact ⟨rfl, B14.out⟩

set_option maxRecDepth 100000 in
theorem lifted (os : Os) (started : os.Started) (H : Type) (enc : TypeId × Value → H) :
    ReturnsInHanded {} Try.checked os 9 .any (Rows.fnExactIntervalTableSpec.pre6 enc Try.prog Try.f9 Rows.fnExactIntervalTableRow.domain false) (Rows.fnExactIntervalTableSpec.post enc Try.prog Try.f9 false true false false) := by
  refine returnsInHanded_of_change (C := Try.checked) own started (by kernel_rfl) Try.func9
    (ChangeSpec.witness6 (enc := enc) (C := Try.checked) false ⟨#[], #[.slice none 0 0, .float .f32 0, .int .i64 0], []⟩ 8 (by kernel_rfl) (by kernel_rfl) (by kernel_rfl) (by kernel_rfl)) ?_
  intro W base args ds gs before hval0 hW hcnd _
  have hval : ∀ (j : Nat) t v, Try.f9.params[j]? = some t → args[j]? = some v → Value.okWide Try.prog W .any base t v := hval0
  have hW' := hW
  obtain ⟨p, q, hA0, hV, rfl, hfz, hnd⟩ := hW
  have hA : DataW.TrodAll enc Try.prog W 0 (fun _ => true) true Try.f9.params.toList args.toList ds p := hA0
  rw [Try.params9] at hA hval
  obtain ⟨v0, vs0, d0, ds0, p0, q0, hargs, rfl, rfl, h0, r0⟩ := trodAll_cons hA
  obtain ⟨v1, vs1, d1, ds1, p1, q1, rfl, rfl, rfl, h1, r1⟩ := trodAll_cons r0
  obtain ⟨v2, vs2, d2, ds2, p2, q2, rfl, rfl, rfl, h2, r2⟩ := trodAll_cons r1
  obtain ⟨rfl, rfl, rfl⟩ := trodAll_nil r2
  obtain rfl : args = #[v0, v1, v2] := by cases args; simp_all
  obtain ⟨rfl, rfl⟩ := trodVars_none hV
  have k0 := h0
  have lt0 : ∀ x ∈ p0, x.block < W.heap.size := by obtain ⟨m, hm⟩ := k0; exact DataW.trod_lt m _ _ _ hm
  obtain ⟨a0, n0, c0, rfl⟩ := okWide_slice Try.underlying22 (hval 0 22 v0 rfl rfl)
  have w0 := slice_opened59 h0
  have k1 := h1
  have lt1 : ∀ x ∈ p1, x.block < W.heap.size := by obtain ⟨m, hm⟩ := k1; exact DataW.trod_lt m _ _ _ hm
  obtain ⟨a1, rfl, rfl, rfl, w10⟩ := open_float Try.underlying32 (hval 1 32 v1 rfl rfl) h1
  have w1 : a1 < 4294967296 := by simpa [Lit.wf] using w10
  have k2 := h2
  have lt2 : ∀ x ∈ p2, x.block < W.heap.size := by obtain ⟨m, hm⟩ := k2; exact DataW.trod_lt m _ _ _ hm
  obtain ⟨a2, rfl, rfl, rfl, w2⟩ := open_int Try.underlying2 (hval 2 2 v2 rfl rfl) h2
  clear hA0 hval0
  refine (walk a0 n0 c0 a1 a2 W w0 w1 w2).mono fun e W' ⟨he, bel⟩ => ?_
  subst he
  exact ⟨_, rfl, _, _, _, [], _, [], hW', trodAll_mk1 (shut_bool Try.underlying4 _), (trodAll_cons_mk (Below.trod laidOut (by kernel_rfl) (of_decide_eq_true (by kernel_rfl)) k0 bel lt0) (trodAll_cons_mk (Below.trod laidOut (by kernel_rfl) (of_decide_eq_true (by kernel_rfl)) k1 bel lt1) (trodAll_cons_mk (Below.trod laidOut (by kernel_rfl) (of_decide_eq_true (by kernel_rfl)) k2 bel lt2) trodAll_mk0))), rfl, bel.frame _, fun h => by cases h⟩

theorem over : Rows.fnExactIntervalTableRow.holds Try.pinned (OpenSpec.ofChange Rows.fnExactIntervalTableSpec) :=
  OpenClaim.holds_of_wide 9 Try.f9 rfl rfl rfl rfl rfl rfl rfl ⟨rfl, rfl, rfl, rfl, rfl⟩ rfl rfl rfl rfl rfl (by kernel_rfl) Try.func9 (by kernel_rfl)
    (of_decide_eq_true (by kernel_rfl)) (by unfold Func.isWrapper; first | (rw [if_pos (by decide +kernel)]; kernel_rfl) | (rw [if_neg (by decide +kernel)]; exact ⟨rfl, rfl⟩))
    (fun os started H enc _ => lifted os started H enc)

/-- the statement -/
theorem proved : Rows.FnExactIntervalTableSaid := over
end Go.Proofs.Ytceckapldohkdaa.FnExactIntervalTable
