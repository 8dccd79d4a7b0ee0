/- FnExactPhasorOf: for every number of turns the law returns true: program and reference give the same point of the unit circle. -/
import Derived.Test.YtcjkelnhikhbhaaPhaI
import Derived.Test.YtcjkelnhikhbhaaPhaS
namespace Go.Proofs.Ytcjkelnhikhbhaa.FnExactPhasorOf
open Go.ChangeShapes Go.WideShapes Go.ChangeAt Go.RowKit Go.Deep Flt

section
variable {P : Program} {ops : Array Oper} {rest : List Oper} {o : Oper} {a : Act} {w : World} {Q : Exit → Act → World → Prop}
theorem run_conv_c (w : World) (src dst : TypeId) (s k : FloatKind) (hne : s ≠ k) (x y : Nat) (hs : (P.underlying src).isSome = true) (hd : P.underlying dst = some (.complex k)) (hx : NoOver s k x) (hy : NoOver s k y) :
    ∃ (τ σ : Tp k) (n : Nat), (convert src dst (.complex s x y)).run P w = .ok (.complex k (rep k (fconv s k (cls s x)) τ) (rep k (fconv s k (cls s y)) σ)) (w.drewN n) := by
  obtain ⟨r, n, h1, h2, h3⟩ := sem_conv (P := P) w s k hne x hx
  obtain ⟨q, m, g1, g2, g3⟩ := sem_conv (P := P) (w.drewN n) s k hne y hy
  obtain ⟨τ, hτ⟩ := exists_of h2 h3
  obtain ⟨σ, hσ⟩ := exists_of g2 g3
  refine ⟨τ, σ, n + m, ?_⟩
  rw [← hτ, ← hσ]
  obtain ⟨u, hs'⟩ := Option.isSome_iff_exists.1 hs
  cases u <;> simp [convert, run_underlying hs', run_underlying hd, Conv.complexToComplex, h1, g1, World.drewN_drewN]
theorem wpList_conv_c (hgd : o.guard = none) (src dst : TypeId) (x : Operand) (ho : o.op = .convert src dst x)
    (s k : FloatKind) (b c : Nat) (hx : a.eval x = .complex s b c) (hne : s ≠ k) (hs : (P.underlying src).isSome = true) (hd : P.underlying dst = some (.complex k)) (hb : NoOver s k b) (hc : NoOver s k c)
    (h : ∀ (τ σ : Tp k) (n : Nat), wpList P ops Q rest (a.put o.dst (.complex k (rep k (fconv s k (cls s b)) τ) (rep k (fconv s k (cls s c)) σ))) (w.drewN n)) : wpList P ops Q (o :: rest) a w :=
  wpList_plain hgd fun K hK => by
    obtain ⟨τ, σ, n, hr⟩ := run_conv_c (P := P) w src dst s k hne b c hs hd hb hc
    have hh := hK _ _ (h τ σ n)
    unfold Oper.wp execOp
    simp only [ho, hx, Sem.run_bind, Sem.run_pure, Result.andThen_ok, hr]
    exact hh
end

theorem sameComplex_same (a b c d : Nat) (w : World) (h1 : cls .f64 a = cls .f64 c) (h2 : cls .f64 b = cls .f64 d) :
    Calls Try.prog 36 #[.complex .f64 a b, .complex .f64 c d] w fun e w' => ∃ n, e = .returned (.bool true) ∧ w' = w.drewN n := by
  go_enter Try.func36, Try.ntmps36
  go_wp2_with (first | (go_at_call 17; refine (sameFloat_same _ _ _ (by first | exact h1 | exact h2)).mono ?_; rintro e w5 ⟨k, rfl, rfl⟩))
  go_ret
  exact ⟨_, rfl, rfl⟩

set_option maxHeartbeats 1000000 in
theorem walk (b : Nat) (w : World) (hb : b < 18446744073709551616) :
    Calls Try.prog 11 #[.float .f64 b] w fun e w' => e = .returned (.bool true) ∧ Below w.heap.size w w' := by
  go_enter Try.func11, Try.ntmps11
  go_wp2_with fail
  refine (phaS b w).mono ?_
  rintro e w1 ⟨re, im, rfl, hp, hd⟩
  have HD := Lib.hid hd
  clear hd
  go_wp2_with fail
  refine (phaI b _ hb).mono ?_
  rintro e w2 ⟨re2, im2, rfl, hp2, hd⟩
  have HE := Lib.hid (HD.out.trans hd)
  obtain ⟨u1, u2⟩ := hp2.unique hp
  have U1 := Lib.hid u1
  have U2 := Lib.hid u2
  clear hd hp hp2 u1 u2
  go_wp2_with (first | (refine wpList_conv_c rfl _ _ _ rfl .f32 .f64 _ _ rfl (by decide) (by kernel_rfl) Try.underlying44 (noOver_widen _) (noOver_widen _) ?_; intro τ σ k))
  refine (sameComplex_same _ _ _ _ _ (by rw [cls_rep' (nn_fconv _ _ _ (nn_cls _ _)), cls_rep' (nn_fconv _ _ _ (nn_cls _ _)), U1.out]) (by rw [cls_rep' (nn_fconv _ _ _ (nn_cls _ _)), cls_rep' (nn_fconv _ _ _ (nn_cls _ _)), U2.out])).mono ?_
  rintro e w5 ⟨k, rfl, rfl⟩
  go_wp2
  go_ret
  exact ⟨rfl, (HE.out.drewN _).below⟩

set_option maxRecDepth 100000 in
theorem lifted (os : Os) (started : os.Started) (H : Type) (enc : TypeId × Value → H) :
    ReturnsInHanded {} Try.checked os 11 .any (Rows.fnExactPhasorOfSpec.pre6 enc Try.prog Try.f11 Rows.fnExactPhasorOfRow.domain false) (Rows.fnExactPhasorOfSpec.post enc Try.prog Try.f11 false true false false) := by
  refine returnsInHanded_of_change (C := Try.checked) own started (by kernel_rfl) Try.func11
    (ChangeSpec.witness6 (enc := enc) (C := Try.checked) false ⟨#[], #[.float .f64 0], []⟩ 8 (by kernel_rfl) (by kernel_rfl) (by kernel_rfl) (by kernel_rfl)) ?_
  intro W base args ds gs before hval0 hW hcnd _
  have hval : ∀ (j : Nat) t v, Try.f11.params[j]? = some t → args[j]? = some v → Value.okWide Try.prog W .any base t v := hval0
  have hW' := hW
  obtain ⟨p, q, hA0, hV, rfl, hfz, hnd⟩ := hW
  have hA : DataW.TrodAll enc Try.prog W 0 (fun _ => true) true Try.f11.params.toList args.toList ds p := hA0
  rw [Try.params11] at hA hval
  obtain ⟨v0, vs0, d0, ds0, p0, q0, hargs, rfl, rfl, h0, r0⟩ := trodAll_cons hA
  obtain ⟨rfl, rfl, rfl⟩ := trodAll_nil r0
  obtain rfl : args = #[v0] := by cases args; simp_all
  obtain ⟨rfl, rfl⟩ := trodVars_none hV
  have k0 := h0
  have lt0 : ∀ x ∈ p0, x.block < W.heap.size := by obtain ⟨m, hm⟩ := k0; exact DataW.trod_lt m _ _ _ hm
  obtain ⟨a0, rfl, rfl, rfl, w00⟩ := open_float Try.underlying28 (hval 0 28 v0 rfl rfl) h0
  have w0 : a0 < 18446744073709551616 := by simpa [Lit.wf] using w00
  clear hA0 hval0
  refine (walk a0 W w0).mono fun e W' ⟨he, bel⟩ => ?_
  subst he
  exact ⟨_, rfl, _, _, _, [], _, [], hW', trodAll_mk1 (shut_bool Try.underlying4 _), (trodAll_cons_mk (Below.trod laidOut (by kernel_rfl) (of_decide_eq_true (by kernel_rfl)) k0 bel lt0) trodAll_mk0), rfl, bel.frame _, fun h => by cases h⟩

theorem over : Rows.fnExactPhasorOfRow.holds Try.pinned (OpenSpec.ofChange Rows.fnExactPhasorOfSpec) :=
  OpenClaim.holds_of_wide 11 Try.f11 rfl rfl rfl rfl rfl rfl rfl ⟨rfl, rfl, rfl, rfl, rfl⟩ rfl rfl rfl rfl rfl (by kernel_rfl) Try.func11 (by kernel_rfl)
    (of_decide_eq_true (by kernel_rfl)) (by unfold Func.isWrapper; first | (rw [if_pos (by decide +kernel)]; kernel_rfl) | (rw [if_neg (by decide +kernel)]; exact ⟨rfl, rfl⟩))
    (fun os started H enc _ => lifted os started H enc)

/-- the statement -/
theorem proved : Rows.FnExactPhasorOfSaid := over
end Go.Proofs.Ytcjkelnhikhbhaa.FnExactPhasorOf
