/- FnExactFlushNumber: for every float32 the law returns true: program and reference give the number back, a zero of its sign in the place of a subnormal one. -/
import Derived.Test.YtehohiicecnmeaaNum
namespace Go.Proofs.Ytehohiicecnmeaa.FnExactFlushNumber
open Go.ChangeShapes Go.WideShapes Go.ChangeAt Go.RowKit Flt

theorem sFlush_any (b : Nat) (w : World) (hb : b < 4294967296) :
    Calls Try.prog 37 #[.float .f32 b] w fun e w' => ∃ r n, e = .returned (.float .f32 r) ∧ w' = w.drewN n ∧ cls .f32 r = flushC (cls .f32 b) ∧ r < 4294967296 := by
  go_enter Try.func37, Try.ntmps37
  go_wp2_with (first | (go_at_call 53; refine (l01Flush_any _ _ hb).mono ?_; rintro e w' ⟨r, n, rfl, rfl, hr, hlt⟩; have Hr := Lib.hid hr; clear hr))
  go_ret
  exact ⟨_, _, rfl, rfl, Hr.out, hlt⟩

theorem walk (a : Nat) (w : World) (ha : a < 4294967296) :
    Calls Try.prog 14 #[.float .f32 a] w fun e w' => e = .returned (.bool true) ∧ Below w.heap.size w w' := by
  go_enter Try.func14, Try.ntmps14
  go_wp2_with (first | (go_at_call 37; refine (sFlush_any _ _ ha).mono ?_; rintro e w' ⟨r, n, rfl, rfl, hr, hlt⟩; have Hr := Lib.hid hr; clear hr) | (go_at_call 38; refine (flushNumber_any _ _ ha).mono ?_; rintro e w' ⟨q, n, rfl, rfl, hq, hqt⟩; have Hq := Lib.hid hq; clear hq) | (refine wpList_conv rfl _ _ _ rfl .f32 .f64 _ rfl (by decide) (by kernel_rfl) Try.underlying25 (noOver_widen _) ?_; intro τ n) | (go_at_call 19; refine (sameFloat_same _ _ _ (by rw [cls_rep' (nn_fconv _ _ _ (nn_cls _ _)), cls_rep' (nn_fconv _ _ _ (nn_cls _ _)), Hr.out, Hq.out])).mono ?_; rintro e w' ⟨n, rfl, rfl⟩))
  go_ret
  exact ⟨rfl, below_drewN' _ _⟩

set_option maxRecDepth 100000 in
theorem lifted (os : Os) (started : os.Started) (H : Type) (enc : TypeId × Value → H) :
    ReturnsInHanded {} Try.checked os 14 .any (Rows.fnExactFlushNumberSpec.pre6 enc Try.prog Try.f14 Rows.fnExactFlushNumberRow.domain false) (Rows.fnExactFlushNumberSpec.post enc Try.prog Try.f14 false true false false) := by
  refine returnsInHanded_of_change (C := Try.checked) own started (by kernel_rfl) Try.func14
    (ChangeSpec.witness6 (enc := enc) (C := Try.checked) false ⟨#[], #[.float .f32 0], []⟩ 8 (by kernel_rfl) (by kernel_rfl) (by kernel_rfl) (by kernel_rfl)) ?_
  intro W base args ds gs before hval0 hW hcnd _
  have hval : ∀ (j : Nat) t v, Try.f14.params[j]? = some t → args[j]? = some v → Value.okWide Try.prog W .any base t v := hval0
  have hW' := hW
  obtain ⟨p, q, hA0, hV, rfl, hfz, hnd⟩ := hW
  have hA : DataW.TrodAll enc Try.prog W 0 (fun _ => true) true Try.f14.params.toList args.toList ds p := hA0
  rw [Try.params14] at hA hval
  obtain ⟨v0, vs0, d0, ds0, p0, q0, hargs, rfl, rfl, h0, r0⟩ := trodAll_cons hA
  obtain ⟨rfl, rfl, rfl⟩ := trodAll_nil r0
  obtain rfl : args = #[v0] := by cases args; simp_all
  obtain ⟨rfl, rfl⟩ := trodVars_none hV
  have k0 := h0
  have lt0 : ∀ x ∈ p0, x.block < W.heap.size := by obtain ⟨m, hm⟩ := k0; exact DataW.trod_lt m _ _ _ hm
  obtain ⟨a0, rfl, rfl, rfl, w00⟩ := open_float Try.underlying23 (hval 0 23 v0 rfl rfl) h0
  have w0 : a0 < 4294967296 := by simpa [Lit.wf] using w00
  clear hA0 hval0
  refine (walk a0 W w0).mono fun e W' ⟨he, bel⟩ => ?_
  subst he
  exact ⟨_, rfl, _, _, _, [], _, [], hW', trodAll_mk1 (shut_bool Try.underlying4 _), (trodAll_cons_mk (Below.trod laidOut (by kernel_rfl) (of_decide_eq_true (by kernel_rfl)) k0 bel lt0) trodAll_mk0), rfl, bel.frame _, fun h => by cases h⟩

theorem over : Rows.fnExactFlushNumberRow.holds Try.pinned (OpenSpec.ofChange Rows.fnExactFlushNumberSpec) :=
  OpenClaim.holds_of_wide 14 Try.f14 rfl rfl rfl rfl rfl rfl rfl ⟨rfl, rfl, rfl, rfl, rfl⟩ rfl rfl rfl rfl rfl (by kernel_rfl) Try.func14 (by kernel_rfl)
    (of_decide_eq_true (by kernel_rfl)) (by unfold Func.isWrapper; first | (rw [if_pos (by decide +kernel)]; kernel_rfl) | (rw [if_neg (by decide +kernel)]; exact ⟨rfl, rfl⟩))
    (fun os started H enc _ => lifted os started H enc)

/-- the statement -/
theorem proved : Rows.FnExactFlushNumberSaid := over
end Go.Proofs.Ytehohiicecnmeaa.FnExactFlushNumber
