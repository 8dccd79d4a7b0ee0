/- FnExactFromBits: for every int64 the law returns true: program and reference give the float32 with those bits, and no number outside 0 to 2 to the 32 less 1. -/
import Derived.Test.YtehohiicecnmeaaNum
namespace Go.Proofs.Ytehohiicecnmeaa.FnExactFromBits
open Go.ChangeShapes Go.WideShapes Go.ChangeAt Go.RowKit Flt

/-- the number with some bits -/
def fromN (n : Int) : Nat := if inB n 0 4294967295 = true then n.toNat else 0

theorem inB_yes {n lo hi : Int} (h : inB n lo hi = true) : lo ≤ n ∧ n ≤ hi := by simpa [inB] using h

theorem fromBitsI (n : Int) (w : World) :
    Calls Try.prog 34 #[.int .i64 n] w fun e w' => e = .returned (.tuple #[.float .f32 (fromN n), .bool (inB n 0 4294967295)]) ∧ w = w' := by
  cases h : inB n 0 4294967295
  · have hf : fromN n = 0 := by unfold fromN; rw [h]; rfl
    have Hf := Lib.hid hf
    clear hf
    go_enter Try.func34, Try.ntmps34
    go_wp2_with (first | (go_at_call 44; refine (within_any _ _ _ _).mono ?_; rintro e w' ⟨rfl, rfl⟩))
    go_ret2
    exact ⟨by rw [Hf.out]; rfl, rfl⟩
  · have hf : fromN n = n.toNat := by unfold fromN; rw [h]; rfl
    obtain ⟨h0, h1⟩ := inB_yes h
    have Hf := Lib.hid hf
    clear hf
    go_enter Try.func34, Try.ntmps34
    go_wp2_with (first | (go_at_call 44; refine (within_any _ _ _ _).mono ?_; rintro e w' ⟨rfl, rfl⟩))
    go_ret2
    exact ⟨by rw [Hf.out]; rfl, rfl⟩
theorem fromBitsS (n : Int) (w : World) :
    Calls Try.prog 33 #[.int .i64 n] w fun e w' => e = .returned (.tuple #[.float .f32 (fromN n), .bool (inB n 0 4294967295)]) ∧ w = w' := by
  cases h : inB n 0 4294967295
  · have hf : fromN n = 0 := by unfold fromN; rw [h]; rfl
    have Hf := Lib.hid hf
    clear hf
    go_enter Try.func33, Try.ntmps33
    go_wp2_with (first | (go_at_call 48; refine (l00In_any _ _ _ _).mono ?_; rintro e w' ⟨rfl, rfl⟩))
    go_ret2
    exact ⟨by rw [Hf.out]; rfl, rfl⟩
  · have hf : fromN n = n.toNat := by unfold fromN; rw [h]; rfl
    obtain ⟨h0, h1⟩ := inB_yes h
    have Hf := Lib.hid hf
    clear hf
    go_enter Try.func33, Try.ntmps33
    go_wp2_with (first | (go_at_call 48; refine (l00In_any _ _ _ _).mono ?_; rintro e w' ⟨rfl, rfl⟩) | (go_at_call 50; refine (l01From_any _ _ h0 h1).mono ?_; rintro e w' ⟨rfl, rfl⟩))
    go_ret2
    exact ⟨by rw [Hf.out]; rfl, rfl⟩

theorem walk (n : Int) (w : World) (_h : (Lit.int .i64 n).wf = true) :
    Calls Try.prog 12 #[.int .i64 n] w fun e w' => e = .returned (.bool true) ∧ Below w.heap.size w w' := by
  go_enter Try.func12, Try.ntmps12
  go_wp2_with (first | (go_at_call 33; refine (fromBitsS _ _).mono ?_; rintro e w' ⟨rfl, rfl⟩) | (go_at_call 34; refine (fromBitsI _ _).mono ?_; rintro e w' ⟨rfl, rfl⟩) | (refine wpList_conv rfl _ _ _ rfl .f32 .f64 _ rfl (by decide) (by kernel_rfl) Try.underlying25 (noOver_widen _) ?_; intro τ n) | (go_at_call 19; refine (sameFloat_same _ _ _ (by rw [cls_rep' (nn_fconv _ _ _ (nn_cls _ _)), cls_rep' (nn_fconv _ _ _ (nn_cls _ _))])).mono ?_; rintro e w' ⟨n, rfl, rfl⟩))
  go_ret
  exact ⟨rfl, below_drewN' _ _⟩

set_option maxRecDepth 100000 in
theorem lifted (os : Os) (started : os.Started) (H : Type) (enc : TypeId × Value → H) :
    ReturnsInHanded {} Try.checked os 12 .any (Rows.fnExactFromBitsSpec.pre6 enc Try.prog Try.f12 Rows.fnExactFromBitsRow.domain false) (Rows.fnExactFromBitsSpec.post enc Try.prog Try.f12 false true false false) := by
  refine returnsInHanded_of_change (C := Try.checked) own started (by kernel_rfl) Try.func12
    (ChangeSpec.witness6 (enc := enc) (C := Try.checked) false ⟨#[], #[.int .i64 0], []⟩ 8 (by kernel_rfl) (by kernel_rfl) (by kernel_rfl) (by kernel_rfl)) ?_
  intro W base args ds gs before hval0 hW hcnd _
  have hval : ∀ (j : Nat) t v, Try.f12.params[j]? = some t → args[j]? = some v → Value.okWide Try.prog W .any base t v := hval0
  have hW' := hW
  obtain ⟨p, q, hA0, hV, rfl, hfz, hnd⟩ := hW
  have hA : DataW.TrodAll enc Try.prog W 0 (fun _ => true) true Try.f12.params.toList args.toList ds p := hA0
  rw [Try.params12] at hA hval
  obtain ⟨v0, vs0, d0, ds0, p0, q0, hargs, rfl, rfl, h0, r0⟩ := trodAll_cons hA
  obtain ⟨rfl, rfl, rfl⟩ := trodAll_nil r0
  obtain rfl : args = #[v0] := by cases args; simp_all
  obtain ⟨rfl, rfl⟩ := trodVars_none hV
  have k0 := h0
  have lt0 : ∀ x ∈ p0, x.block < W.heap.size := by obtain ⟨m, hm⟩ := k0; exact DataW.trod_lt m _ _ _ hm
  obtain ⟨a0, rfl, rfl, rfl, w0⟩ := open_int Try.underlying2 (hval 0 2 v0 rfl rfl) h0
  clear hA0 hval0
  refine (walk a0 W w0).mono fun e W' ⟨he, bel⟩ => ?_
  subst he
  exact ⟨_, rfl, _, _, _, [], _, [], hW', trodAll_mk1 (shut_bool Try.underlying4 _), (trodAll_cons_mk (Below.trod laidOut (by kernel_rfl) (of_decide_eq_true (by kernel_rfl)) k0 bel lt0) trodAll_mk0), rfl, bel.frame _, fun h => by cases h⟩

theorem over : Rows.fnExactFromBitsRow.holds Try.pinned (OpenSpec.ofChange Rows.fnExactFromBitsSpec) :=
  OpenClaim.holds_of_wide 12 Try.f12 rfl rfl rfl rfl rfl rfl rfl ⟨rfl, rfl, rfl, rfl, rfl⟩ rfl rfl rfl rfl rfl (by kernel_rfl) Try.func12 (by kernel_rfl)
    (of_decide_eq_true (by kernel_rfl)) (by unfold Func.isWrapper; first | (rw [if_pos (by decide +kernel)]; kernel_rfl) | (rw [if_neg (by decide +kernel)]; exact ⟨rfl, rfl⟩))
    (fun os started H enc _ => lifted os started H enc)

/-- the statement -/
theorem proved : Rows.FnExactFromBitsSaid := over
end Go.Proofs.Ytehohiicecnmeaa.FnExactFromBits
