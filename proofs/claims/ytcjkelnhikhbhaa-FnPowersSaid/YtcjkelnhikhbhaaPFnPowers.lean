/- FnPowers: for every two lists of bytes the law returns true: the logarithm of a power leads back nearly, products of powers are nearly powers of sums, at all the 65 times 65 numbers that the law reaches. -/
import Derived.Test.YtcjkelnhikhbhaaPowI
namespace Go.Proofs.Ytcjkelnhikhbhaa.FnPowers
open Go.ChangeShapes Go.WideShapes Go.ChangeAt Go.RowKit Go.Deep Flt

theorem half_word (k : Nat) (hk : k < 65) (τ : Tp .f32) : rep .f32 (fop .quo .f32 (cls .f32 (floatOfInt .f32 ((k : Int) - 32))) (cls .f32 1090519040)) τ = powW (k + 32) := by
  rw [pow_half k hk]; rfl
theorem sum_word (k m : Nat) (hk : k < 65) (hm : m < 65) (τ : Tp .f32) : rep .f32 (fop .add .f32 (cls .f32 (powW (k + 32))) (cls .f32 (powW (m + 32)))) τ = powW (k + m) := by
  rw [pow_sum k hk m hm]; rfl
theorem log_at {r k : Nat} (hk : k < 65) (h : cls .f32 r = logC (powE (k + 32))) : r = powL k := by
  rw [pow_log k hk] at h
  exact (cls_some h).1.symm

theorem exp_zero (w : World) : Calls Try.prog 22 #[.float .f32 0] w fun e w' => e = .returned (.float .f32 1065353216) ∧ Drew w w' := by
  have h := expI_at 64 (by omega) w
  rw [pow_zero.1, pow_zero.2.1] at h
  exact h
theorem log_one (w : World) : Calls Try.prog 28 #[.float .f32 1065353216] w fun e w' => e = .returned (.float .f32 0) ∧ Drew w w' :=
  (logI 1065353216 w (by decide)).mono fun e w' ⟨r, he, hr, _, hd⟩ => ⟨by
    have h := log_at (k := 32) (by omega) (by rw [show powE (32 + 32) = 1065353216 from pow_zero.2.1]; exact hr)
    rw [he, h, pow_zero.2.2], hd⟩

set_option maxRecDepth 100000 in
set_option maxHeartbeats 2000000 in
theorem walk (a : Option Addr) (n c : Nat) (b : Option Addr) (m d : Nat) (w : World) (h0 : n ≤ maxLen ∧ ∃ X, RowB w a X n ∧ Lt8 X n) (h1 : m ≤ maxLen ∧ ∃ X, RowB w b X m ∧ Lt8 X m) :
    Calls Try.prog 7 #[.slice a n c, .slice b m d] w fun e w' => e = .returned (.bool true) ∧ Below w.heap.size w w' := by
  obtain ⟨_, X, hX, lX⟩ := h0
  obtain ⟨_, Y, hY, lY⟩ := h1
  cases hl : (decide ((n : Int) > 1048576) || decide ((m : Int) > 1048576))
  case true =>
    go_enter Try.func7, Try.ntmps7
    go_wp2_with fail
    refine (b10Long_any _ _ _ _ _ _ _).mono ?_
    rintro e w1 ⟨rfl, rfl⟩
    go_wp2
    go_ret
    exact ⟨rfl, Below.refl _ _⟩
  go_enter Try.func7, Try.ntmps7
  go_wp2_with fail
  refine (b10Long_any _ _ _ _ _ _ _).mono ?_
  rintro e w1 ⟨rfl, rfl⟩
  go_wp2_with fail
  refine (b10At_any a X n c 0 65 _ hX lX (by omega) (by omega) (by omega) (by omega)).mono ?_
  rintro e w1 ⟨i, hi, rfl, rfl⟩
  have hi0 : 0 ≤ (i : Int) := by omega
  have HI := Lib.hid (show i < 65 by omega)
  go_wp2_with (first | (refine wpList_fop rfl .quo _ _ _ _ rfl rfl .f32 _ _ rfl rfl ?_; intro τ q; rw [half_word i HI.out τ]))
  refine (b10At_any b Y m d 0 65 _ (hY.drew (by repeat (first | exact Drew.refl _ | refine Drew.drewN ?_ _ | refine Drew.drew ?_))) lY (by omega) (by omega) (by omega) (by omega)).mono ?_
  rintro e w1 ⟨j, hj, rfl, rfl⟩
  have hj0 : 0 ≤ (j : Int) := by omega
  have HJ := Lib.hid (show j < 65 by omega)
  go_wp2_with (first | (refine wpList_fop rfl .quo _ _ _ _ rfl rfl .f32 _ _ rfl rfl ?_; intro τ2 q2; rw [half_word j HJ.out τ2]))
  clear hi hj hi0 hj0 hX hY lX lY
  have hD : Drew w w := Drew.refl _
  have HD := Lib.hid hD
  clear hD
  refine (expI_at (i + 32) (by have := HI.out; omega) _).mono ?_
  rintro e w1 ⟨rfl, hd⟩
  have HD := Lib.hid (show Drew w w1 by refine Drew.trans ?_ hd; repeat (first | exact HD.out | refine Drew.drewN ?_ _ | refine Drew.drew ?_))
  clear hd
  go_wp2_with fail
  refine (expI_at (j + 32) (by have := HJ.out; omega) _).mono ?_
  rintro e w2 ⟨rfl, hd⟩
  have HD := Lib.hid (show Drew w w2 by refine Drew.trans ?_ hd; repeat (first | exact HD.out | refine Drew.drewN ?_ _ | refine Drew.drew ?_))
  clear hd
  go_wp2_with (first | (refine wpList_fop rfl .add _ _ _ _ rfl rfl .f32 _ _ rfl rfl ?_; intro τ3 q3; rw [sum_word i j HI.out HJ.out τ3]))
  refine (expI_at (i + j) (by have := HJ.out; have := HI.out; omega) _).mono ?_
  rintro e w3 ⟨rfl, hd⟩
  have HD := Lib.hid (show Drew w w3 by refine Drew.trans ?_ hd; repeat (first | exact HD.out | refine Drew.drewN ?_ _ | refine Drew.drew ?_))
  clear hd
  go_wp2_with fail
  refine (logI (powE (i + 32)) _ (pow_lt (i + 32) (by have := HI.out; omega)).1).mono ?_
  rintro e w4 ⟨r, rfl, hr, _, hd⟩
  obtain rfl := log_at HI.out hr
  have HD := Lib.hid (show Drew w w4 by refine Drew.trans ?_ hd; repeat (first | exact HD.out | refine Drew.drewN ?_ _ | refine Drew.drew ?_))
  clear hd hr
  go_wp2_with (first | (refine wpList_conv rfl _ _ _ rfl .f32 .f64 _ rfl (by decide) (by kernel_rfl) Try.underlying28 (noOver_widen _) ?_; intro τ q))
  refine (b10Gap_any _ _ _).mono ?_
  rintro e w5 ⟨r1, rfl, hr, hd⟩
  have t1 : (ford .f64 (cls .f64 r1) (cls .f64 4562254508917369340) == some .lt) = true := by
    rw [hr, cls_rep' (nn_fconv _ _ _ (nn_cls _ _)), cls_rep' (nn_fconv _ _ _ (nn_cls _ _))]
    exact pow_near i HI.out
  have HD := Lib.hid (show Drew w w5 by refine Drew.trans ?_ hd; repeat (first | exact HD.out | refine Drew.drewN ?_ _ | refine Drew.drew ?_))
  clear hd hr
  go_wp2_with (first | (refine wpList_conv_g rfl _ _ _ rfl .f32 .f64 _ rfl (by decide) (by kernel_rfl) Try.underlying28 (noOver_widen _) ?_; intro τ q) | (refine wpList_fop_g rfl .mul _ _ _ _ rfl rfl .f64 _ _ rfl rfl ?_; intro τ q))
  refine (b10Gap_any _ _ _).mono ?_
  rintro e w6 ⟨r2, rfl, hr, hd⟩
  rw [cls_rep' (nn_fop _ _ _ _), cls_rep' (nn_fconv _ _ _ (nn_cls _ _))] at hr
  have t2 : (ford .f64 (cls .f64 r2) (fop .mul .f64 (cls .f64 4562254508917369340) (fconv .f32 .f64 (cls .f32 (powE (i + j))))) == some .lt) = true := by
    rw [hr]
    exact pow_prod i HI.out j HJ.out
  have HD := Lib.hid (show Drew w w6 by refine Drew.trans ?_ hd; repeat (first | exact HD.out | refine Drew.drewN ?_ _ | refine Drew.drew ?_))
  clear hd hr
  have t3 := pow_pos i HI.out
  go_wp2_with (first | (refine wpList_conv_g rfl _ _ _ rfl .f32 .f64 _ rfl (by decide) (by kernel_rfl) Try.underlying28 (noOver_widen _) ?_; intro τ q) | (refine wpList_fop_g rfl .mul _ _ _ _ rfl rfl .f64 _ _ rfl rfl ?_; intro τ q))
  have t4 : (ford .f32 (cls .f32 1065353216) (cls .f32 1065353216) == some .eq) = true := by decide +kernel
  have t5 : (ford .f32 (cls .f32 0) (cls .f32 0) == some .eq) = true := by decide +kernel
  refine (exp_zero _).mono ?_
  rintro e w7 ⟨rfl, hd⟩
  have HD := Lib.hid (show Drew w w7 by refine Drew.trans ?_ hd; repeat (first | exact HD.out | refine Drew.drewN ?_ _ | refine Drew.drew ?_))
  clear hd
  go_wp2_with fail
  refine (log_one _).mono ?_
  rintro e w8 ⟨rfl, hd⟩
  have HD := Lib.hid (show Drew w w8 by refine Drew.trans ?_ hd; repeat (first | exact HD.out | refine Drew.drewN ?_ _ | refine Drew.drew ?_))
  clear hd
  go_wp2
  go_ret
  exact ⟨rfl, HD.out.below⟩

set_option maxRecDepth 100000 in
theorem lifted (os : Os) (started : os.Started) (H : Type) (enc : TypeId × Value → H) :
    ReturnsInHanded {} Try.checked os 7 .any (Rows.fnPowersSpec.pre6 enc Try.prog Try.f7 Rows.fnPowersRow.domain false) (Rows.fnPowersSpec.post enc Try.prog Try.f7 false true false false) := by
  refine returnsInHanded_of_change (C := Try.checked) own started (by kernel_rfl) Try.func7
    (ChangeSpec.witness6 (enc := enc) (C := Try.checked) false ⟨#[], #[.slice none 0 0, .slice none 0 0], []⟩ 8 (by kernel_rfl) (by kernel_rfl) (by kernel_rfl) (by kernel_rfl)) ?_
  intro W base args ds gs before hval0 hW hcnd _
  have hval : ∀ (j : Nat) t v, Try.f7.params[j]? = some t → args[j]? = some v → Value.okWide Try.prog W .any base t v := hval0
  have hW' := hW
  obtain ⟨p, q, hA0, hV, rfl, hfz, hnd⟩ := hW
  have hA : DataW.TrodAll enc Try.prog W 0 (fun _ => true) true Try.f7.params.toList args.toList ds p := hA0
  rw [Try.params7] at hA hval
  obtain ⟨v0, vs0, d0, ds0, p0, q0, hargs, rfl, rfl, h0, r0⟩ := trodAll_cons hA
  obtain ⟨v1, vs1, d1, ds1, p1, q1, rfl, rfl, rfl, h1, r1⟩ := trodAll_cons r0
  obtain ⟨rfl, rfl, rfl⟩ := trodAll_nil r1
  obtain rfl : args = #[v0, v1] := by cases args; simp_all
  obtain ⟨rfl, rfl⟩ := trodVars_none hV
  have k0 := h0
  have lt0 : ∀ x ∈ p0, x.block < W.heap.size := by obtain ⟨m, hm⟩ := k0; exact DataW.trod_lt m _ _ _ hm
  obtain ⟨a0, n0, c0, rfl⟩ := okWide_slice Try.underlying37 (hval 0 37 v0 rfl rfl)
  have w0 := slice_opened5 h0
  have k1 := h1
  have lt1 : ∀ x ∈ p1, x.block < W.heap.size := by obtain ⟨m, hm⟩ := k1; exact DataW.trod_lt m _ _ _ hm
  obtain ⟨a1, n1, c1, rfl⟩ := okWide_slice Try.underlying37 (hval 1 37 v1 rfl rfl)
  have w1 := slice_opened5 h1
  clear hA0 hval0
  refine (walk a0 n0 c0 a1 n1 c1 W w0 w1).mono fun e W' ⟨he, bel⟩ => ?_
  subst he
  exact ⟨_, rfl, _, _, _, [], _, [], hW', trodAll_mk1 (shut_bool Try.underlying4 _), (trodAll_cons_mk (Below.trod laidOut (by kernel_rfl) (of_decide_eq_true (by kernel_rfl)) k0 bel lt0) (trodAll_cons_mk (Below.trod laidOut (by kernel_rfl) (of_decide_eq_true (by kernel_rfl)) k1 bel lt1) trodAll_mk0)), rfl, bel.frame _, fun h => by cases h⟩

theorem over : Rows.fnPowersRow.holds Try.pinned (OpenSpec.ofChange Rows.fnPowersSpec) :=
  OpenClaim.holds_of_wide 7 Try.f7 rfl rfl rfl rfl rfl rfl rfl ⟨rfl, rfl, rfl, rfl, rfl⟩ rfl rfl rfl rfl rfl (by kernel_rfl) Try.func7 (by kernel_rfl)
    (of_decide_eq_true (by kernel_rfl)) (by unfold Func.isWrapper; first | (rw [if_pos (by decide +kernel)]; kernel_rfl) | (rw [if_neg (by decide +kernel)]; exact ⟨rfl, rfl⟩))
    (fun os started H enc _ => lifted os started H enc)

/-- the statement -/
theorem proved : Rows.FnPowersSaid := over
end Go.Proofs.Ytcjkelnhikhbhaa.FnPowers
