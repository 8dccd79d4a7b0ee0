/- FnProducts: for all bytes the law returns true: for complex numbers whose parts are small integers products are exact, do not depend on the order, and quotients lead back from them; bits and texts of any numbers are read back. -/
import Derived.Test.YtmpeogpmlgnmfaaGreatDoorPdE
namespace Go.Proofs.YtmpeogpmlgnmfaaGreatDoor.FnProducts
set_option maxRecDepth 100000
open Go.ChangeShapes Go.WideShapes Go.ChangeAt Go.RowKit Go.Deep Flt

theorem of_laid {W : World} (h : laidMetH Tryz.prog Rows.fnProductsRow.laid W) (hs : W.ShapedOpen Tryz.prog) : Got3 W := by
  rw [MakeChecks.laidMetH_plain _ _ _ (by kernel_rfl)] at h
  exact ⟨maxi_of_shaped hs, tz_of_head (laidMet.tail h), sent_syn (laidMet.tail (laidMet.tail (laidMet.tail (laidMet.tail (laidMet.tail h))))), sent_rng (laidMet.tail (laidMet.tail (laidMet.tail (laidMet.tail h))))⟩
theorem mul_bd {a b : Int} (ha : a.natAbs ≤ 200) (hb : b.natAbs ≤ 200) : -40000 ≤ a * b ∧ a * b ≤ 40000 ∧ (a * b).natAbs ≤ 40000 := by
  have h : (a * b).natAbs ≤ 40000 := by rw [Int.natAbs_mul]; exact Nat.mul_le_mul ha hb
  omega
theorem zero_V : V .f32 0 0 := ⟨by decide +kernel, by decide +kernel, by decide⟩
theorem back_re (p q r s : Int) : (p * r - q * s) * r - (p * s + q * r) * -s = p * (r * r + s * s) := by
  have e1 : p * r * r = p * (r * r) := Int.mul_assoc _ _ _
  have e2 : p * s * s = p * (s * s) := Int.mul_assoc _ _ _
  have e3 : q * s * r = q * r * s := by rw [Int.mul_assoc, Int.mul_comm s r, ← Int.mul_assoc]
  rw [Int.sub_mul, Int.mul_neg, Int.add_mul, Int.mul_add, e1, e2, e3]
  omega
theorem back_im (p q r s : Int) : (p * r - q * s) * -s + (p * s + q * r) * r = q * (r * r + s * s) := by
  have e1 : q * r * r = q * (r * r) := Int.mul_assoc _ _ _
  have e2 : q * s * s = q * (s * s) := Int.mul_assoc _ _ _
  have e3 : p * s * r = p * r * s := by rw [Int.mul_assoc, Int.mul_comm s r, ← Int.mul_assoc]
  rw [Int.mul_neg, Int.sub_mul, Int.add_mul, Int.mul_add, e1, e2, e3]
  omega
theorem sq_zero {r s : Int} (h : r * r + s * s = 0) : r = 0 ∧ s = 0 := by
  have h1 := (sq_le (p := r) (B := r.natAbs) (Nat.le_refl _)).1
  have h2 := (sq_le (p := s) (B := s.natAbs) (Nat.le_refl _)).1
  refine ⟨?_, ?_⟩
  · rcases Int.mul_eq_zero.1 (show r * r = 0 by omega) with h | h <;> exact h
  · rcases Int.mul_eq_zero.1 (show s * s = 0 by omega) with h | h <;> exact h
theorem ofI {n : Int} (h : n.natAbs < 16777216) : V .f32 (floatOfInt .f32 n) n ∧ (0 ≤ n → sgn FloatKind.f32.format (floatOfInt .f32 n) = false) := V.ofInt (by rw [bin32]; exact h)
theorem wrap_in {n : Int} (h1 : -9000000000000000000 ≤ n) (h2 : n ≤ 9000000000000000000) : wrap64 n = n := by unfold wrap64; omega

set_option maxHeartbeats 16000000 in
theorem walk (a0 : Option Addr) (n0 c0 : Nat) (a1 : Option Addr) (n1 c1 : Nat) (w : World) (h0 : n0 ≤ maxLen ∧ ∃ X, RowB w a0 X n0) (h1 : n1 ≤ maxLen ∧ ∃ X, RowB w a1 X n1) (hg : Got3 w) :
    Calls Tryz.prog 3 #[.slice a0 n0 c0, .slice a1 n1 c1] w fun e w' => e = .returned (.bool true) ∧ Below w.heap.size w w' := by
  obtain ⟨hm0, X0, hr0⟩ := h0
  obtain ⟨hm1, X1, hr1⟩ := h1
  unfold maxLen at hm0 hm1
  have HR0 := Lib.hid hr0
  have HR1 := Lib.hid hr1
  have HG := Lib.hid hg
  have hlong := fun W => b10Long_any a0 a1 n0 c0 n1 c1 W
  clear hr0 hr1 hg
  cases hl : (decide (1048576 < n0) || decide (1048576 < n1))
  case true =>
    rw [hl] at hlong
    have HL := Lib.hid hlong
    clear hlong hl
    go_enter Tryz.func3, Tryz.ntmps3
    go_wp2_with fail
    refine (HL.out _).mono ?_
    rintro e w' ⟨rfl, rfl⟩
    go_wp2
    go_ret
    exact ⟨rfl, Below.refl _ _⟩
  rw [hl] at hlong
  have HL := Lib.hid hlong
  have hn0 : n0 ≤ 1048576 := by simp at hl; omega
  have hn1 : n1 ≤ 1048576 := by simp at hl; omega
  clear hlong hl
  go_enter Tryz.func3, Tryz.ntmps3
  go_wp2_with fail
  refine (HL.out _).mono ?_
  rintro e w' ⟨rfl, rfl⟩
  go_wp2_with fail
  refine (b10Whole_any a0 n0 c0 _ hn0 HR0.out.code).mono ?_
  rintro e w1 ⟨g1, d1, ar, ai, p, q, rfl, cell1, vp, vq, hp, hq, b1⟩
  have B1 := Lib.hid b1
  have VP := Lib.hid vp
  have VQ := Lib.hid vq
  clear b1 vp vq
  go_wp2_with fail
  refine (b10Whole_any a1 n1 c1 _ hn1 (HR1.out.below B1.out).code).mono ?_
  rintro e w2 ⟨g2, d2, br, bi, r, s, rfl, cell2, vr, vs, hr, hs, b2⟩
  have B2 := Lib.hid (B1.out.trans (b2.mono B1.out.size))
  have VR := Lib.hid vr
  have VS := Lib.hid vs
  clear b2 vr vs cell1
  obtain ⟨l1, u1, t1⟩ := mul_bd hp hr
  obtain ⟨l2, u2, t2⟩ := mul_bd hq hs
  obtain ⟨l3, u3, t3⟩ := mul_bd hp hs
  obtain ⟨l4, u4, t4⟩ := mul_bd hq hr
  obtain ⟨l5, u5, t5⟩ := mul_bd hp hp
  obtain ⟨l6, u6, t6⟩ := mul_bd hq hq
  obtain ⟨l7, u7, t7⟩ := mul_bd hr hr
  obtain ⟨l8, u8, t8⟩ := mul_bd hs hs
  have HM := Lib.hid (fun W => mulComplex_any ar ai br bi p q r s W VP.out VQ.out VR.out VS.out (by omega) (by omega) (by omega) (by omega) (by omega) (by omega) (by omega) (by omega) (by omega) (by omega))
  have HM2 := Lib.hid (fun W => mulComplex_any br bi ar ai r s p q W VR.out VS.out VP.out VQ.out (by omega) (by omega) (by omega) (by omega) (by rw [Int.mul_comm]; omega) (by rw [Int.mul_comm]; omega) (by rw [Int.mul_comm]; omega) (by rw [Int.mul_comm]; omega) (by rw [Int.mul_comm r p, Int.mul_comm s q]; omega) (by rw [Int.mul_comm r q, Int.mul_comm s p]; omega))
  have HPw := Lib.hid (fun W => powerOf_any ar ai p q W VP.out VQ.out (by omega) (by omega))
  have VNQ := Lib.hid (V.neg VQ.out (by rw [bin32]; omega))
  have HM3 := Lib.hid (fun W => mulComplex_any ar ai ar (Op.negFloat .f32 ai) p q p (-q) W VP.out VQ.out VP.out VNQ.out (by omega) (by omega) (by omega) (by omega) (by omega) (by rw [Int.mul_neg]; omega) (by rw [Int.mul_neg, Int.natAbs_neg, Int.natAbs_mul]; have := Nat.mul_le_mul hp hq; omega) (by rw [Int.natAbs_mul]; have := Nat.mul_le_mul hq hp; omega) (by rw [Int.mul_neg]; omega) (by rw [Int.mul_neg, Int.mul_comm q p]; omega))
  obtain ⟨vx, _⟩ := ofI (n := p * r - q * s) (by omega)
  obtain ⟨vy, _⟩ := ofI (n := p * s + q * r) (by omega)
  obtain ⟨vw, sw⟩ := ofI (n := p * p + q * q) (by omega)
  have VX := Lib.hid vx
  have VY := Lib.hid vy
  have VW := Lib.hid vw
  have sq1 := (sq_le (p := p) (B := 200) hp).1
  have sq2 := (sq_le (p := q) (B := 200) hq).1
  have HLo := Lib.hid (fun W => longOf_any ar ai p q (floatOfInt .f32 (p * p + q * q)) W VP.out VQ.out (by omega) (by omega) vw (sw (by omega)))
  have fp := fun w => run_convert_float_int (P := Tryz.prog) w 28 2 .f32 .i64 ar p (by kernel_rfl) Tryz.underlying2 (V.toInt VP.out (by omega))
  have fq := fun w => run_convert_float_int (P := Tryz.prog) w 28 2 .f32 .i64 ai q (by kernel_rfl) Tryz.underlying2 (V.toInt VQ.out (by omega))
  have fr := fun w => run_convert_float_int (P := Tryz.prog) w 28 2 .f32 .i64 br r (by kernel_rfl) Tryz.underlying2 (V.toInt VR.out (by omega))
  have fs := fun w => run_convert_float_int (P := Tryz.prog) w 28 2 .f32 .i64 bi s (by kernel_rfl) Tryz.underlying2 (V.toInt VS.out (by omega))
  have T1 := Lib.hid (And.intro t1 (And.intro t2 (And.intro t3 t4)))
  clear vx vy vw sw t1 t2 t3 t4 t5 t6 t7 t8
  go_wp2_with fail
  refine (HM.out _).mono ?_
  rintro e w3 ⟨u, v, rfl, hu, hv, hd3⟩
  have VU := Lib.hid hu
  have VV := Lib.hid hv
  have B3 := Lib.hid (B2.out.trans (hd3.below.mono B2.out.size))
  clear hu hv hd3
  have e1 := wrap_in (n := p * r) (by omega) (by omega)
  have e2 := wrap_in (n := q * s) (by omega) (by omega)
  have e3 := wrap_in (n := p * s) (by omega) (by omega)
  have e4 := wrap_in (n := q * r) (by omega) (by omega)
  have e5 := wrap_in (n := p * p) (by omega) (by omega)
  have e6 := wrap_in (n := q * q) (by omega) (by omega)
  have e7 := wrap_in (n := p * r - q * s) (by omega) (by omega)
  have e8 := wrap_in (n := p * s + q * r) (by omega) (by omega)
  have e9 := wrap_in (n := p * p + q * q) (by omega) (by omega)
  have k1 : (ford .f32 (cls .f32 u) (cls .f32 (floatOfInt .f32 (p * r - q * s))) == some .eq) = true := by rw [V.cmp VU.out VX.out]; simp
  have k2 : (ford .f32 (cls .f32 v) (cls .f32 (floatOfInt .f32 (p * s + q * r))) == some .eq) = true := by rw [V.cmp VV.out VY.out]; simp
  go_wp2_with fail
  refine (HM2.out _).mono ?_
  rintro e w4 ⟨u2', v2', rfl, hu2, hv2, hd4⟩
  have B4 := Lib.hid (B3.out.trans (hd4.below.mono B3.out.size))
  rw [Int.mul_comm r p, Int.mul_comm s q] at hu2
  rw [show r * q + s * p = p * s + q * r by rw [Int.mul_comm r q, Int.mul_comm s p]; omega] at hv2
  have k3 : (ford .f32 (cls .f32 u2') (cls .f32 u) == some .eq) = true := by rw [V.cmp hu2 VU.out]; simp
  have k4 : (ford .f32 (cls .f32 v2') (cls .f32 v) == some .eq) = true := by rw [V.cmp hv2 VV.out]; simp
  clear hu2 hv2 hd4
  go_wp2_with fail
  refine (HPw.out _).mono ?_
  rintro e w5 ⟨z, rfl, hz, hd5⟩
  have B5 := Lib.hid (B4.out.trans (hd5.below.mono B4.out.size))
  have k5 : (ford .f32 (cls .f32 z) (cls .f32 (floatOfInt .f32 (p * p + q * q))) != some .eq) = false := by unfold bne; rw [V.cmp hz VW.out]; simp
  clear hz hd5
  go_wp2_with fail
  refine (conjugateOf_any ar ai _).mono ?_
  rintro e w' ⟨rfl, rfl⟩
  go_wp2_with fail
  refine (HM3.out _).mono ?_
  rintro e w6 ⟨y1, y2, rfl, hy1, hy2, hd6⟩
  have B6 := Lib.hid (B5.out.trans (hd6.below.mono B5.out.size))
  rw [show p * p - q * -q = p * p + q * q by rw [Int.mul_neg]; omega] at hy1
  rw [show p * -q + q * p = 0 by rw [Int.mul_neg, Int.mul_comm q p]; omega] at hy2
  have k6 : (ford .f32 (cls .f32 y1) (cls .f32 (floatOfInt .f32 (p * p + q * q))) == some .eq) = true := by rw [V.cmp hy1 VW.out]; simp
  have k7 : (ford .f32 (cls .f32 y2) (cls .f32 0) == some .eq) = true := by rw [V.cmp hy2 zero_V]; simp
  clear hy1 hy2 hd6
  go_wp2_with fail
  refine (HLo.out _).mono ?_
  rintro e w7 ⟨lo, rfl, hlo, hd7⟩
  have B7 := Lib.hid (B6.out.trans (hd7.below.mono B6.out.size))
  have HLC := Lib.hid hlo
  clear hlo hd7
  go_wp2_with fail
  refine (spec_root (floatOfInt .f32 (p * p + q * q)) _).mono ?_
  rintro e w8 ⟨τ, nn, rfl, rfl⟩
  have B8 := Lib.hid (B7.out.trans ((below_drewN' w7 nn).mono B7.out.size))
  go_wp2_with fail
  refine (sSame_yes lo _ (rootC (cls .f32 (floatOfInt .f32 (p * p + q * q)))) _ (wfc_fconv' _ _ _ (nn_fsqrt _)) HLC.out (cls_rep' (nn_rootC _) _)).mono ?_
  rintro e w' ⟨rfl, rfl⟩
  have hb1 := V.cmp VR.out zero_V
  have hb2 := V.cmp VS.out zero_V
  have HQt := Lib.hid (fun (hne : r * r + s * s ≠ 0) W => quotientOf_any u v br bi (p * r - q * s) (p * s + q * r) r s p q W VU.out VV.out VR.out VS.out (by omega) (by omega) (by omega) (by omega) (by omega) (by omega) hne (back_re p q r s) (back_im p q r s))
  have HSc := Lib.hid (fun W => scaleComplex_any ar ai p q W VP.out VQ.out (by omega) (by omega))
  obtain ⟨dr, er, vdr, _⟩ := V.add VP.out VP.out (by rw [bin32]; omega)
  obtain ⟨di, ei, vdi, _⟩ := V.add VQ.out VQ.out (by rw [bin32]; omega)
  have VDR := Lib.hid vdr
  have VDI := Lib.hid vdi
  have hadd : ∀ W : World, (binOp .add 24 (.complex .f32 ar ai) (.complex .f32 ar ai)).run Tryz.prog W = .ok (.complex .f32 dr di) W := fun W => by
    rw [VP.out.cls] at er
    rw [VQ.out.cls] at ei
    refine run_complex_sum W .add (.inl rfl) _ .f32 ar ai ar ai dr di ?_
    unfold cSumBits
    have f1 : floatBits .add .f32 ar ar = some dr := er
    have f2 : floatBits .add .f32 ai ai = some di := ei
    rw [f1, f2]
    rfl
  clear er ei vdr vdi
  have hcase : (r = 0 ∧ s = 0) ∨ (r = 0 ∧ s ≠ 0) ∨ r ≠ 0 := by omega
  rcases hcase with ⟨z1, z2⟩ | ⟨z1, z2⟩ | z1
  case' inl =>
    rw [decide_eq_true z1] at hb1
    rw [decide_eq_true z2] at hb2
    clear z1 z2
    have B9 := Lib.hid B8.out
    go_wp2_with fail
    refine (HSc.out _).mono ?_
  case' inr.inl =>
    rw [decide_eq_true z1] at hb1
    rw [decide_eq_false z2] at hb2
    have hne : r * r + s * s ≠ 0 := fun h => z2 (sq_zero h).2
    clear z1 z2
    go_wp2_with fail
    refine (HQt.out hne _).mono ?_
    rintro e w9 ⟨x1, x2, rfl, hx1, hx2, hd9⟩
    have B9 := Lib.hid (B8.out.trans (hd9.below.mono B8.out.size))
    have k8 : (ford .f32 (cls .f32 x1) (cls .f32 ar) == some .eq) = true := by rw [V.cmp hx1 VP.out]; simp
    have k9 : (ford .f32 (cls .f32 x2) (cls .f32 ai) == some .eq) = true := by rw [V.cmp hx2 VQ.out]; simp
    clear hx1 hx2 hd9
    go_wp2_with fail
    refine (HSc.out _).mono ?_
  case' inr.inr =>
    rw [decide_eq_false z1] at hb1
    have hne : r * r + s * s ≠ 0 := fun h => z1 (sq_zero h).1
    clear z1 hb2
    go_wp2_with fail
    refine (HQt.out hne _).mono ?_
    rintro e w9 ⟨x1, x2, rfl, hx1, hx2, hd9⟩
    have B9 := Lib.hid (B8.out.trans (hd9.below.mono B8.out.size))
    have k8 : (ford .f32 (cls .f32 x1) (cls .f32 ar) == some .eq) = true := by rw [V.cmp hx1 VP.out]; simp
    have k9 : (ford .f32 (cls .f32 x2) (cls .f32 ai) == some .eq) = true := by rw [V.cmp hx2 VQ.out]; simp
    clear hx1 hx2 hd9
    go_wp2_with fail
    refine (HSc.out _).mono ?_
  all_goals
    rintro e wa ⟨s1, s2, rfl, hs1, hs2, hda⟩
    have B10 := Lib.hid (B9.out.trans (hda.below.mono B9.out.size))
    have k10 : (ford .f32 (cls .f32 s1) (cls .f32 dr) == some .eq) = true := by rw [V.cmp hs1 VDR.out]; exact decide_eq_true (by omega)
    have k11 : (ford .f32 (cls .f32 s2) (cls .f32 di) == some .eq) = true := by rw [V.cmp hs2 VDI.out]; exact decide_eq_true (by omega)
    clear hs1 hs2 hda
    go_wp2_with fail
    refine (b10At_any a0 n0 c0 _ 0 9 _ (by omega) (by omega) (by omega) (HR0.out.below B10.out).code).mono ?_
    rintro e w' ⟨N0, rfl, hN0, hN9, rfl⟩
    obtain ⟨N, rfl⟩ : ∃ N : Nat, N0 = (N : Int) := ⟨N0.toNat, by omega⟩
    have hN : N ≤ 8 := by omega
    clear hN0 hN9 k1 k2 k3 k4 k5 k6 k7 k10 k11 e1 e2 e3 e4 e5 e6 e7 e8 e9 l1 u1 l2 u2 l3 u3 l4 u4 l5 u5 l6 u6 l7 u7 l8 u8 fp fq fr fs hadd
    go_wp2_with fail
    refine (b10Any_any a1 n1 c1 N _ hn1 (by omega) (HR1.out.below B10.out).code).mono ?_
    rintro e wb ⟨A, c, f, g, rfl, ho, hf, b11⟩
    have HO := Lib.hid ho
    have HF := Lib.hid hf
    have B11 := Lib.hid (B10.out.trans (b11.mono B10.out.size))
    clear ho hf b11
    go_wp2_with fail
    refine (complexText_yes A f g N c _ HO.out.rowC HF.out (HG.out.below B11.out).2.1 (by omega)).mono ?_
    rintro e wc ⟨rfl, b12⟩
    have HO2 := Lib.hid (HO.out.below b12)
    have B12 := Lib.hid (B11.out.trans (b12.mono B11.out.size))
    have HBk := Lib.hid (fun W (h : Got3 W) => backC_any f g N W (by omega) HF.out h)
    clear b12
    generalize joinT (hcX f g) N = t at *
    go_wp2_with fail
    refine (HBk.out _ (HG.out.below B12.out)).mono ?_
    rintro e wd ⟨A2, c2, rfl, ho2, b13⟩
    have HQ := Lib.hid ho2
    have HO3 := Lib.hid (HO2.out.below b13)
    have B13 := Lib.hid (B12.out.trans (b13.mono B12.out.size))
    clear ho2 b13
    go_wp2_with fail
    refine (b10Number_any a0 n0 c0 _ hn0 (HR0.out.below B13.out).code).mono ?_
    rintro e we ⟨zz, rfl, hzz, b14⟩
    have HQ2 := Lib.hid (HQ.out.below b14)
    have HO4 := Lib.hid (HO3.out.below b14)
    have B14 := Lib.hid (B13.out.trans (b14.mono B13.out.size))
    clear b14
    have HBits := Lib.hid (fun W => show Calls Tryz.prog 21 #[.float .f32 zz] W fun e w' => e = .returned (.int .i64 (bitsN zz : Int)) ∧ W = w' by
      have := bitsOf_any zz W hzz; rw [bitsZ_nat] at this; exact this)
    go_wp2_with fail
    refine (HBits.out _).mono ?_
    rintro e w' ⟨rfl, rfl⟩
    go_wp2_with fail
    refine (fromBits_yes (bitsN zz) _ (bitsN_lt hzz)).mono ?_
    rintro e w' ⟨rfl, rfl⟩
    go_wp2_with fail
    refine (b10Complex_any a0 n0 c0 _ hn0 (HR0.out.below B14.out).code).mono ?_
    rintro e wf ⟨x, y, rfl, hx, hy, b15⟩
    have HQ3 := Lib.hid (HQ2.out.below b15)
    have HO5 := Lib.hid (HO4.out.below b15)
    have B15 := Lib.hid (B14.out.trans (b15.mono B14.out.size))
    clear b15
    go_wp2_with (first | (refine wpList_conv rfl _ _ (.tmp 162) rfl .f32 .f64 _ rfl (by decide) (by kernel_rfl) Tryz.underlying46 (noOver_widen _) ?_; intro τ1 j1) | (refine wpList_conv rfl _ _ (.tmp 165) rfl .f32 .f64 _ rfl (by decide) (by kernel_rfl) Tryz.underlying46 (noOver_widen _) ?_; intro τ2 j2))
    have B16 := Lib.hid (B15.out.trans ((below_drewN' wf (j1 + j2)).mono B15.out.size))
    have HQ4 := Lib.hid (HQ3.out.below (below_drewN' wf (j1 + j2)))
    have HO6 := Lib.hid (HO5.out.below (below_drewN' wf (j1 + j2)))
    refine (b10Same_any A2 A (fun i => bitsN (f i)) (fun i => bitsN (g i)) f g N c2 c _ _ _ _ _ HQ4.out HO6.out (fun i _ => ⟨cls_bitsN (f i), cls_bitsN (g i)⟩) HF.out (by omega)).mono ?_
    rintro e wg ⟨rfl, hd17⟩
    have B17 := Lib.hid (B16.out.trans (hd17.below.mono B16.out.size))
    clear hd17
    go_wp2_with fail
    refine (sSame_yes (bitsN zz) zz (cls .f32 zz) _ (wfc_cls hzz) (cls_bitsN zz) rfl).mono ?_
    rintro e w' ⟨rfl, rfl⟩
    go_wp2_with fail
    refine (narrowComplex_any _ _ _ (narrow_noOver x τ1) (narrow_noOver y τ2)).mono ?_
    rintro e wh ⟨x', y', rfl, hx', hy', lx', ly', hd18⟩
    have B18 := Lib.hid (B17.out.trans (hd18.below.mono B17.out.size))
    have HSC := Lib.hid (fun W => sameComplexI_yes x' y' x y W (hx'.trans (by rw [cls_rep' (nn_fconv _ _ _ (nn_cls _ _)), narrow_wide hx])) (hy'.trans (by rw [cls_rep' (nn_fconv _ _ _ (nn_cls _ _)), narrow_wide hy])) lx' ly' hx hy)
    clear hd18 hx' hy'
    go_wp2_with fail
    refine (HSC.out _).mono ?_
    rintro e wi ⟨rfl, hd19⟩
    have B19 := Lib.hid (B18.out.trans (hd19.below.mono B18.out.size))
    clear hd19
    go_wp2_with fail
    refine (conjugateOf_any x y _).mono ?_
    rintro e w' ⟨rfl, rfl⟩
    go_wp2_with fail
    refine (conjugateOf_any x (Op.negFloat .f32 y) _).mono ?_
    rintro e w' ⟨rfl, rfl⟩
    have HSD := Lib.hid (fun W => sameComplexI_yes x (Op.negFloat .f32 (Op.negFloat .f32 y)) x y W rfl (fneg_twice hy) hx (neg_lt (k := .f32) (neg_lt (k := .f32) hy)) hx hy)
    go_wp2_with fail
    refine (HSD.out _).mono ?_
    rintro e wj ⟨rfl, hd20⟩
    have B20 := Lib.hid (B19.out.trans (hd20.below.mono B19.out.size))
    clear hd20
    have HI := Lib.hid (fun W => isFiniteComplex_any x y W)
    have HFx := Lib.hid (fun W => sIsFinite_any x W)
    have HFy := Lib.hid (fun W => sIsFinite_any y W)
    generalize finB (cls .f32 x) = fx at *
    generalize finB (cls .f32 y) = fy at *
    cases fx
    · go_wp2_with fail
      refine (HI.out _).mono ?_
      rintro e wk ⟨rfl, hd21⟩
      have B21 := Lib.hid (B20.out.trans (hd21.below.mono B20.out.size))
      clear hd21
      go_wp2_with fail
      refine (HFx.out _).mono ?_
      rintro e w' ⟨m1, rfl, rfl⟩
      go_wp2
      go_ret
      exact ⟨rfl, B21.out.trans ((below_drewN' _ _).mono B21.out.size)⟩
    · go_wp2_with fail
      refine (HI.out _).mono ?_
      rintro e wk ⟨rfl, hd21⟩
      have B21 := Lib.hid (B20.out.trans (hd21.below.mono B20.out.size))
      clear hd21
      go_wp2_with fail
      refine (HFx.out _).mono ?_
      rintro e w' ⟨m1, rfl, rfl⟩
      go_wp2_with fail
      refine (HFy.out _).mono ?_
      rintro e w' ⟨m2, rfl, rfl⟩
      cases fy
      all_goals
        go_wp2
        go_ret
        exact ⟨rfl, B21.out.trans ((below_drewN' _ _).mono B21.out.size)⟩

set_option maxRecDepth 100000 in
theorem lifted (os : Os) (started : os.Started) (H : Type) (enc : TypeId × Value → H) :
    ReturnsInHanded {} Tryz.checked os 3 .any (fun w args => (Rows.fnProductsSpec.pre enc Tryz.prog Tryz.f3 [] false w args ∧ laidMetH Tryz.prog Rows.fnProductsRow.laid w) ∧ sizedMet enc Tryz.prog Tryz.f3 (OpenSpec.ofChange Rows.fnProductsSpec) false w args) (Rows.fnProductsSpec.post enc Tryz.prog Tryz.f3 false true false false) := by
  refine handed_shaped (C := Tryz.checked) (X := fun w _ => laidMetH Tryz.prog Rows.fnProductsRow.laid w) (fun _ _ _ hh h => h.of_heap hh) own started (by kernel_rfl) Tryz.func3
    (ChangeSpec.witness_shaped (enc := enc) (C := Tryz.checked) (os := os) (X := fun w _ => laidMetH Tryz.prog Rows.fnProductsRow.laid w) false (World.laidAll Tryz.prog os Rows.fnProductsRow.laid) #[.slice none 0 0, .slice none 0 0] 8 (World.laidAll_os _ _ _) (World.shaped_of_ZipB (by kernel_rfl) (by kernel_rfl)) (by kernel_rfl) (by kernel_rfl) (by kernel_rfl) (by rw [MakeChecks.laidMetH_plain _ _ _ (by kernel_rfl)]; exact laidMet_laidAll _ (by kernel_rfl) (by kernel_rfl))) ?_
  intro W base args ds gs before hval0 hW _ _ hL hSh _
  have hval : ∀ (j : Nat) t v, Tryz.f3.params[j]? = some t → args[j]? = some v → Value.okWide Tryz.prog W .any base t v := hval0
  have hW' := hW
  obtain ⟨p, q, hA0, hV, rfl, hfz, hnd⟩ := hW
  have hA : DataW.TrodAll enc Tryz.prog W 0 (fun _ => true) true Tryz.f3.params.toList args.toList ds p := hA0
  rw [Tryz.params3] at hA hval
  obtain ⟨v0, vs0, d0, ds0, p0, q0, hargs, rfl, rfl, h0, r0⟩ := trodAll_cons hA
  obtain ⟨v1, vs1, d1, ds1, p1, q1, rfl, rfl, rfl, h1, r1⟩ := trodAll_cons r0
  obtain ⟨rfl, rfl, rfl⟩ := trodAll_nil r1
  obtain rfl : args = #[v0, v1] := by cases args; simp_all
  obtain ⟨rfl, rfl⟩ := trodVars_none hV
  have k0 := h0
  have lt0 : ∀ x ∈ p0, x.block < W.heap.size := by obtain ⟨m, hm⟩ := k0; exact DataW.trod_lt m _ _ _ hm
  obtain ⟨a0, n0, c0, rfl⟩ := okWide_slice Tryz.underlying22 (hval 0 22 v0 rfl rfl)
  have w0 := slice_opened5 h0
  have k1 := h1
  have lt1 : ∀ x ∈ p1, x.block < W.heap.size := by obtain ⟨m, hm⟩ := k1; exact DataW.trod_lt m _ _ _ hm
  obtain ⟨a1, n1, c1, rfl⟩ := okWide_slice Tryz.underlying22 (hval 1 22 v1 rfl rfl)
  have w1 := slice_opened5 h1
  clear hA0 hval0
  refine (walk a0 n0 c0 a1 n1 c1 W w0 w1 (of_laid hL hSh)).mono fun e W' ⟨he, bel⟩ => ?_
  subst he
  exact ⟨_, rfl, _, _, _, [], _, [], hW', trodAll_mk1 (shut_bool Tryz.underlying4 _), (trodAll_cons_mk (Below.trod laidOut (by kernel_rfl) (of_decide_eq_true (by kernel_rfl)) k0 bel lt0) (trodAll_cons_mk (Below.trod laidOut (by kernel_rfl) (of_decide_eq_true (by kernel_rfl)) k1 bel lt1) trodAll_mk0)), rfl, bel.frame _, fun h => by cases h⟩

theorem over : Rows.fnProductsRow.holds Tryz.pinned (OpenSpec.ofChange Rows.fnProductsSpec) :=
  OpenClaim.holds_of_wide 3 Tryz.f3 rfl rfl rfl rfl rfl rfl rfl ⟨rfl, rfl, rfl, rfl, rfl⟩ rfl rfl rfl rfl rfl (by kernel_rfl) Tryz.func3 (by kernel_rfl)
    (of_decide_eq_true (by kernel_rfl)) (by unfold Func.isWrapper; first | (rw [if_pos (by decide +kernel)]; kernel_rfl) | (rw [if_neg (by decide +kernel)]; exact ⟨rfl, rfl⟩))
    (fun os started H enc _ => lifted os started H enc)

/-- the card -/
theorem proved : Rows.FnProductsCardSaid :=
  Claim7.holds_tied_plain_at .later [] [.data, .data, .data, .data, .sentinel, .sentinel, .pinned] true Rows.fnProductsCard.stood.harness true
    over (fun _ h => by cases h) (by kernel_rfl) (fun _ h => by cases h) fnProducts_row_tie rfl ⟨rfl, rfl⟩ (by kernel_rfl) rfl
    (fun f fn hf hfn => by
      obtain rfl : f = 3 := Option.some.inj ((show Tryz.prog.funcNamed Rows.fnProductsRow.func = some 3 by kernel_rfl).symm.trans hf) |>.symm
      obtain rfl : fn = Tryz.f3 := (Option.some.inj (Tryz.func3.symm.trans hfn)).symm
      exact ⟨by kernel_rfl, fun j t ht => by
        rw [Tryz.params3] at ht
        have hm : t ∈ [22, 22] := by simpa using Array.mem_of_getElem? ht
        have hall : ([22, 22].all fun u => !Tryz.prog.wantsStandIn u) = true := by kernel_rfl
        exact (show Tryz.prog.wantsStandIn t = false by simpa using List.all_eq_true.1 hall t hm)⟩)
    (by kernel_rfl)
end Go.Proofs.YtmpeogpmlgnmfaaGreatDoor.FnProducts
