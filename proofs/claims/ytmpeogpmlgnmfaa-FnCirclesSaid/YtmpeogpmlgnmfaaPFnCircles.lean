/- FnCircles: for every two lists of bytes the law returns true. -/
import Derived.Test.YtmpeogpmlgnmfaaCirT
namespace Go.Proofs.Ytmpeogpmlgnmfaa.FnCircles
open Go.ChangeShapes Go.WideShapes Go.ChangeAt Go.RowKit Go.Deep Flt

theorem turn_word {s : Nat} {a : Int} (hs : s < 511) (ha : a = (s : Int) - 256) (τ : Tp .f64) : rep .f64 (fop .quo .f64 (cls .f64 (Go.floatOfInt .f64 a)) (cls .f64 4634204016564240384)) τ = cirB s := by
  subst ha
  have := (cir_turn s hs).1
  unfold cirW at this
  rw [this, rep_some]
/-- a phasor of the table came back -/
def PhaE (k : Nat) (w w' : World) (e : Ending) : Prop := e = .returned (.complex .f32 (reT k) (imT k)) ∧ Drew w w'
theorem pha_s {s k : Nat} (hs : s < 511) (hk : s % 64 = k) (w : World) : Calls Try.prog 16 #[.float .f64 (cirB s)] w fun e w' => PhaE k w w' e :=
  (phaI (cirB s) w (cir_turn s hs).2.2.2.1).mono fun e w' ⟨re, im, he, hp, hd⟩ => by
    obtain ⟨h1, h2⟩ := pha_at hs hp
    rw [h1, h2, hk] at he
    exact ⟨he, hd⟩
theorem ang_k {k : Nat} (hk : k < 64) (w : World) : Calls Try.prog 17 #[.complex .f32 (reT k) (imT k)] w fun e w' => e = .returned (.float .f32 (cirA k)) ∧ Drew w w' :=
  (angleOf_any (reT k) (imT k) w).mono fun e w' ⟨r, he, hr, hd⟩ => by
    rw [cir_ang k hk] at hr
    rw [(cls_some hr).1.symm] at he
    exact ⟨he, hd⟩
theorem ang_unit (w : World) : Calls Try.prog 17 #[.complex .f32 0 1065353216] w fun e w' => e = .returned (.float .f32 1048576000) ∧ Drew w w' :=
  (angleOf_any 0 1065353216 w).mono fun e w' ⟨r, he, hr, hd⟩ => by
    rw [cir_unit] at hr
    rw [(cls_some hr).1.symm] at he
    exact ⟨he, hd⟩
theorem ten_unit (w : World) : Calls Try.prog 22 #[.float .f32 1065353216] w fun e w' => e = .returned (.tuple #[.int .i64 0, .bool true]) ∧ Drew w w' :=
  (tenI 1065353216 w (by decide)).mono fun e w' ⟨he, hd⟩ => by
    rw [ten_one.1, ten_one.2] at he
    exact ⟨he, hd⟩

theorem pow_fin : ∀ k : Nat, k < 64 → cls .f32 (powT k) = some (powT k) := by decide +kernel
set_option maxRecDepth 100000 in
set_option maxHeartbeats 4000000 in
theorem walk (a : Option Addr) (n c : Nat) (b : Option Addr) (m d : Nat) (w : World) (h0 : n ≤ maxLen ∧ ∃ X, RowB w a X n ∧ Lt8 X n) (h1 : m ≤ maxLen ∧ ∃ X, RowB w b X m ∧ Lt8 X m) :
    Calls Try.prog 4 #[.slice a n c, .slice b m d] w fun e w' => e = .returned (.bool true) ∧ Below w.heap.size w w' := by
  obtain ⟨_, X, hX, lX⟩ := h0
  obtain ⟨_, Y, hY, lY⟩ := h1
  cases hl : (decide ((n : Int) > 1048576) || decide ((m : Int) > 1048576))
  case true =>
    go_enter Try.func4, Try.ntmps4
    go_wp2_with fail
    refine (b10Long_any _ _ _ _ _ _ _).mono ?_
    rintro e w1 ⟨rfl, rfl⟩
    go_wp2
    go_ret
    exact ⟨rfl, Below.refl _ _⟩
  have HAt := Lib.hid (fun (i : Int) W (h1 : 0 ≤ i) (h2 : i ≤ 1000) (h : Drew w W) => b10At_any a X n c i 256 W (hX.drew h) lX h1 h2 (by omega) (by omega))
  have HBt := Lib.hid (fun (i : Int) W (h1 : 0 ≤ i) (h2 : i ≤ 1000) (h : Drew w W) => b10At_any b Y m d i 200 W (hY.drew h) lY h1 h2 (by omega) (by omega))
  clear hX hY lX lY
  have HD := Lib.hid (Drew.refl w)
  go_enter Try.func4, Try.ntmps4
  go_wp2_with fail
  refine (b10Long_any _ _ _ _ _ _ _).mono ?_
  rintro e w1 ⟨rfl, rfl⟩
  go_wp2_with fail
  refine (HAt.out 0 _ (by decide) (by decide) (by repeat (first | exact HD.out | refine Drew.drewN ?_ _ | refine Drew.drew ?_))).mono ?_
  rintro e w1 ⟨i, hi, rfl, rfl⟩
  have hi0 : 0 ≤ (i : Int) := by omega
  go_wp2_with fail
  refine (HAt.out 1 _ (by decide) (by decide) (by repeat (first | exact HD.out | refine Drew.drewN ?_ _ | refine Drew.drew ?_))).mono ?_
  rintro e w1 ⟨j, hj, rfl, rfl⟩
  have hj0 : 0 ≤ (j : Int) := by omega
  have hi' : i < 256 := by omega
  have hj' : j < 256 := by omega
  have hk : i % 64 < 64 := Nat.mod_lt _ (by omega)
  have hq : j % 64 < 64 := Nat.mod_lt _ (by omega)
  have Hp := Lib.hid (fun W => pha_s (s := i + 128) (k := i % 64) (by omega) (by omega) W)
  have Hq := Lib.hid (fun W => pha_s (s := j + 128) (k := j % 64) (by omega) (by omega) W)
  have Hr := Lib.hid (fun W => pha_s (s := i + j) (k := (i + j) % 64) (by omega) rfl W)
  have Wp := Lib.hid (fun τ => turn_word (s := i + 128) (a := (i : Int) - 128) (by omega) (by omega) τ)
  have Wq := Lib.hid (fun τ => turn_word (s := j + 128) (a := (j : Int) - 128) (by omega) (by omega) τ)
  have Wr := Lib.hid (fun τ => turn_word (s := i + j) (a := (i : Int) - 128 + ((j : Int) - 128)) (by omega) (by omega) τ)
  have HAn := Lib.hid (fun W => ang_k hk W)
  have HPw := Lib.hid (fun W => powerOf_at (i % 64) hk W)
  have HMl := Lib.hid (fun W => mul_at (i % 64) (j % 64) hk hq W)
  have CA := Lib.hid (cir_angD _ hk)
  have CF := Lib.hid (cir_fin _ hk)
  have CW := Lib.hid (cir_whole i hi')
  have CP := Lib.hid (cir_pow _ hk)
  have CX := Lib.hid (cir_axis i hi')
  clear hk hq hi' hj'
  go_wp2_with (first | (refine wpList_fop rfl .quo _ _ _ _ rfl rfl .f64 _ _ rfl rfl ?_; intro τ q; rw [Wp.out τ]))
  refine (Hp.out _).mono ?_
  rintro e w1 ⟨rfl, hd⟩
  have HD := Lib.hid (show Drew w w1 by refine Drew.trans ?_ hd; repeat (first | exact HD.out | refine Drew.drewN ?_ _ | refine Drew.drew ?_))
  clear hd
  go_wp2_with (first | (refine wpList_fop rfl .quo _ _ _ _ rfl rfl .f64 _ _ rfl rfl ?_; intro τ q; rw [Wq.out τ]))
  refine (Hq.out _).mono ?_
  rintro e w2 ⟨rfl, hd⟩
  have HD := Lib.hid (show Drew w w2 by refine Drew.trans ?_ hd; repeat (first | exact HD.out | refine Drew.drewN ?_ _ | refine Drew.drew ?_))
  clear hd
  go_wp2_with (first | (refine wpList_fop rfl .quo _ _ _ _ rfl rfl .f64 _ _ rfl rfl ?_; intro τ q; rw [Wr.out τ]))
  refine (Hr.out _).mono ?_
  rintro e w3 ⟨rfl, hd⟩
  have HD := Lib.hid (show Drew w w3 by refine Drew.trans ?_ hd; repeat (first | exact HD.out | refine Drew.drewN ?_ _ | refine Drew.drew ?_))
  clear hd
  obtain ⟨c1, c2, c3, c4, c5, c6, c7⟩ := CW.out
  have C1 := Lib.hid c1
  have C2 := Lib.hid c2
  have C7 := Lib.hid c7
  have hcv := fun w => run_convert_float_int (P := Try.prog) w 39 2 .f64 .i64 (plusD i) (wholeD i) (by kernel_rfl) Try.underlying2 c3
  have hcA : ∀ τ, rep .f64 (fconv .f32 .f64 (cls .f32 (cirA (i % 64)))) τ = conv .f32 .f64 (cirA (i % 64)) := fun τ => by rw [CF.out.2.2]; rfl
  have HcA := Lib.hid hcA
  have HcP := Lib.hid (show ∀ τ, rep .f64 (fconv .f32 .f64 (cls .f32 (powT (i % 64)))) τ = conv .f32 .f64 (powT (i % 64)) from fun τ => by rw [pow_fin _ (Nat.mod_lt _ (by omega))]; rfl)
  have HcR := Lib.hid (show ∀ τ, rep .f64 (fconv .f32 .f64 (cls .f32 (reT (i % 64)))) τ = conv .f32 .f64 (reT (i % 64)) from fun τ => by rw [CF.out.1]; rfl)
  have P6 := Lib.hid CP.out.2.2.2.2.2
  clear c1 c2 c3 c7 hcA CW CP CF
  generalize hW : wholeD i = W0 at *
  go_wp2_with fail
  refine (HAn.out _).mono ?_
  rintro e w4 ⟨rfl, hd⟩
  have HD := Lib.hid (show Drew w w4 by refine Drew.trans ?_ hd; repeat (first | exact HD.out | refine Drew.drewN ?_ _ | refine Drew.drew ?_))
  clear hd
  go_wp2_with (first | (refine wpList_conv rfl _ _ _ rfl .f32 .f64 _ rfl (by decide) (by kernel_rfl) Try.underlying39 (noOver_widen _) ?_; intro τ q; rw [HcA.out τ]) | (refine wpList_fop rfl .mul _ _ _ _ rfl rfl .f64 _ _ rfl rfl ?_; intro τ q; rw [CA.out, rep_some]) | (refine wpList_fop rfl .sub _ _ _ _ rfl rfl .f64 _ _ rfl rfl ?_; intro τ q; rw [C1.out, rep_some]) | (refine wpList_fop rfl .add _ _ _ _ rfl rfl .f64 _ _ rfl rfl ?_; intro τ q; rw [C2.out, rep_some]))
  refine (HPw.out _).mono ?_
  rintro e w5 ⟨rfl, hd⟩
  have HD := Lib.hid (show Drew w w5 by refine Drew.trans ?_ hd; repeat (first | exact HD.out | refine Drew.drewN ?_ _ | refine Drew.drew ?_))
  clear hd
  go_wp2_with (first | (refine wpList_conv rfl _ _ _ rfl .f32 .f64 _ rfl (by decide) (by kernel_rfl) Try.underlying39 (noOver_widen _) ?_; intro τ q; rw [HcP.out τ]))
  refine (b10Gap_any _ _ _).mono ?_
  rintro e w6 ⟨r1, rfl, hr, hd⟩
  have t1 : (ford .f64 (cls .f64 r1) (cls .f64 4547007122018943789) == some .gt) = false := by
    rw [hr]
    exact P6.out
  have HD := Lib.hid (show Drew w w6 by refine Drew.trans ?_ hd; repeat (first | exact HD.out | refine Drew.drewN ?_ _ | refine Drew.drew ?_))
  clear hd hr
  go_wp2_with fail
  refine (HMl.out _).mono ?_
  rintro e w7 ⟨u, v, rfl, near1, near2, hd⟩
  have HD := Lib.hid (show Drew w w7 by refine Drew.trans ?_ hd; repeat (first | exact HD.out | refine Drew.drewN ?_ _ | refine Drew.drew ?_))
  rw [← Nat.add_mod] at near1 near2
  have N1 := Lib.hid near1
  have N2 := Lib.hid near2
  clear hd near1 near2
  go_wp2_with fail
  refine (b10Near_true _ _ _ _ _ _ N1.out N2.out).mono ?_
  rintro e w8 ⟨rfl, hd⟩
  have HD := Lib.hid (show Drew w w8 by refine Drew.trans ?_ hd; repeat (first | exact HD.out | refine Drew.drewN ?_ _ | refine Drew.drew ?_))
  clear hd
  go_wp2_with fail
  refine (b10Gap_any _ _ _).mono ?_
  rintro e w9 ⟨r2, rfl, hr, hd⟩
  have t2 : (ford .f64 (cls .f64 r2) (cls .f64 4562254508917369340) == some .gt) = false := by
    rw [hr]
    exact C7.out
  have HD := Lib.hid (show Drew w w9 by refine Drew.trans ?_ hd; repeat (first | exact HD.out | refine Drew.drewN ?_ _ | refine Drew.drew ?_))
  clear hd hr
  by_cases h16 : ((i : Int) - 128).tmod 16 = 0
  · have X1 := Lib.hid (CX.out h16)
    go_wp2_with (first | (refine wpList_conv_g rfl _ _ _ rfl .f32 .f64 _ rfl (by decide) (by kernel_rfl) Try.underlying39 (noOver_widen _) ?_; intro τ q; rw [HcR.out τ]) | (refine wpList_conv rfl _ _ _ rfl .f32 .f64 _ rfl (by decide) (by kernel_rfl) Try.underlying39 (noOver_widen _) ?_; intro τ q; rw [HcR.out τ]))
    refine (b10Gap_any _ _ _).mono ?_
    rintro e wH ⟨r3, rfl, hr, hd⟩
    have HD := Lib.hid (show Drew w wH by refine Drew.trans ?_ hd; repeat (first | exact HD.out | refine Drew.drewN ?_ _ | refine Drew.drew ?_))
    clear hd
    have HR3 := Lib.hid hr
    cases hne : (ford .f64 (cls .f64 r3) (cls .f64 0) != some .eq)
    · clear hr
      go_wp2_with fail
      refine (HBt.out 0 _ (by decide) (by decide) (by repeat (first | exact HD.out | refine Drew.drewN ?_ _ | refine Drew.drew ?_))).mono ?_
      rintro e wA ⟨p, hp, rfl, rfl⟩
      have hp0 : 0 ≤ (p : Int) := by omega
      obtain ⟨x, ex, rx, lx⟩ := cir_eighth (i := p) (by omega)
      have EX := Lib.hid ex
      have RX := Lib.hid rx
      have LX := Lib.hid lx
      clear ex rx lx
      go_wp2_with (first | (refine wpList_fop rfl .quo _ _ _ _ rfl rfl .f32 _ _ rfl rfl ?_; intro τ q; rw [EX.out, rep_some]))
      refine (HBt.out 1 _ (by decide) (by decide) (by repeat (first | exact HD.out | refine Drew.drewN ?_ _ | refine Drew.drew ?_))).mono ?_
      rintro e wA ⟨q, hq, rfl, rfl⟩
      have hq0 : 0 ≤ (q : Int) := by omega
      obtain ⟨y, ey, ry, ly⟩ := cir_eighth (i := q) (by omega)
      obtain ⟨z, ez, rz, lz⟩ := cir_prod RX.out ry (by omega) (by omega)
      have HT := Lib.hid (cir_tens RX.out ry rz (by omega) (by omega))
      have EY := Lib.hid ey
      have LY := Lib.hid ly
      have EZ := Lib.hid ez
      have LZ := Lib.hid lz
      clear ey ry ly ez rz lz
      go_wp2_with (first | (refine wpList_fop rfl .quo _ _ _ _ rfl rfl .f32 _ _ rfl rfl ?_; intro τ q; rw [EY.out, rep_some]))
      refine (tenI x _ LX.out).mono ?_
      rintro e wB ⟨rfl, hd⟩
      have HD := Lib.hid (show Drew w wB by refine Drew.trans ?_ hd; repeat (first | exact HD.out | refine Drew.drewN ?_ _ | refine Drew.drew ?_))
      clear hd
      go_wp2_with fail
      refine (tenI y _ LY.out).mono ?_
      rintro e wC ⟨rfl, hd⟩
      have HD := Lib.hid (show Drew w wC by refine Drew.trans ?_ hd; repeat (first | exact HD.out | refine Drew.drewN ?_ _ | refine Drew.drew ?_))
      clear hd
      go_wp2_with (first | (refine wpList_fop rfl .mul _ _ _ _ rfl rfl .f32 _ _ rfl rfl ?_; intro τ q; rw [EZ.out, rep_some]))
      refine (tenI z _ LZ.out).mono ?_
      rintro e wD ⟨rfl, hd⟩
      have HD := Lib.hid (show Drew w wD by refine Drew.trans ?_ hd; repeat (first | exact HD.out | refine Drew.drewN ?_ _ | refine Drew.drew ?_))
      clear hd
      go_wp2_with fail
      refine (ten_unit _).mono ?_
      rintro e wE ⟨rfl, hd⟩
      have HD := Lib.hid (show Drew w wE by refine Drew.trans ?_ hd; repeat (first | exact HD.out | refine Drew.drewN ?_ _ | refine Drew.drew ?_))
      clear hd
      obtain ⟨o1, o2, o3, d1, d2, b1, b2, b3, b4, b5, b6⟩ := HT.out
      generalize tenN x = T1 at *
      generalize tenN y = T2 at *
      generalize tenN z = T3 at *
      rw [o1, o2, o3]
      go_wp2_with fail
      refine (ang_unit _).mono ?_
      rintro e wF ⟨rfl, hd⟩
      have HD := Lib.hid (show Drew w wF by refine Drew.trans ?_ hd; repeat (first | exact HD.out | refine Drew.drewN ?_ _ | refine Drew.drew ?_))
      clear hd
      go_wp2_with fail
      refine (sSameNumber_any 1048576000 0 _ (by decide) (by decide)).mono ?_
      rintro e wG ⟨rfl, rfl⟩
      have su := same_unit
      go_wp2
      go_ret
      exact ⟨rfl, HD.out.below⟩
    · have X2 := Lib.hid (X1.out.resolve_left (by rw [← hr, hne]; decide))
      clear hr
      go_wp2_with (first | (refine wpList_conv_g rfl _ _ _ rfl .f32 .f64 _ rfl (by decide) (by kernel_rfl) Try.underlying39 (noOver_widen _) ?_; intro τ q; rw [HcR.out τ]) | (refine wpList_conv rfl _ _ _ rfl .f32 .f64 _ rfl (by decide) (by kernel_rfl) Try.underlying39 (noOver_widen _) ?_; intro τ q; rw [HcR.out τ]))
      refine (b10Gap_any _ _ _).mono ?_
      rintro e wI ⟨r4, rfl, hr, hd⟩
      have HD := Lib.hid (show Drew w wI by refine Drew.trans ?_ hd; repeat (first | exact HD.out | refine Drew.drewN ?_ _ | refine Drew.drew ?_))
      clear hd
      have hne2 : (ford .f64 (cls .f64 r4) (cls .f64 4607182418800017408) != some .eq) = false := by rw [hr]; exact X2.out
      clear hr
      go_wp2_with fail
      refine (HBt.out 0 _ (by decide) (by decide) (by repeat (first | exact HD.out | refine Drew.drewN ?_ _ | refine Drew.drew ?_))).mono ?_
      rintro e wA ⟨p, hp, rfl, rfl⟩
      have hp0 : 0 ≤ (p : Int) := by omega
      obtain ⟨x, ex, rx, lx⟩ := cir_eighth (i := p) (by omega)
      have EX := Lib.hid ex
      have RX := Lib.hid rx
      have LX := Lib.hid lx
      clear ex rx lx
      go_wp2_with (first | (refine wpList_fop rfl .quo _ _ _ _ rfl rfl .f32 _ _ rfl rfl ?_; intro τ q; rw [EX.out, rep_some]))
      refine (HBt.out 1 _ (by decide) (by decide) (by repeat (first | exact HD.out | refine Drew.drewN ?_ _ | refine Drew.drew ?_))).mono ?_
      rintro e wA ⟨q, hq, rfl, rfl⟩
      have hq0 : 0 ≤ (q : Int) := by omega
      obtain ⟨y, ey, ry, ly⟩ := cir_eighth (i := q) (by omega)
      obtain ⟨z, ez, rz, lz⟩ := cir_prod RX.out ry (by omega) (by omega)
      have HT := Lib.hid (cir_tens RX.out ry rz (by omega) (by omega))
      have EY := Lib.hid ey
      have LY := Lib.hid ly
      have EZ := Lib.hid ez
      have LZ := Lib.hid lz
      clear ey ry ly ez rz lz
      go_wp2_with (first | (refine wpList_fop rfl .quo _ _ _ _ rfl rfl .f32 _ _ rfl rfl ?_; intro τ q; rw [EY.out, rep_some]))
      refine (tenI x _ LX.out).mono ?_
      rintro e wB ⟨rfl, hd⟩
      have HD := Lib.hid (show Drew w wB by refine Drew.trans ?_ hd; repeat (first | exact HD.out | refine Drew.drewN ?_ _ | refine Drew.drew ?_))
      clear hd
      go_wp2_with fail
      refine (tenI y _ LY.out).mono ?_
      rintro e wC ⟨rfl, hd⟩
      have HD := Lib.hid (show Drew w wC by refine Drew.trans ?_ hd; repeat (first | exact HD.out | refine Drew.drewN ?_ _ | refine Drew.drew ?_))
      clear hd
      go_wp2_with (first | (refine wpList_fop rfl .mul _ _ _ _ rfl rfl .f32 _ _ rfl rfl ?_; intro τ q; rw [EZ.out, rep_some]))
      refine (tenI z _ LZ.out).mono ?_
      rintro e wD ⟨rfl, hd⟩
      have HD := Lib.hid (show Drew w wD by refine Drew.trans ?_ hd; repeat (first | exact HD.out | refine Drew.drewN ?_ _ | refine Drew.drew ?_))
      clear hd
      go_wp2_with fail
      refine (ten_unit _).mono ?_
      rintro e wE ⟨rfl, hd⟩
      have HD := Lib.hid (show Drew w wE by refine Drew.trans ?_ hd; repeat (first | exact HD.out | refine Drew.drewN ?_ _ | refine Drew.drew ?_))
      clear hd
      obtain ⟨o1, o2, o3, d1, d2, b1, b2, b3, b4, b5, b6⟩ := HT.out
      generalize tenN x = T1 at *
      generalize tenN y = T2 at *
      generalize tenN z = T3 at *
      rw [o1, o2, o3]
      go_wp2_with fail
      refine (ang_unit _).mono ?_
      rintro e wF ⟨rfl, hd⟩
      have HD := Lib.hid (show Drew w wF by refine Drew.trans ?_ hd; repeat (first | exact HD.out | refine Drew.drewN ?_ _ | refine Drew.drew ?_))
      clear hd
      go_wp2_with fail
      refine (sSameNumber_any 1048576000 0 _ (by decide) (by decide)).mono ?_
      rintro e wG ⟨rfl, rfl⟩
      have su := same_unit
      go_wp2
      go_ret
      exact ⟨rfl, HD.out.below⟩
  · go_wp2_with fail
    refine (HBt.out 0 _ (by decide) (by decide) (by repeat (first | exact HD.out | refine Drew.drewN ?_ _ | refine Drew.drew ?_))).mono ?_
    rintro e wA ⟨p, hp, rfl, rfl⟩
    have hp0 : 0 ≤ (p : Int) := by omega
    obtain ⟨x, ex, rx, lx⟩ := cir_eighth (i := p) (by omega)
    have EX := Lib.hid ex
    have RX := Lib.hid rx
    have LX := Lib.hid lx
    clear ex rx lx
    go_wp2_with (first | (refine wpList_fop rfl .quo _ _ _ _ rfl rfl .f32 _ _ rfl rfl ?_; intro τ q; rw [EX.out, rep_some]))
    refine (HBt.out 1 _ (by decide) (by decide) (by repeat (first | exact HD.out | refine Drew.drewN ?_ _ | refine Drew.drew ?_))).mono ?_
    rintro e wA ⟨q, hq, rfl, rfl⟩
    have hq0 : 0 ≤ (q : Int) := by omega
    obtain ⟨y, ey, ry, ly⟩ := cir_eighth (i := q) (by omega)
    obtain ⟨z, ez, rz, lz⟩ := cir_prod RX.out ry (by omega) (by omega)
    have HT := Lib.hid (cir_tens RX.out ry rz (by omega) (by omega))
    have EY := Lib.hid ey
    have LY := Lib.hid ly
    have EZ := Lib.hid ez
    have LZ := Lib.hid lz
    clear ey ry ly ez rz lz
    go_wp2_with (first | (refine wpList_fop rfl .quo _ _ _ _ rfl rfl .f32 _ _ rfl rfl ?_; intro τ q; rw [EY.out, rep_some]))
    refine (tenI x _ LX.out).mono ?_
    rintro e wB ⟨rfl, hd⟩
    have HD := Lib.hid (show Drew w wB by refine Drew.trans ?_ hd; repeat (first | exact HD.out | refine Drew.drewN ?_ _ | refine Drew.drew ?_))
    clear hd
    go_wp2_with fail
    refine (tenI y _ LY.out).mono ?_
    rintro e wC ⟨rfl, hd⟩
    have HD := Lib.hid (show Drew w wC by refine Drew.trans ?_ hd; repeat (first | exact HD.out | refine Drew.drewN ?_ _ | refine Drew.drew ?_))
    clear hd
    go_wp2_with (first | (refine wpList_fop rfl .mul _ _ _ _ rfl rfl .f32 _ _ rfl rfl ?_; intro τ q; rw [EZ.out, rep_some]))
    refine (tenI z _ LZ.out).mono ?_
    rintro e wD ⟨rfl, hd⟩
    have HD := Lib.hid (show Drew w wD by refine Drew.trans ?_ hd; repeat (first | exact HD.out | refine Drew.drewN ?_ _ | refine Drew.drew ?_))
    clear hd
    go_wp2_with fail
    refine (ten_unit _).mono ?_
    rintro e wE ⟨rfl, hd⟩
    have HD := Lib.hid (show Drew w wE by refine Drew.trans ?_ hd; repeat (first | exact HD.out | refine Drew.drewN ?_ _ | refine Drew.drew ?_))
    clear hd
    obtain ⟨o1, o2, o3, d1, d2, b1, b2, b3, b4, b5, b6⟩ := HT.out
    generalize tenN x = T1 at *
    generalize tenN y = T2 at *
    generalize tenN z = T3 at *
    rw [o1, o2, o3]
    go_wp2_with fail
    refine (ang_unit _).mono ?_
    rintro e wF ⟨rfl, hd⟩
    have HD := Lib.hid (show Drew w wF by refine Drew.trans ?_ hd; repeat (first | exact HD.out | refine Drew.drewN ?_ _ | refine Drew.drew ?_))
    clear hd
    go_wp2_with fail
    refine (sSameNumber_any 1048576000 0 _ (by decide) (by decide)).mono ?_
    rintro e wG ⟨rfl, rfl⟩
    have su := same_unit
    go_wp2
    go_ret
    exact ⟨rfl, HD.out.below⟩

set_option maxRecDepth 100000 in
theorem lifted (os : Os) (started : os.Started) (H : Type) (enc : TypeId × Value → H) :
    ReturnsInHanded {} Try.checked os 4 .any (Rows.fnCirclesSpec.pre6 enc Try.prog Try.f4 Rows.fnCirclesRow.domain false) (Rows.fnCirclesSpec.post enc Try.prog Try.f4 false true false false) := by
  refine returnsInHanded_of_change (C := Try.checked) own started (by kernel_rfl) Try.func4
    (ChangeSpec.witness6 (enc := enc) (C := Try.checked) false ⟨#[], #[.slice none 0 0, .slice none 0 0], []⟩ 8 (by kernel_rfl) (by kernel_rfl) (by kernel_rfl) (by kernel_rfl)) ?_
  intro W base args ds gs before hval0 hW hcnd _
  have hval : ∀ (j : Nat) t v, Try.f4.params[j]? = some t → args[j]? = some v → Value.okWide Try.prog W .any base t v := hval0
  have hW' := hW
  obtain ⟨p, q, hA0, hV, rfl, hfz, hnd⟩ := hW
  have hA : DataW.TrodAll enc Try.prog W 0 (fun _ => true) true Try.f4.params.toList args.toList ds p := hA0
  rw [Try.params4] at hA hval
  obtain ⟨v0, vs0, d0, ds0, p0, q0, hargs, rfl, rfl, h0, r0⟩ := trodAll_cons hA
  obtain ⟨v1, vs1, d1, ds1, p1, q1, rfl, rfl, rfl, h1, r1⟩ := trodAll_cons r0
  obtain ⟨rfl, rfl, rfl⟩ := trodAll_nil r1
  obtain rfl : args = #[v0, v1] := by cases args; simp_all
  obtain ⟨rfl, rfl⟩ := trodVars_none hV
  have k0 := h0
  have lt0 : ∀ x ∈ p0, x.block < W.heap.size := by obtain ⟨m, hm⟩ := k0; exact DataW.trod_lt m _ _ _ hm
  obtain ⟨a0, n0, c0, rfl⟩ := okWide_slice Try.underlying22 (hval 0 22 v0 rfl rfl)
  have w0 := slice_opened5 h0
  have k1 := h1
  have lt1 : ∀ x ∈ p1, x.block < W.heap.size := by obtain ⟨m, hm⟩ := k1; exact DataW.trod_lt m _ _ _ hm
  obtain ⟨a1, n1, c1, rfl⟩ := okWide_slice Try.underlying22 (hval 1 22 v1 rfl rfl)
  have w1 := slice_opened5 h1
  clear hA0 hval0
  refine (walk a0 n0 c0 a1 n1 c1 W w0 w1).mono fun e W' ⟨he, bel⟩ => ?_
  subst he
  exact ⟨_, rfl, _, _, _, [], _, [], hW', trodAll_mk1 (shut_bool Try.underlying4 _), (trodAll_cons_mk (Below.trod laidOut (by kernel_rfl) (of_decide_eq_true (by kernel_rfl)) k0 bel lt0) (trodAll_cons_mk (Below.trod laidOut (by kernel_rfl) (of_decide_eq_true (by kernel_rfl)) k1 bel lt1) trodAll_mk0)), rfl, bel.frame _, fun h => by cases h⟩

theorem over : Rows.fnCirclesRow.holds Try.pinned (OpenSpec.ofChange Rows.fnCirclesSpec) :=
  OpenClaim.holds_of_wide 4 Try.f4 rfl rfl rfl rfl rfl rfl rfl ⟨rfl, rfl, rfl, rfl, rfl⟩ rfl rfl rfl rfl rfl (by kernel_rfl) Try.func4 (by kernel_rfl)
    (of_decide_eq_true (by kernel_rfl)) (by unfold Func.isWrapper; first | (rw [if_pos (by decide +kernel)]; kernel_rfl) | (rw [if_neg (by decide +kernel)]; exact ⟨rfl, rfl⟩))
    (fun os started H enc _ => lifted os started H enc)

/-- the statement -/
theorem proved : Rows.FnCirclesSaid := over
end Go.Proofs.Ytmpeogpmlgnmfaa.FnCircles
