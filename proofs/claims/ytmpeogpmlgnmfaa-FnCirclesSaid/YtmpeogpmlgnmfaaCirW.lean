/- Contracts that FnCircles wants: products and powers of phasors, the test of nearness. -/
import Derived.Test.YtmpeogpmlgnmfaaCir
import Derived.Test.YtmpeogpmlgnmfaaBytes
namespace Flt
open Go Ieee
set_option exponentiation.threshold 3000
theorem Rg.cls {k : FloatKind} {g : Nat} {b : Nat} {lo hi : Int} (h : Rg k g (some b) lo hi) : Rg k g (Flt.cls k b) lo hi ∧ Flt.cls k b = some b := by
  obtain ⟨b', e, hf, r⟩ := h
  cases e
  have e := cls_of_le (Nat.le_of_lt hf)
  exact ⟨by rw [e]; exact ⟨b, rfl, hf, r⟩, e⟩
theorem Rg.conv {s k : FloatKind} {g : Nat} {c : Option Nat} {lo hi : Int} (h : Rg s g c lo hi) (hl : lo.natAbs < 2 * k.format.binade) (hh : hi.natAbs < 2 * k.format.binade) (hg : g ≤ U k) :
    Rg k g (fconv s k c) lo hi ∧ ∀ b, c = some b → NoOver s k b := by
  obtain ⟨b, rfl, hf, hw, a1, a2⟩ := h
  have e : fconv s k (some b) = some (Flt.conv s k b) := rfl
  have hwd := word_of (f := k.format) (conv_lt s k b)
  rw [conv_rung hf, conv_sgn (Nat.le_of_lt hf)] at hwd
  have hr : Rg k g (some (Flt.conv s k b)) lo hi := by
    rw [← hwd]
    exact rnd_rg (S := sval s.format b) (x := U s) (y := g) (natAbs_sval b) (sval_sgn b).1 (sval_sgn b).2 (by rw [lp_U s]; omega) a1 a2 hl hh hg
  refine ⟨by rw [e]; exact hr, fun b' hb' => ?_⟩
  cases hb'
  intro _
  obtain ⟨b2, e2, hf2, _⟩ := hr
  cases e2
  rw [← conv_rung hf]
  exact hf2
/-- products of numbers about one -/
theorem Rg.mul20 {c d : Option Nat} {l m : Int} (hc : Rg .f64 20 c l (l + 1)) (hd : Rg .f64 20 d m (m + 1)) (h1 : -1048576 ≤ l) (h2 : l ≤ 1048576) (h3 : -1048576 ≤ m) (h4 : m ≤ 1048576) :
    Rg .f64 20 (fop .mul .f64 c d) (l * m / 1048576 - 2) (l * m / 1048576 + 4) := by
  have b1 : l * m ≤ 1099511627776 := corner_hi (l1 := -1048576) (h1 := 1048576) (l2 := -1048576) (h2 := 1048576) h1 h2 h3 h4 (by decide) (by decide) (by decide) (by decide)
  have b2 : -1099511627776 ≤ l * m := corner_lo (l1 := -1048576) (h1 := 1048576) (l2 := -1048576) (h2 := 1048576) h1 h2 h3 h4 (by decide) (by decide) (by decide) (by decide)
  have e : ((2 ^ 20 : Nat) : Int) = 1048576 := by decide
  have e1 : l * (m + 1) = l * m + l := by rw [Int.mul_add, Int.mul_one]
  have e2 : (l + 1) * m = l * m + m := by rw [Int.add_mul, Int.one_mul]
  have e3 : (l + 1) * (m + 1) = l * m + l + m + 1 := by rw [Int.mul_add, Int.add_mul, Int.one_mul, Int.mul_one]; omega
  refine hc.mul hd ?_ ?_ ?_ ?_ ?_ ?_ ?_ ?_ (by show _ < 9007199254740992; omega) (by show _ < 9007199254740992; omega) (by decide) <;> rw [e] <;> omega
end Flt
namespace Go.Proofs.Ytmpeogpmlgnmfaa
open Go.RowKit Go.Deep Flt
theorem gap_rg {c d : Option Nat} {l1 h1 l2 h2 D : Int} (hc : Rg .f64 20 c l1 h1) (hd : Rg .f64 20 d l2 h2) (k1 : h1 - l2 ≤ D) (k2 : h2 - l1 ≤ D) (k3 : l1 ≤ h1) (k4 : l2 ≤ h2) (k5 : D ≤ 104) : Rg .f64 20 (gapC c d) (-D) D := by
  unfold gapC
  split
  · exact (hd.sub hc (by show _ < 9007199254740992; omega) (by show _ < 9007199254740992; omega) (by decide)).mono (by omega) (by omega)
  · exact (hc.sub hd (by show _ < 9007199254740992; omega) (by show _ < 9007199254740992; omega) (by decide)).mono (by omega) (by omega)
theorem most_val : 104 * ((2 ^ 1074 : Nat) : Int) < sval FloatKind.f64.format 4547007122018943789 * ((2 ^ 20 : Nat) : Int) ∧ rung FloatKind.f64.format 4547007122018943789 < FloatKind.f64.format.infRung ∧ cls .f64 4547007122018943789 = some 4547007122018943789 := by decide +kernel
theorem le_rg {c : Option Nat} {lo hi : Int} (h : Rg .f64 20 c lo hi) (hh : hi ≤ 104) : leB c (cls .f64 4547007122018943789) = true := by
  obtain ⟨b, rfl, hf, _, _, a2⟩ := h
  obtain ⟨m1, m2, m3⟩ := most_val
  have eU : U .f64 = 1074 := by decide
  rw [eU] at a2
  have hT : (0 : Int) < ((2 ^ 1074 : Nat) : Int) := by decide +kernel
  have e : ((2 ^ 20 : Nat) : Int) = 1048576 := by decide
  rw [e] at a2 m1
  have h3 : hi * ((2 ^ 1074 : Nat) : Int) ≤ 104 * ((2 ^ 1074 : Nat) : Int) := Int.mul_le_mul_of_nonneg_right hh (Int.le_of_lt hT)
  have hlt : sval FloatKind.f64.format b < sval FloatKind.f64.format 4547007122018943789 := by omega
  unfold leB
  rw [m3]
  show (FloatKind.f64.format.order b _ == some .lt || _) = true
  rw [order_fin hf m2, Int.compare_eq_lt.2 hlt]
  rfl
theorem parts_fin (a b : Nat) (w : World) (ha : cls .f32 a = some a) (hb : cls .f32 b = some b) :
    Calls Try.prog 41 #[.complex .f32 a b] w fun e w' => e = .returned (.tuple #[.float .f64 (conv .f32 .f64 a), .float .f64 (conv .f32 .f64 b)]) ∧ Drew w w' := by
  have HA := Lib.hid (show fconv .f32 .f64 (cls .f32 a) = some (conv .f32 .f64 a) by rw [ha]; rfl)
  have HB := Lib.hid (show fconv .f32 .f64 (cls .f32 b) = some (conv .f32 .f64 b) by rw [hb]; rfl)
  generalize conv .f32 .f64 a = A at *
  generalize conv .f32 .f64 b = B at *
  clear ha hb
  go_enter Try.func41, Try.ntmps41
  go_wp2_with (first | (refine wpList_conv rfl _ _ _ rfl .f32 .f64 _ rfl (by decide) (by kernel_rfl) Try.underlying39 (noOver_widen _) ?_; intro τ q; first | rw [HA.out, rep_some] | rw [HB.out, rep_some]))
  go_ret2
  exact ⟨rfl, by repeat (first | exact Drew.refl _ | refine Drew.drewN ?_ _ | refine Drew.drew ?_)⟩
/-- the parts of a product -/
def TimC (a b c d : Nat) (w w' : World) (e : Ending) : Prop := ∃ u v : Nat, e = .returned (.tuple #[.float .f64 u, .float .f64 v]) ∧ cls .f64 u = fop .sub .f64 (fop .mul .f64 (cls .f64 a) (cls .f64 c)) (fop .mul .f64 (cls .f64 b) (cls .f64 d)) ∧ cls .f64 v = fop .add .f64 (fop .mul .f64 (cls .f64 a) (cls .f64 d)) (fop .mul .f64 (cls .f64 b) (cls .f64 c)) ∧ Drew w w'
theorem times_cls (a b c d : Nat) (w : World) :
    Calls Try.prog 42 #[.float .f64 a, .float .f64 b, .float .f64 c, .float .f64 d] w fun e w' => TimC a b c d w w' e := by
  go_enter Try.func42, Try.ntmps42
  go_wp2_with (first | (refine wpList_fop rfl .mul _ _ _ _ rfl rfl .f64 _ _ rfl rfl ?_; intro τ k) | (refine wpList_fop rfl .sub _ _ _ _ rfl rfl .f64 _ _ rfl rfl ?_; intro τ k) | (refine wpList_fop rfl .add _ _ _ _ rfl rfl .f64 _ _ rfl rfl ?_; intro τ k))
  go_ret2
  exact ⟨_, _, rfl, by rw [cls_rep' (nn_fop _ _ _ _)], by rw [cls_rep' (nn_fop _ _ _ _)], by repeat (first | exact Drew.refl _ | refine Drew.drewN ?_ _ | refine Drew.drew ?_)⟩
/-- the product of two phasors of the table is near a third -/
def MulE (k j : Nat) (w w' : World) (e : Ending) : Prop := ∃ u v : Nat, e = .returned (.complex .f32 u v) ∧ leB (gapC (fconv .f32 .f64 (cls .f32 u)) (fconv .f32 .f64 (cls .f32 (reT ((k + j) % 64))))) (cls .f64 4547007122018943789) = true ∧ leB (gapC (fconv .f32 .f64 (cls .f32 v)) (fconv .f32 .f64 (cls .f32 (imT ((k + j) % 64))))) (cls .f64 4547007122018943789) = true ∧ Drew w w'
theorem cir_rg {k : Nat} (h : k < 64) : (Rg .f64 20 (cls .f64 (conv .f32 .f64 (reT k))) (lR k) (lR k + 1) ∧ -1048576 ≤ lR k ∧ lR k ≤ 1048576) ∧ (Rg .f64 20 (cls .f64 (conv .f32 .f64 (imT k))) (lI k) (lI k + 1) ∧ -1048576 ≤ lI k ∧ lI k ≤ 1048576) := by
  obtain ⟨h1, h2⟩ := cir_rg' k h
  obtain ⟨a1, a2⟩ := rgB32_some h1
  obtain ⟨b1, b2⟩ := rgB32_some h2
  exact ⟨⟨a1.cls.1, a2⟩, ⟨b1.cls.1, b2⟩⟩
theorem cir_wide {k : Nat} (h : k < 64) : fconv .f32 .f64 (cls .f32 (reT k)) = cls .f64 (conv .f32 .f64 (reT k)) ∧ fconv .f32 .f64 (cls .f32 (imT k)) = cls .f64 (conv .f32 .f64 (imT k)) := by
  obtain ⟨h1, h2⟩ := cir_rg' k h
  rw [(rgB32_some h1).1.cls.2, (rgB32_some h2).1.cls.2, (cir_fin k h).1, (cir_fin k h).2.1]
  exact ⟨rfl, rfl⟩
/-- narrowed and told apart -/
theorem near_one {u : Nat} {c r : Option Nat} {lo hi l : Int} (hu : Rg .f64 20 c lo hi) (hr : Rg .f64 20 r l (l + 1)) (h1 : hi - l ≤ 100) (h2 : l + 1 - lo ≤ 100) (h3 : lo ≤ hi) (h4 : -3000000 ≤ lo) (h5 : hi ≤ 3000000) (hc : cls .f64 u = c) :
    NoOver .f64 .f32 u ∧ ∀ x : Nat, cls .f32 x = fconv .f64 .f32 c → leB (gapC (fconv .f32 .f64 (cls .f32 x)) r) (cls .f64 4547007122018943789) = true := by
  obtain ⟨n1, n2⟩ := hu.conv (k := .f32) (by show _ < 16777216; omega) (by show _ < 16777216; omega) (by decide)
  refine ⟨n2 u (by rw [← hc]; obtain ⟨b, e, hf, _⟩ := hu; rw [e] at hc; have := (cls_some hc).1; rw [hc, this]), fun x hx => ?_⟩
  rw [hx]
  obtain ⟨w1, _⟩ := n1.conv (k := .f64) (by show _ < 9007199254740992; omega) (by show _ < 9007199254740992; omega) (by decide)
  exact le_rg (gap_rg (D := 100) w1 hr h1 h2 h3 (by omega) (by omega)) (by omega)
theorem mul_at (k j : Nat) (hk : k < 64) (hj : j < 64) (w : World) :
    Calls Try.prog 21 #[.complex .f32 (reT k) (imT k), .complex .f32 (reT j) (imT j)] w fun e w' => MulE k j w w' e := by
  have HP := Lib.hid (parts_fin (reT k) (imT k) w (cir_fin k hk).1 (cir_fin k hk).2.1)
  have HP2 := Lib.hid (fun W => parts_fin (reT j) (imT j) W (cir_fin j hj).1 (cir_fin j hj).2.1)
  have hm := Nat.mod_lt (k + j) (show 0 < 64 by omega)
  obtain ⟨⟨r1, r2, r3⟩, ⟨i1, i2, i3⟩⟩ := cir_rg hk
  obtain ⟨⟨s1, s2, s3⟩, ⟨j1, j2, j3⟩⟩ := cir_rg hj
  obtain ⟨⟨t1, t2, t3⟩, ⟨u1, u2, u3⟩⟩ := cir_rg hm
  obtain ⟨e1, e2⟩ := cir_wide hm
  have hn := cir_near k hk j hj
  unfold nearB at hn
  simp only [Bool.and_eq_true, decide_eq_true_eq] at hn
  obtain ⟨⟨⟨n1, n2⟩, n3⟩, n4⟩ := hn
  have m1 := r1.mul20 s1 r2 r3 s2 s3
  have m2 := i1.mul20 j1 i2 i3 j2 j3
  have m3 := r1.mul20 j1 r2 r3 j2 j3
  have m4 := i1.mul20 s1 i2 i3 s2 s3
  have q1 := m1.sub m2 (by show _ < 9007199254740992; omega) (by show _ < 9007199254740992; omega) (by decide)
  have q2 := m3.add m4 (by show _ < 9007199254740992; omega) (by show _ < 9007199254740992; omega) (by decide)
  have HU := Lib.hid (fun (u : Nat) hu => near_one (u := u) q1 t1 (by omega) (by omega) (by omega) (by omega) (by omega) hu)
  have HV := Lib.hid (fun (u : Nat) hu => near_one (u := u) q2 u1 (by omega) (by omega) (by omega) (by omega) (by omega) hu)
  have HE := Lib.hid (And.intro e1 e2)
  have HT := Lib.hid (fun W => times_cls (conv .f32 .f64 (reT k)) (conv .f32 .f64 (imT k)) (conv .f32 .f64 (reT j)) (conv .f32 .f64 (imT j)) W)
  clear r1 r2 r3 i1 i2 i3 s1 s2 s3 j1 j2 j3 t1 t2 t3 u1 u2 u3 e1 e2 n1 n2 n3 n4 m1 m2 m3 m4 q1 q2 hk hj hm
  go_enter Try.func21, Try.ntmps21
  go_wp2_with fail
  refine HP.out.mono ?_
  rintro e w1 ⟨rfl, hd1⟩
  have HD1 := Lib.hid hd1
  clear hd1
  go_wp2_with fail
  refine (HP2.out _).mono ?_
  rintro e w2 ⟨rfl, hd2⟩
  have HD2 := Lib.hid (HD1.out.trans hd2)
  clear hd2
  go_wp2_with fail
  refine (HT.out _).mono ?_
  rintro e w3 ⟨u, v, rfl, hu, hv, hd3⟩
  have HD3 := Lib.hid (HD2.out.trans hd3)
  have HU2 := Lib.hid (HU.out u hu)
  have HV2 := Lib.hid (HV.out v hv)
  have HU3 := Lib.hid hu
  have HV3 := Lib.hid hv
  clear hd3 hu hv
  go_wp2_with (first | (refine wpList_conv rfl _ _ _ rfl .f64 .f32 u rfl (by decide) (by kernel_rfl) Try.underlying34 HU2.out.1 ?_; intro τ k) | (refine wpList_conv rfl _ _ _ rfl .f64 .f32 v rfl (by decide) (by kernel_rfl) Try.underlying34 HV2.out.1 ?_; intro τ k))
  go_ret
  exact ⟨_, _, rfl, by rw [HE.out.1]; exact HU2.out.2 _ ((cls_rep' (nn_fconv _ _ _ (nn_cls _ _)) _).trans (by rw [HU3.out])), by rw [HE.out.2]; exact HV2.out.2 _ ((cls_rep' (nn_fconv _ _ _ (nn_cls _ _)) _).trans (by rw [HV3.out])), by repeat (first | exact HD3.out | refine Drew.drewN ?_ _ | refine Drew.drew ?_)⟩
theorem power_at (k : Nat) (hk : k < 64) (w : World) :
    Calls Try.prog 33 #[.complex .f32 (reT k) (imT k)] w fun e w' => e = .returned (.float .f64 (powD k)) ∧ Drew w w' := by
  have HP := Lib.hid (parts_fin (reT k) (imT k) w (cir_fin k hk).1 (cir_fin k hk).2.1)
  obtain ⟨e1, e2, e3, _⟩ := cir_pow k hk
  have E1 := Lib.hid e1
  have E2 := Lib.hid e2
  have E3 := Lib.hid e3
  generalize conv .f32 .f64 (reT k) = A at *
  generalize conv .f32 .f64 (imT k) = B at *
  clear e1 e2 e3 hk
  go_enter Try.func33, Try.ntmps33
  go_wp2_with fail
  refine HP.out.mono ?_
  rintro e w1 ⟨rfl, hd⟩
  have HD := Lib.hid hd
  clear hd
  go_wp2_with (first | (refine wpList_fop rfl .mul _ _ (.tmp 10) (.tmp 11) rfl rfl .f64 _ _ rfl rfl ?_; intro τ k; rw [E1.out, rep_some]) | (refine wpList_fop rfl .mul _ _ (.tmp 13) (.tmp 14) rfl rfl .f64 _ _ rfl rfl ?_; intro τ k; rw [E2.out, rep_some]) | (refine wpList_fop rfl .add _ _ _ _ rfl rfl .f64 _ _ rfl rfl ?_; intro τ k; rw [E3.out, rep_some]))
  go_ret
  exact ⟨rfl, by repeat (first | exact HD.out | refine Drew.drewN ?_ _ | refine Drew.drew ?_)⟩
theorem powerOf_at (k : Nat) (hk : k < 64) (w : World) :
    Calls Try.prog 19 #[.complex .f32 (reT k) (imT k)] w fun e w' => e = .returned (.float .f32 (powT k)) ∧ Drew w w' := by
  have HP := Lib.hid (power_at k hk w)
  obtain ⟨_, _, _, e4, e5, _⟩ := cir_pow k hk
  have HN := Lib.hid (show NoOver .f64 .f32 (powD k) from fun _ => e5)
  have E4 := Lib.hid e4
  clear e4 e5 hk
  go_enter Try.func19, Try.ntmps19
  go_wp2_with fail
  refine HP.out.mono ?_
  rintro e w1 ⟨rfl, hd⟩
  have HD := Lib.hid hd
  clear hd
  go_wp2_with (first | (refine wpList_conv rfl _ _ _ rfl .f64 .f32 _ rfl (by decide) (by kernel_rfl) Try.underlying34 HN.out ?_; intro τ k; rw [E4.out, rep_some]))
  go_ret
  exact ⟨rfl, by repeat (first | exact HD.out | refine Drew.drewN ?_ _ | refine Drew.drew ?_)⟩
theorem angleOf_any (re im : Nat) (w : World) :
    Calls Try.prog 17 #[.complex .f32 re im] w fun e w' => ∃ r, e = .returned (.float .f32 r) ∧ cls .f32 r = AngX.angC im re ∧ Drew w w' := by
  have HC := Lib.hid (AngX.angI im re w)
  go_enter Try.func17, Try.ntmps17
  go_wp2_with fail
  refine HC.out.mono ?_
  rintro e w1 ⟨r, rfl, hr, hd⟩
  have HR := Lib.hid hr
  have HD := Lib.hid hd
  clear hr hd
  go_wp2
  go_ret
  exact ⟨_, rfl, HR.out, by repeat (first | exact HD.out | refine Drew.drewN ?_ _ | refine Drew.drew ?_)⟩
theorem b10Gap_any (x y : Nat) (w : World) :
    Calls Try.prog 18 #[.float .f64 x, .float .f64 y] w fun e w' => ∃ r, e = .returned (.float .f64 r) ∧ cls .f64 r = gapC (cls .f64 x) (cls .f64 y) ∧ Drew w w' := by
  cases h : (ford .f64 (cls .f64 x) (cls .f64 y) == some .lt)
  · have H := Lib.hid h
    go_enter Try.func18, Try.ntmps18
    go_wp2_with (first | (refine wpList_fop rfl .sub _ _ _ _ rfl rfl .f64 _ _ rfl rfl ?_; intro τ q))
    go_ret
    exact ⟨_, rfl, (cls_rep' (nn_fop _ _ _ _) _).trans (by unfold gapC; rw [if_neg (by rw [H.out]; decide)]), by repeat (first | exact Drew.refl _ | refine Drew.drewN ?_ _ | refine Drew.drew ?_)⟩
  · have H := Lib.hid h
    go_enter Try.func18, Try.ntmps18
    go_wp2_with (first | (refine wpList_fop rfl .sub _ _ _ _ rfl rfl .f64 _ _ rfl rfl ?_; intro τ q))
    go_ret
    exact ⟨_, rfl, (cls_rep' (nn_fop _ _ _ _) _).trans (by unfold gapC; rw [if_pos H.out]), by repeat (first | exact Drew.refl _ | refine Drew.drewN ?_ _ | refine Drew.drew ?_)⟩
theorem b10Near_true (a b c d m : Nat) (w : World) (h1 : leB (gapC (fconv .f32 .f64 (cls .f32 a)) (fconv .f32 .f64 (cls .f32 c))) (cls .f64 m) = true) (h2 : leB (gapC (fconv .f32 .f64 (cls .f32 b)) (fconv .f32 .f64 (cls .f32 d))) (cls .f64 m) = true) :
    Calls Try.prog 20 #[.complex .f32 a b, .complex .f32 c d, .float .f64 m] w fun e w' => e = .returned (.bool true) ∧ Drew w w' := by
  have H1 := Lib.hid h1
  have H2 := Lib.hid h2
  clear h1 h2
  go_enter Try.func20, Try.ntmps20
  go_wp2_with (first | (refine wpList_conv rfl _ _ _ rfl .f32 .f64 _ rfl (by decide) (by kernel_rfl) Try.underlying39 (noOver_widen _) ?_; intro τ q))
  refine (b10Gap_any _ _ _).mono ?_
  rintro e w1 ⟨r, rfl, hr, hd⟩
  have t1 : (ford .f64 (cls .f64 r) (cls .f64 m) == some .lt || ford .f64 (cls .f64 r) (cls .f64 m) == some .eq) = true := by
    rw [hr, cls_rep' (nn_fconv _ _ _ (nn_cls _ _)), cls_rep' (nn_fconv _ _ _ (nn_cls _ _))]
    exact H1.out
  have HD := Lib.hid (show Drew w w1 by refine Drew.trans ?_ hd; repeat (first | exact Drew.refl _ | refine Drew.drewN ?_ _ | refine Drew.drew ?_))
  clear hd hr
  go_wp2_with (first | (refine wpList_conv rfl _ _ _ rfl .f32 .f64 _ rfl (by decide) (by kernel_rfl) Try.underlying39 (noOver_widen _) ?_; intro τ q) | (refine wpList_conv_g rfl _ _ _ rfl .f32 .f64 _ rfl (by decide) (by kernel_rfl) Try.underlying39 (noOver_widen _) ?_; intro τ q))
  refine (b10Gap_any _ _ _).mono ?_
  rintro e w2 ⟨r2, rfl, hr, hd⟩
  have t2 : (ford .f64 (cls .f64 r2) (cls .f64 m) == some .lt || ford .f64 (cls .f64 r2) (cls .f64 m) == some .eq) = true := by
    rw [hr, cls_rep' (nn_fconv _ _ _ (nn_cls _ _)), cls_rep' (nn_fconv _ _ _ (nn_cls _ _))]
    exact H2.out
  have HD := Lib.hid (show Drew w w2 by refine Drew.trans ?_ hd; repeat (first | exact HD.out | refine Drew.drewN ?_ _ | refine Drew.drew ?_))
  clear hd hr
  go_wp2
  go_ret
  exact ⟨rfl, by repeat (first | exact HD.out | refine Drew.drewN ?_ _ | refine Drew.drew ?_)⟩
end Go.Proofs.Ytmpeogpmlgnmfaa
