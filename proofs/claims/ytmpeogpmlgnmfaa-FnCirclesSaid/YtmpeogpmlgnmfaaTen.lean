/- The tenths of decibels of a power. -/
import Derived.Test.YtmpeogpmlgnmfaaLog
namespace Flt
open Go Ieee
set_option exponentiation.threshold 3000
/-- a number, and none beyond a rung -/
def Fb (k : FloatKind) (C : Nat) (c : Option Nat) : Prop := Bd k C c ∧ c.isSome = true
theorem fd_mul {k : FloatKind} {a b : Option Nat} {C D E : Nat} (ha : Fb k C a) (hb : Fb k D b) (hC : C < k.format.infRung) (hD : D < k.format.infRung)
    (hE : rungOf k.format (rval k.format C * rval k.format D) (k.format.leastPlace + k.format.leastPlace) ≤ E) : Fb k E (fop .mul k a b) := by
  refine ⟨bd_mul ha.1 hb.1 hC hD hE, ?_⟩
  obtain ⟨x, hx⟩ := Option.isSome_iff_exists.1 ha.2
  obtain ⟨y, hy⟩ := Option.isSome_iff_exists.1 hb.2
  have h1 := ha.1 x hx
  have h2 := hb.1 y hy
  subst hx hy
  show (k.format.mul x y).isSome = true
  rw [mul_fin (by omega) (by omega)]; rfl
theorem fd_add {k : FloatKind} {a b : Option Nat} {C D E : Nat} (ha : Fb k C a) (hb : Fb k D b) (hC : C < k.format.infRung) (hD : D < k.format.infRung)
    (hE : rungOf k.format (rval k.format C + rval k.format D) k.format.leastPlace ≤ E) : Fb k E (fop .add k a b) := by
  refine ⟨bd_add ha.1 hb.1 hC hD hE, ?_⟩
  obtain ⟨x, hx⟩ := Option.isSome_iff_exists.1 ha.2
  obtain ⟨y, hy⟩ := Option.isSome_iff_exists.1 hb.2
  have h1 := ha.1 x hx
  have h2 := hb.1 y hy
  subst hx hy
  show (k.format.add x y).isSome = true
  rw [add_fin (by omega) (by omega)]; rfl
theorem fd_sub {k : FloatKind} {a b : Option Nat} {C D E : Nat} (ha : Fb k C a) (hb : Fb k D b) (hC : C < k.format.infRung) (hD : D < k.format.infRung)
    (hE : rungOf k.format (rval k.format C + rval k.format D) k.format.leastPlace ≤ E) : Fb k E (fop .sub k a b) := by
  refine ⟨bd_sub ha.1 hb.1 hC hD hE, ?_⟩
  obtain ⟨x, hx⟩ := Option.isSome_iff_exists.1 ha.2
  obtain ⟨y, hy⟩ := Option.isSome_iff_exists.1 hb.2
  have h1 := ha.1 x hx
  have h2 := hb.1 y hy
  subst hx hy
  show (k.format.sub x y).isSome = true
  rw [sub_fin (by omega) (by omega)]; rfl
theorem div_some {f : Format} {a b : Nat} (ha : rung f a < f.infRung) (hb : rung f b ≤ f.infRung) (hb0 : rval f (rung f b) ≠ 0) (hB : 1 ≤ f.exponentBits) : (f.div a b).isSome = true := by
  obtain ⟨m, i, hra, hi, hva⟩ := read_fin ha
  rcases Nat.lt_or_eq_of_le hb with h | h
  · obtain ⟨n, j, hrb, hj, hvb⟩ := read_fin h
    have hn : n ≠ 0 := by
      rintro rfl
      rw [Nat.zero_mul] at hvb
      omega
    unfold Format.div
    rw [hra, hrb]
    simp only [Datum.quotient, if_neg hn]; rfl
  · unfold Format.div
    rw [hra, read_inf hB h]; rfl
theorem fd_quo {k : FloatKind} {a b : Option Nat} {C D E : Nat} (ha : Fb k C a) (hb : Lo k D b) (hb2 : b.isSome = true) (hC : C < k.format.infRung) (hn : Nn k b) (s : Nat) (K : Nat)
    (hD : 0 < rval k.format D) (h : rval k.format C * 2 ^ s ≤ rval k.format D * K)
    (hE : rungOf k.format (2 * K) (-(s : Int)) ≤ E) : Fb k E (fop .quo k a b) := by
  refine ⟨bd_quo ha.1 hb hC hn s K hD h hE, ?_⟩
  obtain ⟨x, hx⟩ := Option.isSome_iff_exists.1 ha.2
  obtain ⟨y, hy⟩ := Option.isSome_iff_exists.1 hb2
  have h1 := ha.1 x hx
  have h2 := hb y hy
  have h3 := hn y hy
  subst hx hy
  have g := rval_le (f := k.format) h3 h2
  exact div_some (by omega) h3 (by omega) (eb k)
/-- the floor of a finite number -/
def flr (b : Nat) : Nat := FloatKind.f64.encode ((FloatKind.f64.decode b).integral .down)
theorem flr_int {b : Nat} (h : rung FloatKind.f64.format b ≤ 4823355200913801216) : ∃ n, floatToIntVal .f64 (flr b) .i64 = some n := by
  have hfin : rung FloatKind.f64.format b < FloatKind.f64.format.infRung := Nat.lt_of_le_of_lt h (by decide +kernel)
  obtain ⟨m, e, hr, he, hv⟩ := read_fin hfin
  have hm : m * 2 ^ e.toNat / 2 ^ (-e).toNat ≤ 281474976710656 := by
    have g : rval FloatKind.f64.format (rung FloatKind.f64.format b) ≤ rval FloatKind.f64.format 4823355200913801216 := rval_le (by decide +kernel) h
    have g2 : rval FloatKind.f64.format 4823355200913801216 = 281474976710656 * 2 ^ 1074 := by decide +kernel
    rw [g2, ← hv] at g
    have e1 : FloatKind.f64.format.leastPlace = -1074 := rfl
    rw [e1] at g he
    apply Nat.le_of_lt_succ
    rw [Nat.div_lt_iff_lt_mul (Nat.two_pow_pos _)]
    rcases (by omega : 0 ≤ e ∨ e < 0) with h0 | h0
    · have x1 : (e - -1074).toNat = e.toNat + 1074 := by omega
      have x2 : (-e).toNat = 0 := by omega
      rw [x1, Nat.pow_add, ← Nat.mul_assoc] at g
      rw [x2, Nat.pow_zero, Nat.mul_one]
      exact Nat.lt_succ_of_le (Nat.le_of_mul_le_mul_right g (Nat.two_pow_pos _))
    · have x1 : e.toNat = 0 := by omega
      have x2 : 2 ^ 1074 = 2 ^ (-e).toNat * 2 ^ (e - -1074).toNat := by rw [← Nat.pow_add]; congr 1; omega
      rw [x2, ← Nat.mul_assoc] at g
      rw [x1, Nat.pow_zero, Nat.mul_one]
      have := Nat.le_of_mul_le_mul_right g (Nat.two_pow_pos _)
      have hp := Nat.two_pow_pos (-e).toNat
      have : 281474976710656 * 2 ^ (-e).toNat < Nat.succ 281474976710656 * 2 ^ (-e).toNat := Nat.mul_lt_mul_of_pos_right (Nat.lt_succ_self _) hp
      omega
  have hc : Toward.down.cut (sgn FloatKind.f64.format b) (m <<< e.toNat) (-e).toNat ≤ 281474976710657 := by
    have hle : Toward.down.cut (sgn FloatKind.f64.format b) (m <<< e.toNat) (-e).toNat ≤ Toward.zero.cut (sgn FloatKind.f64.format b) (m <<< e.toNat) (-e).toNat + 1 := by
      unfold Toward.cut
      simp only [Bool.toNat_false, Nat.add_zero]
      have : (sgn FloatKind.f64.format b && (m <<< e.toNat % 1 <<< min (-e).toNat ((m <<< e.toNat).log2 + 2) != 0)).toNat ≤ 1 := Bool.toNat_le _
      omega
    rw [cut_zero, Nat.shiftLeft_eq] at hle
    rw [Nat.shiftLeft_eq] at *
    omega
  have hf : rung FloatKind.f64.format (flr b) < 4841369599423283200 := by
    have e0 : flr b = FloatKind.f64.format.write (.number (sgn FloatKind.f64.format b) (Toward.down.cut (sgn FloatKind.f64.format b) (m <<< e.toNat) (-e).toNat) 0) := by
      show FloatKind.f64.format.write ((FloatKind.f64.format.read b).integral .down) = _
      rw [hr]; rfl
    rw [e0, rung_write_num]
    exact Nat.lt_of_le_of_lt (rungOf_mono hc 0) (by decide +kernel)
  obtain ⟨n, hn, _⟩ := whole_part hf
  exact ⟨n, hn⟩
end Flt
namespace Go.Proofs.Ytmpeogpmlgnmfaa
open Go.RowKit Flt
set_option exponentiation.threshold 3000

theorem lnK_inv' : ∀ j : Nat, j < 13 → (fop .quo .f64 (cls .f64 4607182418800017408) (lnK j)).any (fun b => decide (rung FloatKind.f64.format b ≤ 4607182418800017408)) = true := by decide +kernel
theorem fd_cls {C b : Nat} (h : rung FloatKind.f64.format b ≤ C) (h2 : rung FloatKind.f64.format b ≤ FloatKind.f64.format.infRung) : Fb .f64 C (cls .f64 b) := ⟨Bd.cls h, by rw [cls_of_le h2]; rfl⟩
theorem fd_lnQ {u : Option Nat} (hu : Fb .f64 4620929931000000000 u) : ∀ j : Nat, j ≤ 13 → Fb .f64 (qB j) (lnQ u j)
  | 0, _ => fd_cls (by decide +kernel) (by decide +kernel)
  | j + 1, hj => by
    have ih := fd_lnQ hu j (by omega)
    have h1 := fd_mul hu ih (by decide +kernel) (qB_fin j (by omega)) (Nat.le_refl _)
    have h2 : Fb .f64 4607182418800017408 (fop .quo .f64 (cls .f64 4607182418800017408) (lnK j)) := by
      have := lnK_inv' j (by omega)
      cases hx : fop .quo .f64 (cls .f64 4607182418800017408) (lnK j) with
      | none => rw [hx] at this; cases this
      | some v => rw [hx] at this; exact ⟨fun b hb => by cases hb; simpa using this, rfl⟩
    exact fd_add h2 h1 (by decide +kernel) (qB_mul j (by omega)) (Nat.le_refl _)
theorem fd_lnS {Y : Nat} (h1 : 4604930618986332160 ≤ Y) (h2 : Y < 4609434218613702656) : Fb .f64 4613712638259704627 (lnS (cls .f64 Y)) := by
  have hY : Fb .f64 4609434218613702656 (cls .f64 Y) := fd_cls (by rw [(cls_pos (b := Y) (by omega)).2]; omega) (by rw [(cls_pos (b := Y) (by omega)).2]; show Y ≤ 9218868437227405312; omega)
  have h1' : Fb .f64 4607182418800017408 (cls .f64 4607182418800017408) := fd_cls (by decide +kernel) (by decide +kernel)
  have ha : Fb .f64 4612811918334230528 (fop .sub .f64 (cls .f64 Y) (cls .f64 4607182418800017408)) :=
    fd_sub hY h1' (by decide +kernel) (by decide +kernel) (by decide +kernel)
  have hb : Fb .f64 (pw 2) (fop .add .f64 (cls .f64 Y) (cls .f64 4607182418800017408)) :=
    fd_add hY h1' (by decide +kernel) (by decide +kernel) (by decide +kernel)
  exact fd_quo ha (lo_plus_one h1 h2) hb.2 (by decide +kernel) (nn_fop _ _ _ _) 60 1647030720866924252 (by decide +kernel) (by decide +kernel) (by decide +kernel)
theorem fd_lnC {Y : Nat} {n : Int} (h1 : 4604930618986332160 ≤ Y) (h2 : Y < 4609434218613702656) (hn1 : -200 ≤ n) (hn2 : n ≤ 200) : Fb .f64 (pw 41) (lnC Y n) := by
  have hs := fd_lnS h1 h2
  have hu : Fb .f64 4620929931000000000 (fop .mul .f64 (lnS (cls .f64 Y)) (lnS (cls .f64 Y))) := fd_mul hs hs (by decide +kernel) (by decide +kernel) (by decide +kernel)
  have hq := fd_lnQ hu 13 (by omega)
  have h3 : Fb .f64 (pw 39) (fop .mul .f64 (lnS (cls .f64 Y)) (lnQ (fop .mul .f64 (lnS (cls .f64 Y)) (lnS (cls .f64 Y))) 13)) := fd_mul hs hq (by decide +kernel) (by decide +kernel) (by decide +kernel)
  have h4 : Fb .f64 (pw 40) (fop .mul .f64 (cls .f64 4611686018427387904) (fop .mul .f64 (lnS (cls .f64 Y)) (lnQ (fop .mul .f64 (lnS (cls .f64 Y)) (lnS (cls .f64 Y))) 13))) := fd_mul (C := 4611686018427387904) (fd_cls (by decide +kernel) (by decide +kernel)) h3 (by decide +kernel) (by decide +kernel) (by decide +kernel)
  have hn : Fb .f64 4643211215818981376 (cls .f64 (floatOfInt .f64 n)) := ⟨bd_lnN hn1 hn2, by
    obtain ⟨f1, _⟩ := floatOfInt_fin n (by omega)
    rw [cls_of_le (Nat.le_of_lt f1)]; rfl⟩
  have h5 : Fb .f64 (pw 8) (fop .mul .f64 (cls .f64 (floatOfInt .f64 n)) (cls .f64 4604418534313441775)) := fd_mul (D := 4604418534313441775) hn (fd_cls (by decide +kernel) (by decide +kernel)) (by decide +kernel) (by decide +kernel) (by decide +kernel)
  exact fd_add h4 h5 (by decide +kernel) (by decide +kernel) (by decide +kernel)
theorem fd_lnP {y : Nat} (h1 : 3936146074321813504 ≤ y) (h2 : y ≤ 5183643171103440896) : Fb .f64 (pw 41) (lnP y) := by
  have e1 : -200 ≤ nOf y ∧ nOf y ≤ 200 := by unfold nOf; omega
  have e2 : 4604930618986332160 ≤ yOf y ∧ yOf y < 4609434218613702656 := by unfold yOf nOf; omega
  exact fd_lnC e2.1 e2.2 e1.1 e1.2
/-- the tenths of a positive word, ahead of the floor -/
def tenC (y : Nat) : Option Nat := fop .add .f64 (fop .mul .f64 (lnP y) (cls .f64 4631308968768463603)) (cls .f64 4602678819172646912)
/-- a positive word's tenths are an integer of 64 bits -/
theorem ten_int {y : Nat} (h1 : 3936146074321813504 ≤ y) (h2 : y ≤ 5183643171103440896) : ∃ v n, tenC y = some v ∧ rung FloatKind.f64.format v < FloatKind.f64.format.infRung ∧ Go.floatToIntVal .f64 (flr v) .i64 = some n := by
  have h := fd_lnP h1 h2
  have h3 : Fb .f64 (pw 47) (fop .mul .f64 (lnP y) (cls .f64 4631308968768463603)) := fd_mul (D := 4631308968768463603) h (fd_cls (by decide +kernel) (by decide +kernel)) (by decide +kernel) (by decide +kernel) (by decide +kernel)
  have h4 : Fb .f64 4823355200913801216 (tenC y) := fd_add (D := 4602678819172646912) h3 (fd_cls (by decide +kernel) (by decide +kernel)) (by decide +kernel) (by decide +kernel) (by decide +kernel)
  obtain ⟨v, hv⟩ := Option.isSome_iff_exists.1 h4.2
  have hb := h4.1 v hv
  obtain ⟨n, hn⟩ := flr_int hb
  exact ⟨v, n, hv, Nat.lt_of_le_of_lt hb (by decide +kernel), hn⟩

theorem call_floor (b : Nat) (w : World) (h : rung FloatKind.f64.format b < FloatKind.f64.format.infRung) : (callFunc 57 #[.float .f64 b]).run Try.prog w = .ok (.value (.float .f64 (flr b))) w :=
  (run_callFunc_extern Try.func57 (by kernel_rfl) (by kernel_rfl) (by kernel_rfl) (e := Extern.MathFloor.toIntegral "math.archFloor" .down) (by kernel_rfl) _ _).trans (by
    obtain ⟨m, e, hr, _, _⟩ := read_fin h
    have hd : FloatKind.f64.decode b = .number (sgn FloatKind.f64.format b) m e := hr
    have e1 : Extern.MathFloor.toIntegral "math.archFloor" .down #[.float .f64 b] = pure (.float .f64 (flr b)) := by
      unfold flr
      show Extern.MathFloor.toIntegral.match_1 (fun _ => Sem Value) (FloatKind.f64.decode b) (fun s t => _) (fun d => _) = _
      rw [hd]
    rw [e1]; rfl)
theorem floor_any (b : Nat) (w : World) (h : rung FloatKind.f64.format b < FloatKind.f64.format.infRung) :
    Calls Try.prog 44 #[.float .f64 b] w fun e w' => e = .returned (.float .f64 (flr b)) ∧ w = w' := by
  have hc := fun w => call_floor b w h
  clear h
  go_enter Try.func44, Try.ntmps44
  go_wp2
  go_ret
  exact ⟨rfl, rfl⟩

/-- whether a power has tenths, and which -/
def tenO (b : Nat) : Bool := finB (cls .f32 b) && (ford .f32 (cls .f32 b) (cls .f32 0) == some .gt)
def tenN (b : Nat) : Int := if tenO b = true then (Go.floatToIntVal .f64 (flr ((tenC (conv .f32 .f64 b)).getD 0)) .i64).getD 0 else 0
set_option maxHeartbeats 2000000 in
theorem tenI (b : Nat) (w : World) (hb : b < 4294967296) :
    Calls Try.prog 22 #[.float .f32 b] w fun e w' => e = .returned (.tuple #[.int .i64 (tenN b), .bool (tenO b)]) ∧ Drew w w' := by
  cases ho : tenO b
  · have HN := Lib.hid (show tenN b = 0 by unfold tenN; rw [if_neg (by rw [ho]; decide)])
    have H : finB (cls .f32 b) = false ∨ (finB (cls .f32 b) = true ∧ (ford .f32 (cls .f32 b) (cls .f32 0) == some .lt || ford .f32 (cls .f32 b) (cls .f32 0) == some .eq) = true) := by
      cases hf : finB (cls .f32 b)
      · exact .inl rfl
      · right
        refine ⟨rfl, ?_⟩
        rcases log_cases b hb with ⟨hn, hl⟩ | ⟨z, _⟩ | ⟨z, _⟩ | rfl | ⟨z, _⟩
        · rw [hn] at hf; cases hf
        · rw [z]; rfl
        · rw [z]; rfl
        · exact absurd hf (by decide +kernel)
        · unfold tenO at ho; rw [hf, z] at ho; exact absurd ho (by decide)
    rcases H with h1 | ⟨h1, h2⟩
    · clear ho
      go_enter Try.func22, Try.ntmps22
      go_wp2_with (first | (refine (isFinite_any _ _).mono ?_; rintro e w1 ⟨n, rfl, rfl⟩))
      go_ret2
      exact ⟨by rw [HN.out]; rfl, by repeat (first | exact Drew.refl _ | refine Drew.drewN ?_ _ | refine Drew.drew ?_)⟩
    · clear ho
      go_enter Try.func22, Try.ntmps22
      go_wp2_with (first | (refine (isFinite_any _ _).mono ?_; rintro e w1 ⟨n, rfl, rfl⟩))
      go_ret2
      exact ⟨by rw [HN.out]; rfl, by repeat (first | exact Drew.refl _ | refine Drew.drewN ?_ _ | refine Drew.drew ?_)⟩
  · have h1 : finB (cls .f32 b) = true := ((Bool.and_eq_true _ _).mp ho).1
    have hg : ford .f32 (cls .f32 b) (cls .f32 0) = some .gt := by simpa using ((Bool.and_eq_true _ _).mp ho).2
    rcases log_cases b hb with ⟨hn, hl⟩ | ⟨z, _⟩ | ⟨z, _⟩ | rfl | ⟨z, z2, e1, e2, hc, hf, y1, y2, hl⟩
    · rw [hn] at hg; cases hg
    · rw [z] at hg; cases hg
    · rw [z] at hg; cases hg
    · exact absurd h1 (by decide +kernel)
    obtain ⟨v, n, hv, hfin, hn⟩ := ten_int y1 y2
    have HN := Lib.hid (show tenN b = n by unfold tenN; rw [if_pos ho, hv]; show (Go.floatToIntVal .f64 (flr v) .i64).getD 0 = n; rw [hn]; rfl)
    have h2 : (ford .f32 (cls .f32 b) (cls .f32 0) == some .lt || ford .f32 (cls .f32 b) (cls .f32 0) == some .eq) = false := by rw [z]; rfl
    have hconv : ∀ τ, rep .f64 (fconv .f32 .f64 (cls .f32 b)) τ = conv .f32 .f64 b := fun τ => by rw [hc]; rfl
    have hcv := fun w => run_convert_float_int (P := Try.prog) w 39 2 .f64 .i64 (flr v) n (by kernel_rfl) Try.underlying2 hn
    have HY := Lib.hid (And.intro y1 y2)
    have HV := Lib.hid hv
    have HF := Lib.hid hfin
    clear ho hg z z2 e1 e2 hc hf y1 y2 hl hv hfin hn
    generalize conv .f32 .f64 b = Y at *
    go_enter Try.func22, Try.ntmps22
    go_wp2_with (first | (refine (isFinite_any _ _).mono ?_; rintro e w1 ⟨n, rfl, rfl⟩) | (refine wpList_conv rfl _ _ _ rfl .f32 .f64 _ rfl (by decide) (by kernel_rfl) Try.underlying39 (noOver_widen _) ?_; intro τ q; rw [hconv τ]) | (refine (ln_i _ _ HY.out.1 HY.out.2).mono ?_; rintro e w1 ⟨r, rfl, hr, _, hd⟩; have HR := Lib.hid hr; have HD := Lib.hid hd; have hten : ∀ σ τ, rep .f64 (fop .add .f64 (cls .f64 (rep .f64 (fop .mul .f64 (cls .f64 r) (cls .f64 4631308968768463603)) σ)) (cls .f64 4602678819172646912)) τ = v := (fun σ τ => by rw [cls_rep' (nn_fop _ _ _ _), HR.out, show fop .add .f64 (fop .mul .f64 (lnP Y) (cls .f64 4631308968768463603)) (cls .f64 4602678819172646912) = some v from HV.out, rep_some]); clear hr hd) | (refine wpList_fop rfl .mul _ _ _ _ rfl rfl .f64 _ _ rfl rfl ?_; intro τ q) | (refine wpList_fop rfl .add _ _ _ _ rfl rfl .f64 _ _ rfl rfl ?_; intro τ q; rw [hten]) | (refine (floor_any _ _ HF.out).mono ?_; rintro e w2 ⟨rfl, rfl⟩))
    go_ret2
    exact ⟨by rw [HN.out]; rfl, by repeat (first | exact ((Drew.refl _).drewN _).trans HD.out | exact HD.out | exact Drew.refl _ | refine Drew.drewN ?_ _ | refine Drew.drew ?_)⟩
end Go.Proofs.Ytmpeogpmlgnmfaa
