/- Slices of complex64: what marks them, what finds the marks, whether two are the same; the conversion of a complex number. -/
import Derived.Test.YtmpeogpmlgnmfaaDoorOwn
import Derived.Test.YtmpeogpmlgnmfaaDoorArr
namespace Go.Proofs.YtmpeogpmlgnmfaaDoor
open Go.RowKit Go.Deep Flt

section
variable {P : Program} {ops : Array Oper} {rest : List Oper} {o : Oper} {a : Act} {w : World} {Q : Exit → Act → World → Prop}
theorem run_conv_c (w : World) (src dst : TypeId) (s k : FloatKind) (hne : s ≠ k) (x y : Nat) (hs : (P.underlying src).isSome = true) (hd : P.underlying dst = some (.complex k)) (hx : NoOver s k x) (hy : NoOver s k y) :
    ∃ (τ σ : Tp k) (n : Nat), (convert src dst (.complex s x y)).run P w = .ok (.complex k (rep k (fconv s k (cls s x)) τ) (rep k (fconv s k (cls s y)) σ)) (w.drewN n) := by
  obtain ⟨r, n, h1, h2, h3⟩ := sem_conv (P := P) w s k hne x hx
  obtain ⟨q, m, g1, g2, g3⟩ := sem_conv (P := P) (w.drewN n) s k hne y hy
  obtain ⟨τ, hτ⟩ := exists_of h2 h3
  obtain ⟨σ, hσ⟩ := exists_of g2 g3
  refine ⟨τ, σ, n + m, ?_⟩
  rw [← hτ, ← hσ]
  obtain ⟨u, hs'⟩ := Option.isSome_iff_exists.1 hs
  cases u <;> simp [convert, run_underlying hs', run_underlying hd, Conv.complexToComplex, h1, g1, World.drewN_drewN]
theorem wpList_conv_c (hgd : o.guard = none) (src dst : TypeId) (x : Operand) (ho : o.op = .convert src dst x)
    (s k : FloatKind) (b c : Nat) (hx : a.eval x = .complex s b c) (hne : s ≠ k) (hs : (P.underlying src).isSome = true) (hd : P.underlying dst = some (.complex k)) (hb : NoOver s k b) (hc : NoOver s k c)
    (h : ∀ (τ σ : Tp k) (n : Nat), wpList P ops Q rest (a.put o.dst (.complex k (rep k (fconv s k (cls s b)) τ) (rep k (fconv s k (cls s c)) σ))) (w.drewN n)) : wpList P ops Q (o :: rest) a w :=
  wpList_plain hgd fun K hK => by
    obtain ⟨τ, σ, n, hr⟩ := run_conv_c (P := P) w src dst s k hne b c hs hd hb hc
    have hh := hK _ _ (h τ σ n)
    unfold Oper.wp execOp
    simp only [ho, hx, Sem.run_bind, Sem.run_pure, Result.andThen_ok, hr]
    exact hh
variable {K : Act → World → Prop}
/-- a conversion that stands half run -/
theorem upon_conv_c (src dst : TypeId) (s k : FloatKind) (b c : Nat) (hne : s ≠ k) (hs : (P.underlying src).isSome = true) (hd : P.underlying dst = some (.complex k)) (hb : NoOver s k b) (hc : NoOver s k c)
    (h : ∀ (τ σ : Tp k) (n : Nat), K (a.put o.dst (.complex k (rep k (fconv s k (cls s b)) τ) (rep k (fconv s k (cls s c)) σ))) (w.drewN n)) :
    Oper.upon P o a K Q ((Sem.run P (convert src dst (.complex s b c)) w).andThen fun v w' => .ok (.value v) w') := by
  obtain ⟨τ, σ, n, hr⟩ := run_conv_c (P := P) w src dst s k hne b c hs hd hb hc
  have hh := h τ σ n
  rw [hr]
  exact hh
end
/-- the mark: a float64 that stands for a number below 2^22, narrowed -/
def mkC (z : Nat) : Nat := conv .f64 .f32 (floatOfInt .f64 (z : Int))
theorem mk_low : ∀ z : Nat, z < 300 → rung FloatKind.f64.format (floatOfInt .f64 (z : Int)) ≤ 4643985272004935680 := by decide +kernel
theorem mk_top : rungOf FloatKind.f32.format (rval FloatKind.f64.format 4643985272004935680) FloatKind.f64.format.leastPlace < FloatKind.f32.format.infRung := by decide +kernel
theorem mk_inf : 4643985272004935680 ≤ FloatKind.f64.format.infRung := by decide +kernel
theorem mk_fin1 (z : Nat) (h : z < 300) : rung FloatKind.f64.format (floatOfInt .f64 (z : Int)) ≤ FloatKind.f64.format.infRung := Nat.le_trans (mk_low z h) mk_inf
theorem mk_fin3 {z : Nat} (h : z < 300) : rung FloatKind.f32.format (mkC z) ≤ FloatKind.f32.format.infRung := conv_nn (mk_fin1 z h)
theorem mk_fin (z : Nat) (hz : z < 300) : rung FloatKind.f64.format (floatOfInt .f64 (z : Int)) ≤ FloatKind.f64.format.infRung ∧ NoOver .f64 .f32 (floatOfInt .f64 (z : Int)) ∧ rung FloatKind.f32.format (mkC z) ≤ FloatKind.f32.format.infRung :=
  ⟨mk_fin1 z hz, noOver_le mk_top mk_inf (mk_low z hz), mk_fin3 hz⟩
theorem mk_cls {z : Nat} (h : z < 300) : cls .f64 (floatOfInt .f64 (z : Int)) = some (floatOfInt .f64 (z : Int)) ∧ cls .f32 (mkC z) = some (mkC z) := by
  obtain ⟨a1, _, a3⟩ := mk_fin z h
  unfold cls
  rw [if_pos a1, if_pos a3]
  exact ⟨rfl, rfl⟩
/-- one as a float64, and narrowed -/
theorem one_cls : cls .f64 4607182418800017408 = some 4607182418800017408 ∧ conv .f64 .f32 4607182418800017408 = 1065353216 ∧ cls .f32 1065353216 = some 1065353216 := by decide +kernel
theorem one_noOver : NoOver .f64 .f32 4607182418800017408 := fun _ => by decide +kernel
theorem fconv_some (s k : FloatKind) (b : Nat) : fconv s k (some b) = some (conv s k b) := rfl
theorem rep_mk {z : Nat} (h : z < 300) (τ : Tp .f32) : rep .f32 (fconv .f64 .f32 (cls .f64 (floatOfInt .f64 (z : Int)))) τ = mkC z := by
  rw [(mk_cls h).1, fconv_some, rep_some]
  rfl
theorem rep_one (τ : Tp .f32) : rep .f32 (fconv .f64 .f32 (cls .f64 4607182418800017408)) τ = 1065353216 := by
  rw [one_cls.1, fconv_some, rep_some, one_cls.2.1]
theorem Touched.drewN {w w' : World} {lo hi : Nat} (h : Touched w w' lo hi) (n : Nat) : Touched w (w'.drewN n) lo hi := ⟨h.os, h.tape, h.output, h.size, h.block⟩
/-- the mark in a cell -/
def mkV (z : Nat) : Value := .complex .f32 (mkC z) 1065353216
set_option maxRecDepth 100000 in
set_option maxHeartbeats 1000000 in
theorem markC_any (A : Option Addr) (n c : Nat) (f : Nat → Value) (lo hi : Nat) (k0 : Nat) (w : World) (h : OwnV w 64 A n f lo hi) (hn : n ≤ 280) (hk : k0 ≤ 20) :
    Calls Tryd.prog 33 #[.slice A n c, .int .i64 (k0 : Int)] w fun e w' => e = .returned (.int .i64 ((k0 + n : Nat) : Int)) ∧ OwnV w' 64 A n (fun i => mkV (k0 + i)) lo hi ∧ Touched w w' lo hi := by
  rcases h with h0 | ⟨g, m, h, rfl, h1, h2, hr, hm, hf⟩
  · subst h0
    go_enter Tryd.func33, Tryd.ntmps33
    go_wp2
    go_loopw [1, 5] (fun tk ti wx => ti = .int .i64 0 ∧ tk = .int .i64 (k0 : Int) ∧ wx = w) (fun _ _ _ => 0)
    case atStart => exact ⟨rfl, rfl, rfl⟩
    case round =>
      obtain ⟨rfl, rfl, rfl⟩ := hrel
      go_wp2
      go_ret
      exact ⟨rfl, .inl rfl, Touched.refl _ _ _⟩
  · go_enter Tryd.func33, Tryd.ntmps33
    go_wp2
    go_loopw [1, 5] (fun tk ti wx => ∃ j : Nat, j ≤ n ∧ ti = .int .i64 j ∧ tk = .int .i64 ((k0 + j : Nat) : Int) ∧ (∃ h', wx.rowIs g 64 m h' ∧ ∀ i, i < j → h' i = mkV (k0 + i)) ∧ Touched w wx lo hi) (fun _ ti _ => n - (intOf ti).toNat)
    case atStart => exact ⟨0, Nat.zero_le _, rfl, rfl, ⟨h, hr, fun i hi => by omega⟩, Touched.refl _ _ _⟩
    case round =>
      obtain ⟨j, hj, rfl, rfl, ⟨h', hr', hh'⟩, ht⟩ := hrel
      have HT := Lib.hid ht
      have HH := Lib.hid hh'
      by_cases hlt : j < n
      · have hlt' : (j : Int) < (n : Int) := by omega
        have cj := hr'.cell (i := j) (by omega)
        have fj := hr'.frozen j
        have HR := Lib.hid hr'
        have hz : k0 + j < 300 := by omega
        obtain ⟨_, hno, _⟩ := mk_fin (k0 + j) hz
        have HNO := Lib.hid hno
        have HRM := Lib.hid (fun τ => rep_mk hz τ)
        rw [Int.natCast_add] at HNO HRM
        clear hr' hh' ht hr hf hno
        go_wp2_with (first | (refine wpList_conv_c rfl _ _ _ rfl .f64 .f32 _ _ rfl (by decide) (by kernel_rfl) Tryd.underlying64 HNO.out one_noOver ?_; intro τ σ q; rw [HRM.out, rep_one]))
        go_roundw
        case rel =>
          refine ⟨j + 1, by omega, by go_num, congrArg (Value.int .i64) (by omega), ⟨_, (row_drewN HR.out _).set j (mkV (k0 + j)), fun i hi => ?_⟩, (HT.out.drewN _).set (g := g) (by omega) (by omega) j _⟩
          by_cases e : i = j
          · simp [e]
          · simp only [e, if_false]; exact HH.out i (by omega)
        case measure => simp [intOf]; omega
      · obtain rfl : j = n := by omega
        have HR := Lib.hid (show OwnV wr 64 (some ⟨g, 0, none⟩) j (fun i => mkV (k0 + i)) lo hi from .inr ⟨g, m, h', rfl, h1, h2, hr', hm, hh'⟩)
        clear hr' hh' ht hr hf
        go_wp2
        go_ret
        exact ⟨rfl, HR.out, HT.out⟩
set_option maxRecDepth 100000 in
set_option maxHeartbeats 1000000 in
theorem heldC_any (A : Option Addr) (n c : Nat) (lo hi : Nat) (k0 : Nat) (w : World) (h : OwnV w 64 A n (fun i => mkV (k0 + i)) lo hi) (hn : n ≤ 280) (hk : k0 ≤ 20) :
    Calls Tryd.prog 34 #[.slice A n c, .int .i64 (k0 : Int)] w fun e w' => e = .returned (.int .i64 ((k0 + n : Nat) : Int)) ∧ Drew w w' := by
  go_enter Tryd.func34, Tryd.ntmps34
  go_wp2
  go_loopw [1, 5] (fun tk ti wx => ∃ j : Nat, j ≤ n ∧ ti = .int .i64 j ∧ tk = .int .i64 ((k0 + j : Nat) : Int) ∧ Drew w wx) (fun _ ti _ => n - (intOf ti).toNat)
  case atStart => exact ⟨0, Nat.zero_le _, rfl, rfl, Drew.refl _⟩
  case round =>
    obtain ⟨j, hj, rfl, rfl, hd⟩ := hrel
    have HD := Lib.hid hd
    by_cases hlt : j < n
    · have hlt' : (j : Int) < (n : Int) := by omega
      rcases h with h0 | ⟨g, m, h, rfl, h1, h2, hr, hm, hf⟩
      · omega
      have cj : wr.cell? ⟨g, j, none⟩ = some (mkV (k0 + j)) := (hd.cell _).trans ((hr.cell (i := j) (by omega)).trans (by rw [hf j hlt]))
      unfold mkV at cj
      have hz : k0 + j < 300 := by omega
      obtain ⟨_, hno, hfin⟩ := mk_fin (k0 + j) hz
      have HNO := Lib.hid hno
      have HRM := Lib.hid (fun τ => rep_mk hz τ)
      rw [Int.natCast_add] at HNO HRM
      have hcl := (mk_cls hz).2
      have hfs := ford_self hfin
      have hc1 := one_cls.2.2
      have hf1 : ford .f32 (some 1065353216) (some 1065353216) = some .eq := by decide +kernel
      generalize mkC (k0 + j) = x at *
      clear hr hf hd hno hfin
      go_wp2_with (first | (refine wpList_conv_c rfl _ _ _ rfl .f64 .f32 _ _ rfl (by decide) (by kernel_rfl) Tryd.underlying64 HNO.out one_noOver ?_; intro τ σ q; rw [HRM.out, rep_one]))
      go_roundw
      case rel => exact ⟨j + 1, by omega, by go_num, congrArg (Value.int .i64) (by omega), HD.out.drewN _⟩
      case measure => simp [intOf]; omega
    · obtain rfl : j = n := by omega
      clear h hd
      go_wp2
      go_ret
      exact ⟨rfl, HD.out⟩
theorem sameComplex_same (a b c d : Nat) (w : World) (h1 : cls .f64 a = cls .f64 c) (h2 : cls .f64 b = cls .f64 d) :
    Calls Tryd.prog 56 #[.complex .f64 a b, .complex .f64 c d] w fun e w' => ∃ n, e = .returned (.bool true) ∧ w' = w.drewN n := by
  go_enter Tryd.func56, Tryd.ntmps56
  go_wp2_with (first | (go_at_call 45; refine (sameFloat_same _ _ _ (by first | exact h1 | exact h2)).mono ?_; rintro e w5 ⟨k, rfl, rfl⟩))
  go_ret
  exact ⟨_, rfl, rfl⟩
/-- the first n cells of a block are the complex numbers X, Y -/
def C64s (w : World) (g : Nat) (X Y : Nat → Nat) (n : Nat) : Prop := ∀ i, i < n → w.cell? ⟨g, i, none⟩ = some (.complex .f32 (X i) (Y i))
set_option maxRecDepth 100000 in
set_option maxHeartbeats 2000000 in
theorem eqC_same (g h : Nat) (X Y X' Y' : Nat → Nat) (n c d : Nat) (w : World) (hx : C64s w g X Y n) (hy : C64s w h X' Y' n) (hs : ∀ i, i < n → cls .f32 (X i) = cls .f32 (X' i) ∧ cls .f32 (Y i) = cls .f32 (Y' i)) (hb : n ≤ 1048576) :
    Calls Tryd.prog 32 #[.slice (some ⟨g, 0, none⟩) n c, .slice (some ⟨h, 0, none⟩) n d] w fun e w' => e = .returned (.bool true) ∧ Drew w w' := by
  go_enter Tryd.func32, Tryd.ntmps32
  go_wp2
  go_loopw [5] (fun i wr => ∃ k : Nat, k ≤ n ∧ i = .int .i64 k ∧ Drew w wr) (fun i _ => n - (intOf i).toNat)
  case atStart => exact ⟨0, Nat.zero_le _, rfl, Drew.refl _⟩
  case round =>
    obtain ⟨k, hk, rfl, hwr⟩ := hrel
    have Hw := Lib.hid hwr
    by_cases hlt : k < n
    · have cx : wr.cell? ⟨g, k, none⟩ = some (.complex .f32 (X k) (Y k)) := (hwr.cell _).trans (hx k hlt)
      have cy : wr.cell? ⟨h, k, none⟩ = some (.complex .f32 (X' k) (Y' k)) := (hwr.cell _).trans (hy k hlt)
      have Hs := Lib.hid (hs k hlt)
      have hlt' : (k : Int) < (n : Int) := by omega
      have hk0 : (0 : Int) ≤ (k : Int) := by omega
      clear hwr hs hx hy
      go_wp2
      go_region_with (first | (refine upon_conv_c _ _ .f32 .f64 _ _ (by decide) (by kernel_rfl) Tryd.underlying67 (noOver_widen _) (noOver_widen _) ?_; intro τ σ q) | (go_at_call 56; refine (sameComplex_same _ _ _ _ _ (by rw [cls_rep' (nn_fconv _ _ _ (nn_cls _ _)), cls_rep' (nn_fconv _ _ _ (nn_cls _ _)), Hs.out.1]) (by rw [cls_rep' (nn_fconv _ _ _ (nn_cls _ _)), cls_rep' (nn_fconv _ _ _ (nn_cls _ _)), Hs.out.2])).mono ?_; rintro e w' ⟨q, rfl, rfl⟩))
      all_goals
        go_wp2
        go_roundw
        case rel => exact ⟨k + 1, by omega, by go_num, by repeat (first | exact Hw.out | refine Drew.drewN ?_ _ | refine Drew.drew ?_)⟩
        case measure => simp [intOf]; omega
    · have hkn : k = n := by omega
      subst hkn
      clear hwr
      go_wp2
      go_ret
      exact ⟨rfl, Hw.out⟩
set_option maxHeartbeats 1000000 in
theorem eqC_own (A : Option Addr) (n c : Nat) (B : Option Addr) (d : Nat) (f g f' g' : Nat → Nat) (lo hi lo' hi' : Nat) (w : World) (h : OwnV w 64 A n (fun i => .complex .f32 (f i) (g i)) lo hi) (k : OwnV w 64 B n (fun i => .complex .f32 (f' i) (g' i)) lo' hi') (hs : ∀ i, i < n → cls .f32 (f i) = cls .f32 (f' i) ∧ cls .f32 (g i) = cls .f32 (g' i)) (hn : n ≤ 1048576) :
    Calls Tryd.prog 32 #[.slice A n c, .slice B n d] w fun e w' => e = .returned (.bool true) ∧ Drew w w' := by
  rcases Nat.eq_zero_or_pos n with rfl | h0
  · clear h k
    go_enter Tryd.func32, Tryd.ntmps32
    go_wp2
    go_loopw [5] (fun ti wx => ti = .int .i64 0 ∧ wx = w) (fun ti _ => 0)
    case atStart => exact ⟨rfl, rfl⟩
    case round =>
      obtain ⟨rfl, rfl⟩ := hrel
      go_wp2
      go_ret
      exact ⟨rfl, Drew.refl _⟩
  · rcases h with h1 | ⟨p, m, q, rfl, _, _, hr, hm, hf⟩
    · omega
    rcases k with h1 | ⟨p', m', q', rfl, _, _, hr', hm', hf'⟩
    · omega
    exact eqC_same p p' f g f' g' n c d w (fun i hi => by rw [hr.cell (i := i) (by omega), hf i hi]) (fun i hi => by rw [hr'.cell (i := i) (by omega), hf' i hi]) hs hn
end Go.Proofs.YtmpeogpmlgnmfaaDoor
