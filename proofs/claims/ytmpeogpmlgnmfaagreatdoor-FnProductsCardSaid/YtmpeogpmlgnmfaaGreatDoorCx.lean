/- Slices of complex64: what marks them, what finds the marks, whether two are the same; the conversion of a complex number. -/
import Derived.Test.YtmpeogpmlgnmfaaGreatDoorOwn
import Derived.Test.YtmpeogpmlgnmfaaGreatDoorArr
namespace Go.Proofs.YtmpeogpmlgnmfaaGreatDoor
set_option maxRecDepth 100000
open Go.RowKit Go.Deep Flt

section
variable {P : Program} {ops : Array Oper} {rest : List Oper} {o : Oper} {a : Act} {w : World} {Q : Exit → Act → World → Prop}
theorem run_conv_c (w : World) (src dst : TypeId) (s k : FloatKind) (hne : s ≠ k) (x y : Nat) (hs : (P.underlying src).isSome = true) (hd : P.underlying dst = some (.complex k)) (hx : NoOver s k x) (hy : NoOver s k y) :
    ∃ (τ σ : Tp k) (n : Nat), (convert src dst (.complex s x y)).run P w = .ok (.complex k (rep k (fconv s k (cls s x)) τ) (rep k (fconv s k (cls s y)) σ)) (w.drewN n) := by
  obtain ⟨r, n, h1, h2, h3⟩ := sem_conv (P := P) w s k hne x hx
  obtain ⟨q, m, g1, g2, g3⟩ := sem_conv (P := P) (w.drewN n) s k hne y hy
  obtain ⟨τ, hτ⟩ := exists_of h2 h3
  obtain ⟨σ, hσ⟩ := exists_of g2 g3
  refine ⟨τ, σ, n + m, ?_⟩
  rw [← hτ, ← hσ]
  obtain ⟨u, hs'⟩ := Option.isSome_iff_exists.1 hs
  cases u <;> simp [convert, run_underlying hs', run_underlying hd, Conv.complexToComplex, h1, g1, World.drewN_drewN]
theorem wpList_conv_c (hgd : o.guard = none) (src dst : TypeId) (x : Operand) (ho : o.op = .convert src dst x)
    (s k : FloatKind) (b c : Nat) (hx : a.eval x = .complex s b c) (hne : s ≠ k) (hs : (P.underlying src).isSome = true) (hd : P.underlying dst = some (.complex k)) (hb : NoOver s k b) (hc : NoOver s k c)
    (h : ∀ (τ σ : Tp k) (n : Nat), wpList P ops Q rest (a.put o.dst (.complex k (rep k (fconv s k (cls s b)) τ) (rep k (fconv s k (cls s c)) σ))) (w.drewN n)) : wpList P ops Q (o :: rest) a w :=
  wpList_plain hgd fun K hK => by
    obtain ⟨τ, σ, n, hr⟩ := run_conv_c (P := P) w src dst s k hne b c hs hd hb hc
    have hh := hK _ _ (h τ σ n)
    unfold Oper.wp execOp
    simp only [ho, hx, Sem.run_bind, Sem.run_pure, Result.andThen_ok, hr]
    exact hh
variable {K : Act → World → Prop}
/-- a conversion that stands half run -/
theorem upon_conv_c (src dst : TypeId) (s k : FloatKind) (b c : Nat) (hne : s ≠ k) (hs : (P.underlying src).isSome = true) (hd : P.underlying dst = some (.complex k)) (hb : NoOver s k b) (hc : NoOver s k c)
    (h : ∀ (τ σ : Tp k) (n : Nat), K (a.put o.dst (.complex k (rep k (fconv s k (cls s b)) τ) (rep k (fconv s k (cls s c)) σ))) (w.drewN n)) :
    Oper.upon P o a K Q ((Sem.run P (convert src dst (.complex s b c)) w).andThen fun v w' => .ok (.value v) w') := by
  obtain ⟨τ, σ, n, hr⟩ := run_conv_c (P := P) w src dst s k hne b c hs hd hb hc
  have hh := h τ σ n
  rw [hr]
  exact hh
end
/-- the mark: a float64 that stands for a number below 2^22, narrowed -/
def mkC (z : Nat) : Nat := conv .f64 .f32 (floatOfInt .f64 (z : Int))
theorem mk_low : ∀ z : Nat, z < 300 → rung FloatKind.f64.format (floatOfInt .f64 (z : Int)) ≤ 4643985272004935680 := by decide +kernel
theorem mk_top : rungOf FloatKind.f32.format (rval FloatKind.f64.format 4643985272004935680) FloatKind.f64.format.leastPlace < FloatKind.f32.format.infRung := by decide +kernel
theorem mk_inf : 4643985272004935680 ≤ FloatKind.f64.format.infRung := by decide +kernel
theorem mk_fin1 (z : Nat) (h : z < 300) : rung FloatKind.f64.format (floatOfInt .f64 (z : Int)) ≤ FloatKind.f64.format.infRung := Nat.le_trans (mk_low z h) mk_inf
theorem mk_fin3 {z : Nat} (h : z < 300) : rung FloatKind.f32.format (mkC z) ≤ FloatKind.f32.format.infRung := conv_nn (mk_fin1 z h)
theorem mk_fin (z : Nat) (hz : z < 300) : rung FloatKind.f64.format (floatOfInt .f64 (z : Int)) ≤ FloatKind.f64.format.infRung ∧ NoOver .f64 .f32 (floatOfInt .f64 (z : Int)) ∧ rung FloatKind.f32.format (mkC z) ≤ FloatKind.f32.format.infRung :=
  ⟨mk_fin1 z hz, noOver_le mk_top mk_inf (mk_low z hz), mk_fin3 hz⟩
theorem mk_cls {z : Nat} (h : z < 300) : cls .f64 (floatOfInt .f64 (z : Int)) = some (floatOfInt .f64 (z : Int)) ∧ cls .f32 (mkC z) = some (mkC z) := by
  obtain ⟨a1, _, a3⟩ := mk_fin z h
  unfold cls
  rw [if_pos a1, if_pos a3]
  exact ⟨rfl, rfl⟩
/-- one as a float64, and narrowed -/
theorem one_cls : cls .f64 4607182418800017408 = some 4607182418800017408 ∧ conv .f64 .f32 4607182418800017408 = 1065353216 ∧ cls .f32 1065353216 = some 1065353216 := by decide +kernel
theorem one_noOver : NoOver .f64 .f32 4607182418800017408 := fun _ => by decide +kernel
theorem fconv_some (s k : FloatKind) (b : Nat) : fconv s k (some b) = some (conv s k b) := rfl
theorem rep_mk {z : Nat} (h : z < 300) (τ : Tp .f32) : rep .f32 (fconv .f64 .f32 (cls .f64 (floatOfInt .f64 (z : Int)))) τ = mkC z := by
  rw [(mk_cls h).1, fconv_some, rep_some]
  rfl
theorem rep_one (τ : Tp .f32) : rep .f32 (fconv .f64 .f32 (cls .f64 4607182418800017408)) τ = 1065353216 := by
  rw [one_cls.1, fconv_some, rep_some, one_cls.2.1]
theorem Touched.drewN {w w' : World} {lo hi : Nat} (h : Touched w w' lo hi) (n : Nat) : Touched w (w'.drewN n) lo hi := ⟨h.os, h.tape, h.output, h.size, h.block⟩
/-- the mark in a cell -/
def mkV (z : Nat) : Value := .complex .f32 (mkC z) 1065353216
end Go.Proofs.YtmpeogpmlgnmfaaGreatDoor
