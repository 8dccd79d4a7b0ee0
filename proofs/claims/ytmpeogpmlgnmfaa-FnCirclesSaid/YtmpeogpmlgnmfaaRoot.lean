/- The square root's contracts. -/
import Derived.Test.YtmpeogpmlgnmfaaNum
import Derived.Test.YtmpeogpmlgnmfaaBnd
namespace Go.Proofs.Ytmpeogpmlgnmfaa
open Go.RowKit Flt
theorem call_sqrt (b : Nat) (w : World) : (callFunc 62 #[.float .f64 b]).run Try.prog w = ((Extern.MathSqrt.sqrt #[.float .f64 b]).run Try.prog w).andThen fun v w' => .ok (.value v) w' :=
  (run_callFunc_extern Try.func62 (by kernel_rfl) (by kernel_rfl) (by kernel_rfl) (e := Extern.MathSqrt.sqrt) (by kernel_rfl) _ _).trans rfl

theorem upon_sqrt {o : Oper} {a : Act} {K : Act → World → Prop} {Q : Exit → Act → World → Prop} {b : Nat} {w : World}
    (h : ∀ (τ : Tp .f64) (n : Nat), K (a.put o.dst (.float .f64 (rep .f64 (fsqrt (cls .f64 b)) τ))) (w.drewN n)) :
    Oper.upon Try.prog o a K Q ((callFunc 62 #[.float .f64 b]).run Try.prog w) := by
  obtain ⟨r, n, hr, hc, hlt⟩ := sem_sqrt (P := Try.prog) w b
  obtain ⟨τ, hτ⟩ := exists_of hc hlt
  have hh := h τ n
  rw [← hτ] at hh
  rw [call_sqrt, hr]
  exact hh

theorem root_any (b : Nat) (w : World) :
    Calls Try.prog 56 #[.float .f64 b] w fun e w' => ∃ (τ : Tp .f64) (n : Nat), e = .returned (.float .f64 (rep .f64 (fsqrt (cls .f64 b)) τ)) ∧ w' = w.drewN n := by
  go_enter Try.func56, Try.ntmps56
  go_wp2_with (first | (refine upon_sqrt ?_; intro τ n))
  go_ret
  exact ⟨τ, n, rfl, rfl⟩

/-- the root of a widened float32, narrowed -/
def rootC (c : Option Nat) : Option Nat := fconv .f64 .f32 (fsqrt (fconv .f32 .f64 c))
theorem nn_rootC (c : Option Nat) : Nn .f32 (rootC c) := nn_fconv _ _ _ (nn_fsqrt _)
theorem sqrt_noOver (b : Nat) (τ : Tp .f64) : NoOver .f64 .f32 (rep .f64 (fsqrt (fconv .f32 .f64 (cls .f32 b))) τ) := by
  intro hlt
  generalize hx : fsqrt (fconv .f32 .f64 (cls .f32 b)) = c at *
  cases c with
  | none => have := τ.2.1; unfold rep at hlt; simp only [Option.getD_none] at hlt; omega
  | some r =>
    have hlt' : rung FloatKind.f64.format r < FloatKind.f64.format.infRung := hlt
    show rungOf FloatKind.f32.format (rval FloatKind.f64.format (rung FloatKind.f64.format r)) _ < _
    unfold fsqrt at hx
    split at hx
    · rename_i a ha
      have hfin : rung FloatKind.f64.format a < FloatKind.f64.format.infRung := by
        rcases Nat.lt_or_ge (rung FloatKind.f64.format a) FloatKind.f64.format.infRung with h | h
        · exact h
        · exfalso
          have hnn := nn_fconv .f32 .f64 _ (nn_cls .f32 b) a ha
          have he : rung FloatKind.f64.format a = FloatKind.f64.format.infRung := Nat.le_antisymm hnn h
          unfold Ieee.Format.sqrt at hx
          rw [read_inf (eb .f64) he] at hx
          simp only [Ieee.Datum.root] at hx
          split at hx
          · cases hx
          · simp only [Option.map_some, Option.some.injEq] at hx
            subst hx
            rw [show rung FloatKind.f64.format (FloatKind.f64.format.write (.infinity (sgn FloatKind.f64.format a))) = FloatKind.f64.format.infRung from word_rung _ inf_lt_sw] at hlt'
            omega
      have hbd : rung FloatKind.f64.format a ≤ 5183643171103440896 - 1 := by
        cases hcb : cls .f32 b with
        | none => rw [hcb] at ha; cases ha
        | some q =>
          rw [hcb] at ha
          have e : a = conv .f32 .f64 q := by unfold fconv at ha; simp at ha; exact ha.symm
          have hq := (cls_some hcb).2
          rcases Nat.lt_or_eq_of_le (show rung FloatKind.f32.format q ≤ FloatKind.f32.format.infRung from by have := (cls_some hcb).1; subst this; exact hq) with h1 | h1
          · rw [e, conv_rung h1]
            have h1' : rung FloatKind.f32.format q ≤ 2139095039 := by
              have e : FloatKind.f32.format.infRung = 2139095040 := rfl
              omega
            exact Nat.le_trans (rungOf_mono (rval_le (by decide) h1') _) (by decide +kernel)
          · rw [e, conv_inf h1] at hfin; omega
      have hs := sqrt_fin (q := 64) hfin (by decide) (Nat.le_trans (rval_le (by decide +kernel) hbd) (by decide +kernel)) hx
      exact Nat.lt_of_le_of_lt (rungOf_mono (rval_le (by decide +kernel) hs) _) (by decide +kernel)
    · cases hx


theorem narrow_any (b : Nat) (w : World) (hno : NoOver .f64 .f32 b) :
    Calls Try.prog 61 #[.float .f64 b] w fun e w' => ∃ (τ : Tp .f32) (n : Nat), e = .returned (.float .f32 (rep .f32 (fconv .f64 .f32 (cls .f64 b)) τ)) ∧ w' = w.drewN n := by
  go_enter Try.func61, Try.ntmps61
  go_wp2_with (first | (refine wpList_conv rfl _ _ _ rfl .f64 .f32 _ rfl (by decide) (by kernel_rfl) Try.underlying34 hno ?_; intro ρ q))
  go_ret
  exact ⟨ρ, q, rfl, rfl⟩

end Go.Proofs.Ytmpeogpmlgnmfaa
