/- FnExactSameLaw: for every two laws the law returns true: program and reference answer yes just where kinds are equal and shapes and scales are the same numbers. -/
import Derived.Test.YtehohiicecnmeaaSameLaw
namespace Go.Proofs.Ytehohiicecnmeaa.FnExactSameLaw
open Go.ChangeShapes Go.WideShapes Go.ChangeAt Go.RowKit Flt

/-- what is held while the two copies are made: both boxes, and all that was there before -/
theorem keep6 {w w1 w2 : World} {g h : Nat} {x0 x1 x2 y0 y1 y2 : Value} 
    (hs : w1.cell? ⟨g, 0, none⟩ = some x0 ∧ w1.cell? ⟨g, 1, none⟩ = some x1 ∧ w1.cell? ⟨g, 2, none⟩ = some x2 ∧ w1.cell? ⟨h, 0, none⟩ = some y0 ∧ w1.cell? ⟨h, 1, none⟩ = some y1 ∧ w1.cell? ⟨h, 2, none⟩ = some y2 ∧ Below w.heap.size w w1) (hb : Below w1.heap.size w1 w2) :
    w2.cell? ⟨g, 0, none⟩ = some x0 ∧ w2.cell? ⟨g, 1, none⟩ = some x1 ∧ w2.cell? ⟨g, 2, none⟩ = some x2 ∧ w2.cell? ⟨h, 0, none⟩ = some y0 ∧ w2.cell? ⟨h, 1, none⟩ = some y1 ∧ w2.cell? ⟨h, 2, none⟩ = some y2 ∧ Below w.heap.size w w2 := by
  obtain ⟨a0, a1, a2, b0, b1, b2, hB⟩ := hs
  have lt : ∀ {p : Addr} {v : Value}, w1.cell? p = some v → w2.cell? p = some v := fun {p v} hp => (hb.cell (World.block_lt_of_cell? w1 _ hp)).trans hp
  exact ⟨lt a0, lt a1, lt a2, lt b0, lt b1, lt b2, hB.trans (hb.mono hB.size)⟩
theorem keep6d {w w1 : World} {g h : Nat} {x0 x1 x2 y0 y1 y2 : Value} 
    (hs : w1.cell? ⟨g, 0, none⟩ = some x0 ∧ w1.cell? ⟨g, 1, none⟩ = some x1 ∧ w1.cell? ⟨g, 2, none⟩ = some x2 ∧ w1.cell? ⟨h, 0, none⟩ = some y0 ∧ w1.cell? ⟨h, 1, none⟩ = some y1 ∧ w1.cell? ⟨h, 2, none⟩ = some y2 ∧ Below w.heap.size w w1) :
    w1.drew.cell? ⟨g, 0, none⟩ = some x0 ∧ w1.drew.cell? ⟨g, 1, none⟩ = some x1 ∧ w1.drew.cell? ⟨g, 2, none⟩ = some x2 ∧ w1.drew.cell? ⟨h, 0, none⟩ = some y0 ∧ w1.drew.cell? ⟨h, 1, none⟩ = some y1 ∧ w1.drew.cell? ⟨h, 2, none⟩ = some y2 ∧ Below w.heap.size w w1.drew := by
  obtain ⟨a0, a1, a2, b0, b1, b2, hB⟩ := hs
  exact ⟨a0, a1, a2, b0, b1, b2, hB.drew⟩
theorem keep6s {w : World} {x0 x1 x2 y0 y1 y2 : Value} {t u : TypeId} {w1 : World} (e : w1 = ((w.alloc (.cells #[x0, x1, x2] t)).alloc (.cells #[y0, y1, y2] u))) :
    w1.cell? ⟨w.heap.size, 0, none⟩ = some x0 ∧ w1.cell? ⟨w.heap.size, 1, none⟩ = some x1 ∧ w1.cell? ⟨w.heap.size, 2, none⟩ = some x2 ∧ w1.cell? ⟨w.heap.size + 1, 0, none⟩ = some y0 ∧ w1.cell? ⟨w.heap.size + 1, 1, none⟩ = some y1 ∧ w1.cell? ⟨w.heap.size + 1, 2, none⟩ = some y2 ∧ Below w.heap.size w w1 := by
  subst e
  refine ⟨?_, ?_, ?_, ?_, ?_, ?_, (((Below.refl _ _).alloc (Nat.le_refl _) _).alloc (by simp) _)⟩ <;> go_simp

set_option maxHeartbeats 1000000 in
theorem walk (k1 : Int) (a1 b1 : Nat) (k2 : Int) (a2 b2 : Nat) (w : World) (_wk1 : (Lit.int .i64 k1).wf = true) (wa1 : a1 < 4294967296) (wb1 : b1 < 4294967296) (_wk2 : (Lit.int .i64 k2).wf = true) (wa2 : a2 < 4294967296) (wb2 : b2 < 4294967296) :
    Calls Try.prog 13 #[.agg #[.int .i64 k1, .float .f32 a1, .float .f32 b1], .agg #[.int .i64 k2, .float .f32 a2, .float .f32 b2]] w fun e w' => e = .returned (.bool true) ∧ Below w.heap.size w w' := by
  go_enter Try.func13, Try.ntmps13
  go_wp2_with fail
  have h0 := keep6s (w := w) (x0 := .int .i64 k1) (x1 := .float .f32 a1) (x2 := .float .f32 b1) (y0 := .int .i64 k2) (y1 := .float .f32 a2) (y2 := .float .f32 b2) (t := 32) (u := 32) rfl
  generalize ((w.alloc (.cells #[.int .i64 k1, .float .f32 a1, .float .f32 b1] 32)).alloc (.cells #[.int .i64 k2, .float .f32 a2, .float .f32 b2] 32)) = wb at *
  go_region_held3 (fun w' => w'.cell? ⟨w.heap.size, 0, none⟩ = some (.int .i64 k1) ∧ w'.cell? ⟨w.heap.size, 1, none⟩ = some (.float .f32 a1) ∧ w'.cell? ⟨w.heap.size, 2, none⟩ = some (.float .f32 b1) ∧ w'.cell? ⟨w.heap.size + 1, 0, none⟩ = some (.int .i64 k2) ∧ w'.cell? ⟨w.heap.size + 1, 1, none⟩ = some (.float .f32 a2) ∧ w'.cell? ⟨w.heap.size + 1, 2, none⟩ = some (.float .f32 b2) ∧ Below w.heap.size w w')
    (first | exact h0 | exact keep6d (by assumption) | exact keep6 (by assumption) hb)
    (first | (go_at_call 25; refine (toLaw_any _ _ _ _).mono ?_; rintro e w1 ⟨rfl, hb⟩) | (go_at_call 35; refine (sameLawS _ _ _ _ _ _ _ wa1 wa2 wb1 wb2).mono ?_; rintro e w1 ⟨rfl, hb⟩))
  have H0 := Lib.hid h0
  clear h0
  go_wp2_with fail
  go_region_held3 (fun w' => w'.cell? ⟨w.heap.size, 0, none⟩ = some (.int .i64 k1) ∧ w'.cell? ⟨w.heap.size, 1, none⟩ = some (.float .f32 a1) ∧ w'.cell? ⟨w.heap.size, 2, none⟩ = some (.float .f32 b1) ∧ w'.cell? ⟨w.heap.size + 1, 0, none⟩ = some (.int .i64 k2) ∧ w'.cell? ⟨w.heap.size + 1, 1, none⟩ = some (.float .f32 a2) ∧ w'.cell? ⟨w.heap.size + 1, 2, none⟩ = some (.float .f32 b2) ∧ Below w.heap.size w w')
    (first | assumption | exact keep6d (by assumption) | exact keep6 (by assumption) hb)
    (first | (go_at_call 25; refine (toLaw_any _ _ _ _).mono ?_; rintro e w1 ⟨rfl, hb⟩) | (go_at_call 36; refine (sameLawI _ _ _ _ _ _ _ wa1 wa2 wb1 wb2).mono ?_; rintro e w1 ⟨rfl, hb⟩))
  go_wp2
  go_ret
  refine ⟨rfl, ?_⟩
  rename_i hS
  exact hS.2.2.2.2.2.2


set_option maxRecDepth 100000 in
theorem lifted (os : Os) (started : os.Started) (H : Type) (enc : TypeId × Value → H) :
    ReturnsInHanded {} Try.checked os 13 .any (Rows.fnExactSameLawSpec.pre6 enc Try.prog Try.f13 Rows.fnExactSameLawRow.domain false) (Rows.fnExactSameLawSpec.post enc Try.prog Try.f13 false true false false) := by
  refine returnsInHanded_of_change (C := Try.checked) own started (by kernel_rfl) Try.func13
    (ChangeSpec.witness6 (enc := enc) (C := Try.checked) false ⟨#[], #[.agg #[.int .i64 0, .float .f32 0, .float .f32 0], .agg #[.int .i64 0, .float .f32 0, .float .f32 0]], []⟩ 8 (by kernel_rfl) (by kernel_rfl) (by kernel_rfl) (by kernel_rfl)) ?_
  intro W base args ds gs before hval0 hW hcnd _
  have hval : ∀ (j : Nat) t v, Try.f13.params[j]? = some t → args[j]? = some v → Value.okWide Try.prog W .any base t v := hval0
  have hW' := hW
  obtain ⟨p, q, hA0, hV, rfl, hfz, hnd⟩ := hW
  have hA : DataW.TrodAll enc Try.prog W 0 (fun _ => true) true Try.f13.params.toList args.toList ds p := hA0
  rw [Try.params13] at hA hval
  obtain ⟨v0, vs0, d0, ds0, p0, q0, hargs, rfl, rfl, h0, r0⟩ := trodAll_cons hA
  obtain ⟨v1, vs1, d1, ds1, p1, q1, rfl, rfl, rfl, h1, r1⟩ := trodAll_cons r0
  obtain ⟨rfl, rfl, rfl⟩ := trodAll_nil r1
  obtain rfl : args = #[v0, v1] := by cases args; simp_all
  obtain ⟨rfl, rfl⟩ := trodVars_none hV
  have k0 := h0
  have lt0 : ∀ x ∈ p0, x.block < W.heap.size := by obtain ⟨m, hm⟩ := k0; exact DataW.trod_lt m _ _ _ hm
  obtain ⟨a00, a01, a02, rfl, w00, w01, w02⟩ := law_opened (hval 0 32 v0 rfl rfl) h0
  have k1 := h1
  have lt1 : ∀ x ∈ p1, x.block < W.heap.size := by obtain ⟨m, hm⟩ := k1; exact DataW.trod_lt m _ _ _ hm
  obtain ⟨a10, a11, a12, rfl, w10, w11, w12⟩ := law_opened (hval 1 32 v1 rfl rfl) h1
  clear hA0 hval0
  refine (walk a00 a01 a02 a10 a11 a12 W w00 w01 w02 w10 w11 w12).mono fun e W' ⟨he, bel⟩ => ?_
  subst he
  exact ⟨_, rfl, _, _, _, [], _, [], hW', trodAll_mk1 (shut_bool Try.underlying4 _), (trodAll_cons_mk (Below.trod laidOut (by kernel_rfl) (of_decide_eq_true (by kernel_rfl)) k0 bel lt0) (trodAll_cons_mk (Below.trod laidOut (by kernel_rfl) (of_decide_eq_true (by kernel_rfl)) k1 bel lt1) trodAll_mk0)), rfl, bel.frame _, fun h => by cases h⟩

theorem over : Rows.fnExactSameLawRow.holds Try.pinned (OpenSpec.ofChange Rows.fnExactSameLawSpec) :=
  OpenClaim.holds_of_wide 13 Try.f13 rfl rfl rfl rfl rfl rfl rfl ⟨rfl, rfl, rfl, rfl, rfl⟩ rfl rfl rfl rfl rfl (by kernel_rfl) Try.func13 (by kernel_rfl)
    (of_decide_eq_true (by kernel_rfl)) (by unfold Func.isWrapper; first | (rw [if_pos (by decide +kernel)]; kernel_rfl) | (rw [if_neg (by decide +kernel)]; exact ⟨rfl, rfl⟩))
    (fun os started H enc _ => lifted os started H enc)

/-- the statement -/
theorem proved : Rows.FnExactSameLawSaid := over
end Go.Proofs.Ytehohiicecnmeaa.FnExactSameLaw
