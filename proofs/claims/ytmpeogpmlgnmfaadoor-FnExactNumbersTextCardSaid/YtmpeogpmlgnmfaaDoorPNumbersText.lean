/- FnExactNumbersText: for every list of float32 the law returns true: program and reference write it alike, eight hexadecimal digits a number with commas between them, where there are few; the list is left alone. -/
import Derived.Test.YtmpeogpmlgnmfaaDoorNt
namespace Go.Proofs.YtmpeogpmlgnmfaaDoor.FnExactNumbersText
open Go.ChangeShapes Go.WideShapes Go.ChangeAt Go.RowKit Go.Deep Flt

theorem of_laid {W : World} (h : laidMetH Tryd.prog Rows.fnExactNumbersTextRow.laid W) : Tz W := by
  rw [MakeChecks.laidMetH_plain _ _ _ (by kernel_rfl)] at h
  exact tz_of_head (laidMet.tail h)

set_option maxHeartbeats 1000000 in
theorem walk (a : Option Addr) (n c : Nat) (w : World) (h : n ≤ maxLen ∧ ∃ X, RowF w a X n ∧ Lt32 X n) (hp : Tz w) :
    Calls Tryd.prog 5 #[.slice a n c] w fun e w' => e = .returned (.bool true) ∧ Below w.heap.size w w' := by
  obtain ⟨hm, X0, hr0, hI0⟩ := h
  unfold maxLen at hm
  obtain ⟨X, hr, hI⟩ : ∃ X, RowF w a X n ∧ ∀ i, X i < 4294967296 := by
    refine ⟨fun i => if i < n then X0 i else 0, ?_, fun i => ?_⟩
    · rcases hr0 with h0 | ⟨b, off, e, hc⟩
      · exact .inl h0
      · exact .inr ⟨b, off, e, fun i hi => by simp only [if_pos hi]; exact hc i hi⟩
    · by_cases hi : i < n
      · simp only [if_pos hi]; exact hI0 i hi
      · simp only [if_neg hi]; omega
  clear hr0 hI0
  by_cases hn : (n : Int) > 1048576
  · go_enter Tryd.func5, Tryd.ntmps5
    go_wp2
    go_ret
    exact ⟨rfl, Below.refl _ _⟩
  have hn' : n ≤ 1048576 := by omega
  have HP := Lib.hid hp
  have HR := Lib.hid hr
  have HS := Lib.hid (fun g W (h : F32s W g X n) => numbersTextS g X n n W h hI hn')
  have HG := Lib.hid (fun g W (h : F32s W g X n) hp => numbersTextI (some ⟨g, 0, none⟩) X n n W (RowF.own h) hI hp (by omega))
  generalize ntT X n = l at *
  generalize okN n = ok at *
  clear hI hp hr
  go_enter Tryd.func5, Tryd.ntmps5
  go_wp2_with fail
  refine (toF32_any a X n c _ HR.out hn').mono ?_
  rintro e w1 ⟨rfl, r1, b1⟩
  have R1 := Lib.hid (F32s.of_row r1)
  have B1 := Lib.hid b1
  clear r1 b1
  go_wp2_with fail
  refine (HS.out _ _ R1.out).mono ?_
  rintro e w2 ⟨rfl, b2⟩
  have B2 := Lib.hid (B1.out.trans (b2.mono B1.out.size))
  clear b2
  go_wp2_with fail
  refine (toF32_any a X n c _ (HR.out.below B2.out) hn').mono ?_
  rintro e w3 ⟨rfl, r3, b3⟩
  have R3 := Lib.hid (F32s.of_row r3)
  have B3 := Lib.hid (B2.out.trans (b3.mono B2.out.size))
  clear r3 b3
  go_wp2_with fail
  refine (HG.out _ _ R3.out (HP.out.below B3.out)).mono ?_
  rintro e w4 ⟨rfl, b4⟩
  have R4 := Lib.hid (R3.out.below b4)
  have B4 := Lib.hid (B3.out.trans (b4.mono B3.out.size))
  clear b4
  unfold strV
  have hq : (ok != ok) = false := by simp
  go_wp2_with fail
  refine (toF32_any a X n c _ (HR.out.below B4.out) hn').mono ?_
  rintro e w5 ⟨rfl, r5, b5⟩
  have R5 := Lib.hid (F32s.of_row r5)
  have R6 := Lib.hid (R4.out.below b5)
  have B5 := Lib.hid (B4.out.trans (b5.mono B4.out.size))
  clear r5 b5
  go_wp2_with fail
  refine (eqF32_same _ _ X X n n n _ R6.out R5.out (fun _ _ => rfl) hn').mono ?_
  rintro e w6 ⟨rfl, hd⟩
  have B6 := Lib.hid (B5.out.trans (hd.below.mono B5.out.size))
  clear hd
  go_wp2
  go_ret
  exact ⟨rfl, B6.out⟩

set_option maxRecDepth 100000 in
theorem door_met (os : Os) (args : Array Value) : laidMetH Tryd.prog Rows.fnExactNumbersTextRow.laid ((World.doorLaid Tryd.prog 400 os).forCall (fun _ _ => 0) ⟨#[], args, []⟩).memory :=
  laidMetH_of_parts3 (fuel := 8) (laidMet_of_run' 8 (by kernel_rfl) (by kernel_rfl)) (by kernel_rfl) (by kernel_rfl)
set_option maxRecDepth 100000 in
theorem lifted (os : Os) (started : os.Started) (H : Type) (enc : TypeId × Value → H) :
    ReturnsInHanded {} Tryd.checked os 5 .any (fun w args => (Rows.fnExactNumbersTextSpec.pre enc Tryd.prog Tryd.f5 [] false w args ∧ laidMetH Tryd.prog Rows.fnExactNumbersTextRow.laid w) ∧ sizedMet enc Tryd.prog Tryd.f5 (OpenSpec.ofChange Rows.fnExactNumbersTextSpec) false w args) (Rows.fnExactNumbersTextSpec.post enc Tryd.prog Tryd.f5 false true false false) := by
  refine returnsInHanded_of_change_and (C := Tryd.checked) (X := fun w _ => laidMetH Tryd.prog Rows.fnExactNumbersTextRow.laid w) (fun _ _ _ hh h => h.of_heap hh) own started (by kernel_rfl) Tryd.func5
    (ChangeSpec.witness_shaped (enc := enc) (C := Tryd.checked) (os := os) (X := fun w _ => laidMetH Tryd.prog Rows.fnExactNumbersTextRow.laid w) false (World.doorLaid Tryd.prog 400 os) #[.slice none 0 0] 8 rfl (World.shaped_of_RefB (by kernel_rfl) (by kernel_rfl)) (by kernel_rfl) (by kernel_rfl) (by kernel_rfl) (door_met os _)) ?_
  intro W base args ds gs before hval0 hW _ _ hL _
  have hval : ∀ (j : Nat) t v, Tryd.f5.params[j]? = some t → args[j]? = some v → Value.okWide Tryd.prog W .any base t v := hval0
  have hW' := hW
  obtain ⟨p, q, hA0, hV, rfl, hfz, hnd⟩ := hW
  have hA : DataW.TrodAll enc Tryd.prog W 0 (fun _ => true) true Tryd.f5.params.toList args.toList ds p := hA0
  rw [Tryd.params5] at hA hval
  obtain ⟨v0, vs0, d0, ds0, p0, q0, hargs, rfl, rfl, h0, r0⟩ := trodAll_cons hA
  obtain ⟨rfl, rfl, rfl⟩ := trodAll_nil r0
  obtain rfl : args = #[v0] := by cases args; simp_all
  obtain ⟨rfl, rfl⟩ := trodVars_none hV
  have k0 := h0
  have lt0 : ∀ x ∈ p0, x.block < W.heap.size := by obtain ⟨m, hm⟩ := k0; exact DataW.trod_lt m _ _ _ hm
  obtain ⟨a0, n0, c0, rfl⟩ := okWide_slice Tryd.underlying30 (hval 0 30 v0 rfl rfl)
  have w0 := slice_opened52 h0
  clear hA0 hval0
  refine (walk a0 n0 c0 W w0 (of_laid hL)).mono fun e W' ⟨he, bel⟩ => ?_
  subst he
  exact ⟨_, rfl, _, _, _, [], _, [], hW', trodAll_mk1 (shut_bool Tryd.underlying4 _), (trodAll_cons_mk (Below.trod laidOut (by kernel_rfl) (of_decide_eq_true (by kernel_rfl)) k0 bel lt0) trodAll_mk0), rfl, bel.frame _, fun h => by cases h⟩

theorem over : Rows.fnExactNumbersTextRow.holds Tryd.pinned (OpenSpec.ofChange Rows.fnExactNumbersTextSpec) :=
  OpenClaim.holds_of_wide 5 Tryd.f5 rfl rfl rfl rfl rfl rfl rfl ⟨rfl, rfl, rfl, rfl, rfl⟩ rfl rfl rfl rfl rfl (by kernel_rfl) Tryd.func5 (by kernel_rfl)
    (of_decide_eq_true (by kernel_rfl)) (by unfold Func.isWrapper; first | (rw [if_pos (by decide +kernel)]; kernel_rfl) | (rw [if_neg (by decide +kernel)]; exact ⟨rfl, rfl⟩))
    (fun os started H enc _ => lifted os started H enc)

/-- the card -/
theorem proved : Rows.FnExactNumbersTextCardSaid :=
  Claim7.holds_tied_plain_at .later [] [.data, .data, .data] true Rows.fnExactNumbersTextCard.stood.harness true
    over (fun _ h => by cases h) (by kernel_rfl) (fun _ h => by cases h) fnExactNumbersText_row_tie rfl ⟨rfl, rfl⟩ (by kernel_rfl) rfl
    (fun f fn hf hfn => by
      obtain rfl : f = 5 := Option.some.inj ((show Tryd.prog.funcNamed Rows.fnExactNumbersTextRow.func = some 5 by kernel_rfl).symm.trans hf) |>.symm
      obtain rfl : fn = Tryd.f5 := (Option.some.inj (Tryd.func5.symm.trans hfn)).symm
      exact ⟨by kernel_rfl, fun j t ht => by
        rw [Tryd.params5] at ht
        have hm : t ∈ [30] := by simpa using Array.mem_of_getElem? ht
        have hall : ([30].all fun u => !Tryd.prog.wantsStandIn u) = true := by kernel_rfl
        exact (show Tryd.prog.wantsStandIn t = false by simpa using List.all_eq_true.1 hall t hm)⟩)
    (by kernel_rfl)
end Go.Proofs.YtmpeogpmlgnmfaaDoor.FnExactNumbersText
