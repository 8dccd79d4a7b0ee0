/- FnExactReadNumbers: for every string the law returns true: program and reference read the same list of numbers, eight hexadecimal digits each, or none; the list is the call's own. -/
import Derived.Test.YtmpeogpmlgnmfaaDoorHxI
import Derived.Test.YtmpeogpmlgnmfaaDoorShap
namespace Go.Proofs.YtmpeogpmlgnmfaaDoor.FnExactReadNumbers
open Go.ChangeShapes Go.WideShapes Go.ChangeAt Go.RowKit Go.Deep Flt
open Go.ChangeMaps (open_string shut_string)

/-- what the row's list and the world's shape give -/
def Got (w : World) : Prop := Maxi w ∧ Tz w ∧ Errs w
theorem of_laid {W : World} (h : laidMetH Tryd.prog Rows.fnExactReadNumbersRow.laid W) (hs : W.ShapedOpen Tryd.prog) : Got W := by
  rw [MakeChecks.laidMetH_plain _ _ _ (by kernel_rfl)] at h
  exact ⟨maxi_of_shaped hs, tz_of_head (laidMet.tail h), sent_syn (laidMet.tail (laidMet.tail (laidMet.tail (laidMet.tail (laidMet.tail h))))), sent_rng (laidMet.tail (laidMet.tail (laidMet.tail (laidMet.tail h))))⟩
theorem Got.below {w w' : World} (h : Got w) (hb : Below w.heap.size w w') : Got w' := ⟨h.1.below hb, h.2.1.below hb, h.2.2.below hb⟩

set_option maxHeartbeats 4000000 in
theorem walk (s : ByteArray) (w : World) (h : s.size ≤ maxLen) (hg : Got w) :
    Calls Tryd.prog 8 #[.string s] w fun e w' => e = .returned (.bool true) ∧ Below w.heap.size w w' := by
  unfold maxLen at h
  by_cases hn : (s.size : Int) > 1048576
  · go_enter Tryd.func8, Tryd.ntmps8
    go_wp2
    go_ret
    exact ⟨rfl, Below.refl _ _⟩
  have hs : s.size ≤ 1048576 := by omega
  have hS := fun W => readNumbersS s W hs
  have hI := fun W (g : Got W) => readNumbersI s W hs g.1 g.2.1 g.2.2
  have hN := nrN_le s.data.toList
  unfold GaveN at hS hI
  generalize nrN s.data.toList = N at *
  generalize nrOk s.data.toList = ok at *
  generalize nrV s.data.toList = f at *
  have HS := Lib.hid hS
  have HI := Lib.hid hI
  have HG := Lib.hid hg
  clear hS hI hg
  have hq : (ok != ok) = false := by simp
  go_enter Tryd.func8, Tryd.ntmps8
  go_wp2_with fail
  refine (HS.out _).mono ?_
  rintro e w1 ⟨A, cA, rfl, oA, b1⟩
  have OA := Lib.hid oA
  have s1 := b1.size
  have B1 := Lib.hid b1
  clear oA b1
  go_wp2_with fail
  refine (HI.out _ (HG.out.below B1.out)).mono ?_
  rintro e w2 ⟨A2, cB, rfl, oB, b2⟩
  have OB := Lib.hid oB
  have s2 := b2.size
  have OA := Lib.hid (OA.out.below b2)
  have B2 := Lib.hid (B1.out.trans (b2.mono B1.out.size))
  clear oB b2
  go_wp2_with fail
  refine (eqF32_own A2 N cB A cA f f _ _ _ _ _ OB.out OA.out (fun _ _ => rfl) (by omega)).mono ?_
  rintro e w3 ⟨rfl, hd3⟩
  have b3 := hd3.below
  have OA := Lib.hid (OA.out.below b3)
  have OB := Lib.hid (OB.out.below b3)
  have B3 := Lib.hid (B2.out.trans (b3.mono B2.out.size))
  have s3 := b3.size
  clear hd3 b3
  go_wp2_with fail
  refine (markF32_any A2 N cB _ _ _ 1 _ OB.out (by omega) (by omega)).mono ?_
  rintro e w4 ⟨rfl, oM, t4⟩
  have OM := Lib.hid oM
  have OA := Lib.hid (OA.out.touch t4 (by omega))
  have B4 := Lib.hid (t4.below B3.out (by have := B1.out.size; omega) B3.out.size)
  have s4 := t4.size
  clear oM t4
  go_wp2_with fail
  refine (heldF32_any A2 N cB _ _ 1 _ OM.out (by omega) (by omega)).mono ?_
  rintro e w5 ⟨rfl, rfl⟩
  go_wp2_with fail
  refine (HI.out _ (HG.out.below B4.out)).mono ?_
  rintro e w6 ⟨A3, cC, rfl, oC, b6⟩
  have OC := Lib.hid oC
  have OA := Lib.hid (OA.out.below b6)
  have OM := Lib.hid (OM.out.below b6)
  have B6 := Lib.hid (B4.out.trans (b6.mono B4.out.size))
  clear oC b6
  go_wp2_with fail
  refine (eqF32_own A3 N cC A cA f f _ _ _ _ _ OC.out OA.out (fun _ _ => rfl) (by omega)).mono ?_
  rintro e w7 ⟨rfl, hd7⟩
  have OM := Lib.hid (OM.out.below hd7.below)
  have B7 := Lib.hid (B6.out.trans (hd7.below.mono B6.out.size))
  clear hd7
  go_wp2_with fail
  refine (heldF32_any A2 N cB _ _ 1 _ OM.out (by omega) (by omega)).mono ?_
  rintro e w8 ⟨rfl, rfl⟩
  go_wp2
  go_ret
  exact ⟨rfl, B7.out⟩

set_option maxRecDepth 100000 in
theorem lifted (os : Os) (started : os.Started) (H : Type) (enc : TypeId × Value → H) :
    ReturnsInHanded {} Tryd.checked os 8 .any (fun w args => (Rows.fnExactReadNumbersSpec.pre enc Tryd.prog Tryd.f8 [] false w args ∧ laidMetH Tryd.prog Rows.fnExactReadNumbersRow.laid w) ∧ sizedMet enc Tryd.prog Tryd.f8 (OpenSpec.ofChange Rows.fnExactReadNumbersSpec) false w args) (Rows.fnExactReadNumbersSpec.post enc Tryd.prog Tryd.f8 false true false false) := by
  refine handed_shaped (C := Tryd.checked) (X := fun w _ => laidMetH Tryd.prog Rows.fnExactReadNumbersRow.laid w) (fun _ _ _ hh h => h.of_heap hh) own started (by kernel_rfl) Tryd.func8
    (ChangeSpec.witness_shaped (enc := enc) (C := Tryd.checked) (os := os) (X := fun w _ => laidMetH Tryd.prog Rows.fnExactReadNumbersRow.laid w) false (World.laidAll Tryd.prog os Rows.fnExactReadNumbersRow.laid) #[.string ByteArray.empty] 8 (World.laidAll_os _ _ _) (World.shaped_of_ZipB (by kernel_rfl) (by kernel_rfl)) (by kernel_rfl) (by kernel_rfl) (by kernel_rfl) (by rw [MakeChecks.laidMetH_plain _ _ _ (by kernel_rfl)]; exact laidMet_laidAll _ (by kernel_rfl) (by kernel_rfl))) ?_
  intro W base args ds gs before hval0 hW _ _ hL hSh _
  have hval : ∀ (j : Nat) t v, Tryd.f8.params[j]? = some t → args[j]? = some v → Value.okWide Tryd.prog W .any base t v := hval0
  have hW' := hW
  obtain ⟨p, q, hA0, hV, rfl, hfz, hnd⟩ := hW
  have hA : DataW.TrodAll enc Tryd.prog W 0 (fun _ => true) true Tryd.f8.params.toList args.toList ds p := hA0
  rw [Tryd.params8] at hA hval
  obtain ⟨v0, vs0, d0, ds0, p0, q0, hargs, rfl, rfl, h0, r0⟩ := trodAll_cons hA
  obtain ⟨rfl, rfl, rfl⟩ := trodAll_nil r0
  obtain rfl : args = #[v0] := by cases args; simp_all
  obtain ⟨rfl, rfl⟩ := trodVars_none hV
  have k0 := h0
  have lt0 : ∀ x ∈ p0, x.block < W.heap.size := by obtain ⟨m, hm⟩ := k0; exact DataW.trod_lt m _ _ _ hm
  obtain ⟨a0, rfl, rfl, rfl, w0⟩ := open_string Tryd.underlying9 (hval 0 9 v0 rfl rfl) h0
  clear hA0 hval0
  refine (walk a0 W w0 (of_laid hL hSh)).mono fun e W' ⟨he, bel⟩ => ?_
  subst he
  exact ⟨_, rfl, _, _, _, [], _, [], hW', trodAll_mk1 (shut_bool Tryd.underlying4 _), (trodAll_cons_mk (Below.trod laidOut (by kernel_rfl) (of_decide_eq_true (by kernel_rfl)) k0 bel lt0) trodAll_mk0), rfl, bel.frame _, fun h => by cases h⟩

theorem over : Rows.fnExactReadNumbersRow.holds Tryd.pinned (OpenSpec.ofChange Rows.fnExactReadNumbersSpec) :=
  OpenClaim.holds_of_wide 8 Tryd.f8 rfl rfl rfl rfl rfl rfl rfl ⟨rfl, rfl, rfl, rfl, rfl⟩ rfl rfl rfl rfl rfl (by kernel_rfl) Tryd.func8 (by kernel_rfl)
    (of_decide_eq_true (by kernel_rfl)) (by unfold Func.isWrapper; first | (rw [if_pos (by decide +kernel)]; kernel_rfl) | (rw [if_neg (by decide +kernel)]; exact ⟨rfl, rfl⟩))
    (fun os started H enc _ => lifted os started H enc)

/-- the card -/
theorem proved : Rows.FnExactReadNumbersCardSaid :=
  Claim7.holds_tied_plain_at .later [] [.data, .data, .data, .data, .sentinel, .sentinel, .pinned] true Rows.fnExactReadNumbersCard.stood.harness true
    over (fun _ h => by cases h) (by kernel_rfl) (fun _ h => by cases h) fnExactReadNumbers_row_tie rfl ⟨rfl, rfl⟩ (by kernel_rfl) rfl
    (fun f fn hf hfn => by
      obtain rfl : f = 8 := Option.some.inj ((show Tryd.prog.funcNamed Rows.fnExactReadNumbersRow.func = some 8 by kernel_rfl).symm.trans hf) |>.symm
      obtain rfl : fn = Tryd.f8 := (Option.some.inj (Tryd.func8.symm.trans hfn)).symm
      exact ⟨by kernel_rfl, fun j t ht => by
        rw [Tryd.params8] at ht
        have hm : t ∈ [9] := by simpa using Array.mem_of_getElem? ht
        have hall : ([9].all fun u => !Tryd.prog.wantsStandIn u) = true := by kernel_rfl
        exact (show Tryd.prog.wantsStandIn t = false by simpa using List.all_eq_true.1 hall t hm)⟩)
    (by kernel_rfl)
end Go.Proofs.YtmpeogpmlgnmfaaDoor.FnExactReadNumbers
