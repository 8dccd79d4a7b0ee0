/- FnNumbers: for all bytes the law returns true: bits and texts of any numbers are read back, flushed numbers are not subnormal, sums are made from left to right, the angle of a point is that of its complex number. -/
import Derived.Test.YtmpeogpmlgnmfaaGreatDoorFnW
import Derived.Test.YtmpeogpmlgnmfaaGreatDoorNt
namespace Go.Proofs.YtmpeogpmlgnmfaaGreatDoor.FnNumbers
set_option maxRecDepth 100000
open Go.ChangeShapes Go.WideShapes Go.ChangeAt Go.RowKit Go.Deep Flt

/-- what the row's list and the world's shape give -/
def Got (w : World) : Prop := Maxi w ∧ Tz w ∧ Errs w
theorem of_laid {W : World} (h : laidMetH Tryz.prog Rows.fnNumbersRow.laid W) (hs : W.ShapedOpen Tryz.prog) : Got W := by
  rw [MakeChecks.laidMetH_plain _ _ _ (by kernel_rfl)] at h
  exact ⟨maxi_of_shaped hs, tz_of_head (laidMet.tail h), sent_syn (laidMet.tail (laidMet.tail (laidMet.tail (laidMet.tail (laidMet.tail h))))), sent_rng (laidMet.tail (laidMet.tail (laidMet.tail (laidMet.tail h))))⟩
theorem Got.below {w w' : World} (h : Got w) (hb : Below w.heap.size w w') : Got w' := ⟨h.1.below hb, h.2.1.below hb, h.2.2.below hb⟩
/-- the text of few numbers -/
theorem text_any (A : Option Addr) (f : Nat → Nat) (N c : Nat) (W : World) (hN : N ≤ 256) (h32 : ∀ i, f i < 4294967296) (h : RowF W A f N) (hg : Got W) :
    Calls Tryz.prog 31 #[.slice A N c] W fun e w' => e = .returned (.tuple #[strV (joinT (hxX f) N), .bool true]) ∧ Below W.heap.size W w' := by
  have := numbersTextI A f N c W h h32 hg.2.1 (by omega)
  have hok : okN N = true := by unfold okN; simpa using hN
  have hnt : ntT f N = joinT (hxX f) N := by unfold ntT; rw [if_pos hok]
  rw [hok, hnt] at this
  exact this
/-- .. read back -/
def BackE (f : Nat → Nat) (N : Nat) (w w' : World) (e : Ending) : Prop :=
  ∃ (A : Option Addr) (c : Nat), e = .returned (.tuple #[.slice A N c, .bool true]) ∧ OwnV w' 28 A N (fun i => .float .f32 (bitsN (f i))) w.heap.size w'.heap.size ∧ Below w.heap.size w w'
theorem joinT_small (f : Nat → Nat) (N : Nat) (hN : N ≤ 256) : (joinT (hxX f) N).length ≤ 3000 := by
  cases N with
  | zero => show none4.length ≤ 3000; decide
  | succ N =>
    have := joinT_len (fun i => Nat.le_of_eq (hxX_len f i)) N
    omega
theorem back_any (f : Nat → Nat) (N : Nat) (W : World) (hN : N ≤ 256) (h32 : ∀ i, f i < 4294967296) (hg : Got W) :
    Calls Tryz.prog 32 #[strV (joinT (hxX f) N)] W fun e w' => BackE f N W w' e := by
  obtain ⟨h1, h2, h3⟩ := text_back f N hN h32
  have hl := joinT_small f N hN
  generalize joinT (hxX f) N = t at *
  refine (readNumbersI ⟨t.toArray⟩ W (by simp [ByteArray.size]; omega) hg.1 hg.2.1 hg.2.2).mono fun e w' ⟨A, c, he, ho, hb⟩ => ?_
  rw [h1, h2] at he
  rw [h2] at ho
  exact ⟨A, c, he, ho.congr fun i hi => by rw [h3 i hi], hb⟩
theorem one_f32 : cls .f32 1065353216 = some 1065353216 ∧ ford .f32 (some 1065353216) (some 1065353216) = some .eq := by decide +kernel

set_option maxHeartbeats 8000000 in
theorem walk (a0 : Option Addr) (n0 c0 : Nat) (a1 : Option Addr) (n1 c1 : Nat) (w : World) (h0 : n0 ≤ maxLen ∧ ∃ X, RowB w a0 X n0) (h1 : n1 ≤ maxLen ∧ ∃ X, RowB w a1 X n1) (hg : Got w) :
    Calls Tryz.prog 4 #[.slice a0 n0 c0, .slice a1 n1 c1] w fun e w' => e = .returned (.bool true) ∧ Below w.heap.size w w' := by
  obtain ⟨hm0, X0, hr0⟩ := h0
  obtain ⟨hm1, X1, hr1⟩ := h1
  unfold maxLen at hm0 hm1
  have HR0 := Lib.hid hr0
  have HR1 := Lib.hid hr1
  have HG := Lib.hid hg
  have hlong := fun W => b10Long_any a0 a1 n0 c0 n1 c1 W
  clear hr0 hr1 hg
  cases hl : (decide (1048576 < n0) || decide (1048576 < n1))
  case true =>
    rw [hl] at hlong
    have HL := Lib.hid hlong
    clear hlong hl
    go_enter Tryz.func4, Tryz.ntmps4
    go_wp2_with fail
    refine (HL.out _).mono ?_
    rintro e w' ⟨rfl, rfl⟩
    go_wp2
    go_ret
    exact ⟨rfl, Below.refl _ _⟩
  rw [hl] at hlong
  have HL := Lib.hid hlong
  have hn0 : n0 ≤ 1048576 := by simp at hl; omega
  have hn1 : n1 ≤ 1048576 := by simp at hl; omega
  clear hlong hl
  go_enter Tryz.func4, Tryz.ntmps4
  go_wp2_with fail
  refine (HL.out _).mono ?_
  rintro e w' ⟨rfl, rfl⟩
  go_wp2_with fail
  refine (b10Number_any a0 n0 c0 _ hn0 HR0.out.code).mono ?_
  rintro e w1 ⟨x, rfl, hx, b1⟩
  have B1 := Lib.hid b1
  clear b1
  go_wp2_with fail
  refine (b10Number_any a1 n1 c1 _ hn1 (HR1.out.below B1.out).code).mono ?_
  rintro e w2 ⟨y, rfl, hy, b2⟩
  have B2 := Lib.hid (B1.out.trans (b2.mono B1.out.size))
  clear b2
  have HBits := Lib.hid (fun W => show Calls Tryz.prog 21 #[.float .f32 x] W fun e w' => e = .returned (.int .i64 (bitsN x : Int)) ∧ W = w' by
    have := bitsOf_any x W hx; rw [bitsZ_nat] at this; exact this)
  go_wp2_with fail
  refine (HBits.out _).mono ?_
  rintro e w' ⟨rfl, rfl⟩
  go_wp2_with fail
  refine (fromBits_yes (bitsN x) _ (bitsN_lt hx)).mono ?_
  rintro e w' ⟨rfl, rfl⟩
  go_wp2_with fail
  refine (flushNumber_any x _ hx).mono ?_
  rintro e w' ⟨z, nz, rfl, rfl, hcz, hz⟩
  have HZ := Lib.hid hcz
  clear hcz
  have B3 := Lib.hid (B2.out.trans ((below_drewN' w2 nz).mono B2.out.size))
  go_wp2_with fail
  refine (b10At_any a0 n0 c0 _ 0 12 _ (by omega) (by omega) (by omega) (HR0.out.below B3.out).code).mono ?_
  rintro e w' ⟨N0, rfl, hN0, hN12, rfl⟩
  obtain ⟨N, rfl⟩ : ∃ N : Nat, N0 = (N : Int) := ⟨N0.toNat, by omega⟩
  have hN : N ≤ 11 := by omega
  clear hN0 hN12
  go_wp2_with fail
  refine (b10Numbers_any a1 n1 c1 N _ hn1 (by omega) (HR1.out.below B3.out).code).mono ?_
  rintro e w4 ⟨A, c, f, rfl, ho, hf, b4⟩
  have HO := Lib.hid ho
  have HF := Lib.hid hf
  have B4 := Lib.hid (B3.out.trans (b4.mono B3.out.size))
  clear ho hf b4
  go_wp2
  go_loopw [11, 41] (fun ts ti wx => ∃ k s : Nat, k ≤ N ∧ ti = .int .i64 k ∧ ts = .float .f32 s ∧ Hid (cls .f32 s = sumC f k) ∧ Drew w4 wx) (fun _ ti _ => N - (intOf ti).toNat)
  case atStart => exact ⟨0, 0, Nat.zero_le _, rfl, rfl, Lib.hid rfl, Drew.refl _⟩
  case round =>
    obtain ⟨k, s, hk, rfl, rfl, HS, hd⟩ := hrel
    have HD := Lib.hid hd
    clear hd
    by_cases hlt : k < N
    · have hlt' : (k : Int) < (N : Int) := by omega
      rcases HO.out with h0 | ⟨g, m, q, rfl, _, _, hr, hm, hff⟩
      · omega
      have cx : wr.cell? ⟨g, k, none⟩ = some (.float .f32 (f k)) := (HD.out.cell _).trans ((hr.cell (i := k) (by omega)).trans (by rw [hff k hlt]))
      clear hr hff
      go_wp2_with (first | (refine wpList_fop rfl .add _ _ _ _ rfl rfl .f32 _ _ rfl rfl ?_; intro τ q))
      go_roundw
      case rel => exact ⟨k + 1, _, by omega, by go_num, rfl, Lib.hid (by rw [cls_rep' (nn_fop _ _ _ _), HS.out]; rfl), HD.out.drewN _⟩
      case measure => simp [intOf]; omega
    · obtain rfl : k = N := by omega
      have B5 := Lib.hid (B4.out.trans (HD.out.below.mono B4.out.size))
      have HO5 := Lib.hid (HO.out.below HD.out.below)
      go_wp2_with fail
      refine (sumOwn A f k c _ _ _ HO5.out (by omega)).mono ?_
      rintro e w6 ⟨r, rfl, hr, hd6⟩
      have HR := Lib.hid hr
      have HO6 := Lib.hid (HO5.out.below hd6.below)
      have B6 := Lib.hid (B5.out.trans (hd6.below.mono B5.out.size))
      clear hr hd6
      go_wp2_with fail
      refine (text_any A f k c _ (by omega) HF.out HO6.out.rowF (HG.out.below B6.out)).mono ?_
      rintro e w7 ⟨rfl, b7⟩
      have HO7 := Lib.hid (HO6.out.below b7)
      have B7 := Lib.hid (B6.out.trans (b7.mono B6.out.size))
      clear b7
      have HBk := Lib.hid (fun W (g : Got W) => back_any f k W (by omega) HF.out g)
      generalize joinT (hxX f) k = t at *
      go_wp2_with fail
      refine (HBk.out _ (HG.out.below B7.out)).mono ?_
      rintro e w8 ⟨A2, c2, rfl, ho2, b8⟩
      have HQ := Lib.hid ho2
      have HO8 := Lib.hid (HO7.out.below b8)
      have B8 := Lib.hid (B7.out.trans (b8.mono B7.out.size))
      clear ho2 b8
      have HSub := Lib.hid (fun W => show Calls Tryz.prog 33 #[.float .f32 z] W fun e w' => ∃ n, e = .returned (.bool false) ∧ w' = W.drewN n by
        have := isSubnormal_any z W; rw [HZ.out, flush_no] at this; exact this)
      have hne := flush_ne x
      have HSx := Lib.hid (fun W => isSubnormal_any x W)
      have HSz := Lib.hid (fun W => show Calls Tryz.prog 10 #[.float .f32 x, .float .f32 z] W fun e w' => e = .returned (.bool (sameB (cls .f32 x) (flushC (cls .f32 x)))) ∧ W = w' by
        have := sSameNumber_any x z W hx hz; rw [HZ.out] at this; exact this)
      generalize (nzB (cls .f32 x) && lowB (cls .f32 x)) = sx at hne HSx
      generalize sameB (cls .f32 x) (flushC (cls .f32 x)) = bx at hne HSz
      go_wp2_with fail
      refine (sSame_yes (bitsN x) x (cls .f32 x) _ (wfc_cls hx) (cls_bitsN x) rfl).mono ?_
      rintro e w' ⟨rfl, rfl⟩
      go_wp2_with fail
      refine (HSub.out _).mono ?_
      rintro e w' ⟨q1, rfl, rfl⟩
      go_wp2_with fail
      refine (HSx.out _).mono ?_
      rintro e w' ⟨q2, rfl, rfl⟩
      go_wp2_with fail
      refine (HSz.out _).mono ?_
      rintro e w' ⟨rfl, rfl⟩
      go_wp2_with fail
      refine (sSame_yes r s (sumC f k) _ (wfc_sumC f k) HR.out HS.out).mono ?_
      rintro e w' ⟨rfl, rfl⟩
      go_wp2
      have B9 := Lib.hid (B8.out.trans ((below_drewN' w8 (q1 + q2)).mono B8.out.size))
      go_loopw [113] (fun ti wx => ∃ j : Nat, j ≤ k ∧ ti = .int .i64 j ∧ Drew w8 wx) (fun ti _ => k - (intOf ti).toNat)
      case atStart => exact ⟨0, Nat.zero_le _, rfl, by repeat (first | exact Drew.refl _ | refine Drew.drewN ?_ _ | refine Drew.drew ?_)⟩
      case round =>
        obtain ⟨j, hj, rfl, hd⟩ := hrel
        have HD2 := Lib.hid hd
        clear hd
        by_cases hjk : j < k
        · have hjk' : (j : Int) < (k : Int) := by omega
          have hj0 : (0 : Int) ≤ (j : Int) := by omega
          rcases HO8.out with h0 | ⟨g, m, q, rfl, _, _, hr, hm, hff⟩
          · omega
          rcases HQ.out with h0 | ⟨g', m', q', rfl, _, _, hr', hm', hff'⟩
          · omega
          have cx : wr.cell? ⟨g, j, none⟩ = some (.float .f32 (f j)) := (HD2.out.cell _).trans ((hr.cell (i := j) (by omega)).trans (by rw [hff j hjk]))
          have cy : wr.cell? ⟨g', j, none⟩ = some (.float .f32 (bitsN (f j))) := (HD2.out.cell _).trans ((hr'.cell (i := j) (by omega)).trans (by rw [hff' j hjk]))
          have HSS := Lib.hid (fun W => sSame_yes (bitsN (f j)) (f j) (cls .f32 (f j)) W (wfc_cls (HF.out j)) (cls_bitsN (f j)) rfl)
          clear hr hff hr' hff'
          go_wp2
          go_region_with (go_at_call 10; refine (HSS.out _).mono ?_; rintro e w' ⟨rfl, rfl⟩)
          all_goals
            go_wp2
            go_roundw
            case rel => exact ⟨j + 1, by omega, by go_num, by repeat (first | exact HD2.out | refine Drew.drewN ?_ _ | refine Drew.drew ?_)⟩
            case measure => simp [intOf]; omega
        · obtain rfl : j = k := by omega
          have B10 := Lib.hid (B8.out.trans (HD2.out.below.mono B8.out.size))
          go_wp2_with fail
          refine (AngX.angI y x _).mono ?_
          rintro e wa ⟨r1, rfl, hr1, hda⟩
          have HA1 := Lib.hid hr1
          have B11 := Lib.hid (B10.out.trans (hda.below.mono B10.out.size))
          clear hr1 hda
          go_wp2_with fail
          refine (angleOf_any x y _).mono ?_
          rintro e wb ⟨r2, rfl, hr2, hdb⟩
          have HA2 := Lib.hid hr2
          have B12 := Lib.hid (B11.out.trans (hdb.below.mono B11.out.size))
          clear hr2 hdb
          go_wp2_with fail
          refine (sSame_yes r1 r2 (AngX.angC y x) _ (wfc_angC y x) HA1.out HA2.out).mono ?_
          rintro e w' ⟨rfl, rfl⟩
          have hc1 := one_f32.1
          have hf1 := one_f32.2
          have HNW := Lib.hid (narrow_wide hx)
          go_wp2_with (first | (refine wpList_conv_g rfl _ _ _ rfl .f32 .f64 _ rfl (by decide) (by kernel_rfl) Tryz.underlying46 (noOver_widen _) ?_; intro τ n))
          refine (narrowNumber_any _ _ (narrow_noOver x τ)).mono ?_
          rintro e wc ⟨r3, rfl, hr3, hlt3, hdc⟩
          have HA3 := Lib.hid (hr3.trans (by rw [cls_rep' (nn_fconv _ _ _ (nn_cls _ _)), HNW.out]))
          have B13 := Lib.hid ((B12.out.trans ((below_drewN' wb n).mono B12.out.size)).trans (hdc.below.mono B12.out.size))
          clear hr3 hlt3 hdc
          go_wp2_with fail
          refine (sSame_yes r3 x (cls .f32 x) _ (wfc_cls hx) HA3.out rfl).mono ?_
          rintro e w' ⟨rfl, rfl⟩
          go_wp2_with fail
          refine (sinQuarter_any _).mono ?_
          rintro e wd ⟨rfl, hdd⟩
          have B14 := Lib.hid (B13.out.trans (hdd.below.mono B13.out.size))
          clear hdd
          go_wp2
          go_ret
          exact ⟨rfl, B14.out⟩


set_option maxRecDepth 100000 in
theorem lifted (os : Os) (started : os.Started) (H : Type) (enc : TypeId × Value → H) :
    ReturnsInHanded {} Tryz.checked os 4 .any (fun w args => (Rows.fnNumbersSpec.pre enc Tryz.prog Tryz.f4 [] false w args ∧ laidMetH Tryz.prog Rows.fnNumbersRow.laid w) ∧ sizedMet enc Tryz.prog Tryz.f4 (OpenSpec.ofChange Rows.fnNumbersSpec) false w args) (Rows.fnNumbersSpec.post enc Tryz.prog Tryz.f4 false true false false) := by
  refine handed_shaped (C := Tryz.checked) (X := fun w _ => laidMetH Tryz.prog Rows.fnNumbersRow.laid w) (fun _ _ _ hh h => h.of_heap hh) own started (by kernel_rfl) Tryz.func4
    (ChangeSpec.witness_shaped (enc := enc) (C := Tryz.checked) (os := os) (X := fun w _ => laidMetH Tryz.prog Rows.fnNumbersRow.laid w) false (World.laidAll Tryz.prog os Rows.fnNumbersRow.laid) #[.slice none 0 0, .slice none 0 0] 8 (World.laidAll_os _ _ _) (World.shaped_of_ZipB (by kernel_rfl) (by kernel_rfl)) (by kernel_rfl) (by kernel_rfl) (by kernel_rfl) (by rw [MakeChecks.laidMetH_plain _ _ _ (by kernel_rfl)]; exact laidMet_laidAll _ (by kernel_rfl) (by kernel_rfl))) ?_
  intro W base args ds gs before hval0 hW _ _ hL hSh _
  have hval : ∀ (j : Nat) t v, Tryz.f4.params[j]? = some t → args[j]? = some v → Value.okWide Tryz.prog W .any base t v := hval0
  have hW' := hW
  obtain ⟨p, q, hA0, hV, rfl, hfz, hnd⟩ := hW
  have hA : DataW.TrodAll enc Tryz.prog W 0 (fun _ => true) true Tryz.f4.params.toList args.toList ds p := hA0
  rw [Tryz.params4] at hA hval
  obtain ⟨v0, vs0, d0, ds0, p0, q0, hargs, rfl, rfl, h0, r0⟩ := trodAll_cons hA
  obtain ⟨v1, vs1, d1, ds1, p1, q1, rfl, rfl, rfl, h1, r1⟩ := trodAll_cons r0
  obtain ⟨rfl, rfl, rfl⟩ := trodAll_nil r1
  obtain rfl : args = #[v0, v1] := by cases args; simp_all
  obtain ⟨rfl, rfl⟩ := trodVars_none hV
  have k0 := h0
  have lt0 : ∀ x ∈ p0, x.block < W.heap.size := by obtain ⟨m, hm⟩ := k0; exact DataW.trod_lt m _ _ _ hm
  obtain ⟨a0, n0, c0, rfl⟩ := okWide_slice Tryz.underlying22 (hval 0 22 v0 rfl rfl)
  have w0 := slice_opened5 h0
  have k1 := h1
  have lt1 : ∀ x ∈ p1, x.block < W.heap.size := by obtain ⟨m, hm⟩ := k1; exact DataW.trod_lt m _ _ _ hm
  obtain ⟨a1, n1, c1, rfl⟩ := okWide_slice Tryz.underlying22 (hval 1 22 v1 rfl rfl)
  have w1 := slice_opened5 h1
  clear hA0 hval0
  refine (walk a0 n0 c0 a1 n1 c1 W w0 w1 (of_laid hL hSh)).mono fun e W' ⟨he, bel⟩ => ?_
  subst he
  exact ⟨_, rfl, _, _, _, [], _, [], hW', trodAll_mk1 (shut_bool Tryz.underlying4 _), (trodAll_cons_mk (Below.trod laidOut (by kernel_rfl) (of_decide_eq_true (by kernel_rfl)) k0 bel lt0) (trodAll_cons_mk (Below.trod laidOut (by kernel_rfl) (of_decide_eq_true (by kernel_rfl)) k1 bel lt1) trodAll_mk0)), rfl, bel.frame _, fun h => by cases h⟩

theorem over : Rows.fnNumbersRow.holds Tryz.pinned (OpenSpec.ofChange Rows.fnNumbersSpec) :=
  OpenClaim.holds_of_wide 4 Tryz.f4 rfl rfl rfl rfl rfl rfl rfl ⟨rfl, rfl, rfl, rfl, rfl⟩ rfl rfl rfl rfl rfl (by kernel_rfl) Tryz.func4 (by kernel_rfl)
    (of_decide_eq_true (by kernel_rfl)) (by unfold Func.isWrapper; first | (rw [if_pos (by decide +kernel)]; kernel_rfl) | (rw [if_neg (by decide +kernel)]; exact ⟨rfl, rfl⟩))
    (fun os started H enc _ => lifted os started H enc)

/-- the card -/
theorem proved : Rows.FnNumbersCardSaid :=
  Claim7.holds_tied_plain_at .later [] [.data, .data, .data, .data, .sentinel, .sentinel, .pinned] true Rows.fnNumbersCard.stood.harness true
    over (fun _ h => by cases h) (by kernel_rfl) (fun _ h => by cases h) fnNumbers_row_tie rfl ⟨rfl, rfl⟩ (by kernel_rfl) rfl
    (fun f fn hf hfn => by
      obtain rfl : f = 4 := Option.some.inj ((show Tryz.prog.funcNamed Rows.fnNumbersRow.func = some 4 by kernel_rfl).symm.trans hf) |>.symm
      obtain rfl : fn = Tryz.f4 := (Option.some.inj (Tryz.func4.symm.trans hfn)).symm
      exact ⟨by kernel_rfl, fun j t ht => by
        rw [Tryz.params4] at ht
        have hm : t ∈ [22, 22] := by simpa using Array.mem_of_getElem? ht
        have hall : ([22, 22].all fun u => !Tryz.prog.wantsStandIn u) = true := by kernel_rfl
        exact (show Tryz.prog.wantsStandIn t = false by simpa using List.all_eq_true.1 hall t hm)⟩)
    (by kernel_rfl)
end Go.Proofs.YtmpeogpmlgnmfaaGreatDoor.FnNumbers
