/- The reference's IntervalTable. -/
import Derived.Test.YtceckapldohkdaaIv
namespace Go.Proofs.Ytceckapldohkdaa
open Go.RowKit Go.Deep Flt

set_option maxHeartbeats 400000 in
theorem l02Risk_any (g n c : Nat) (X : Nat → Nat) (F : Nat → Bool) (lo : Option Nat) (lob : Nat) (w : World) (hx : LivesAt w g 0 X F n) (hn : n ≤ 1048576) (hlo : cls .f32 lob = lo) :
    Calls Try.prog 66 #[.slice (some ⟨g, 0, none⟩) n c, .float .f32 lob] w fun e w' => e = .returned (.int .i64 ((cntB (fun j => ivGe (cls .f32 (X j)) lo) n : Nat) : Int)) ∧ w = w' := by
  subst hlo
  go_enter Try.func66, Try.ntmps66
  go_wp2
  go_loopw [5, 6] (fun v i wr => ∃ k : Nat, k ≤ n ∧ i = .int .i64 k ∧ v = .int .i64 ((cntB (fun j => ivGe (cls .f32 (X j)) (cls .f32 lob)) k : Nat) : Int) ∧ wr = w) (fun _ i _ => n - (intOf i).toNat)
  case atStart => exact ⟨0, Nat.zero_le _, rfl, rfl, rfl⟩
  case round =>
    obtain ⟨k, hk, rfl, rfl, rfl⟩ := hrel
    by_cases hlt : k < n
    · obtain ⟨cx, _⟩ := hx k hlt
      rw [Nat.zero_add] at cx
      have hlt' : (k : Int) < (n : Int) := by omega
      have hk0 : (0 : Int) ≤ (k : Int) := by omega
      have hc := cntB_le (fun j => ivGe (cls .f32 (X j)) (cls .f32 lob)) k
      clear hx
      cases hA : ivGe (cls .f32 (X k)) (cls .f32 lob)
      · have HF := Lib.hid (cntB_no (p := fun j => ivGe (cls .f32 (X j)) (cls .f32 lob)) (k := k) hA)
        unfold ivGe at hA
        generalize cntB (fun j => ivGe (cls .f32 (X j)) (cls .f32 lob)) k = ck at *
        go_wp2
        go_roundw
        case rel => exact ⟨k + 1, by omega, by go_num, by rw [HF.out], by first | rfl | trivial⟩
        case measure => simp [intOf]; omega
      · have HF := Lib.hid (cntB_yes (p := fun j => ivGe (cls .f32 (X j)) (cls .f32 lob)) (k := k) hA)
        unfold ivGe at hA
        generalize cntB (fun j => ivGe (cls .f32 (X j)) (cls .f32 lob)) k = ck at *
        go_wp2
        go_roundw
        case rel => exact ⟨k + 1, by omega, by go_num, congrArg (Value.int .i64) (by rw [HF.out]; omega), by first | rfl | trivial⟩
        case measure => simp [intOf]; omega
    · obtain rfl : k = n := by omega
      clear hx
      go_wp2
      go_ret
      exact ⟨rfl, rfl⟩
set_option maxRecDepth 100000 in
set_option maxHeartbeats 2000000 in
theorem ivS_yes (g n c : Nat) (X : Nat → Nat) (F : Nat → Bool) (wd ct : Nat) (w : World) (hx : LivesAt w g 0 X F n) (hn : n ≤ 1048576) (hl : livesB X n = true) (ha : aboveB (cls .f32 wd) = true) (h1 : 1 ≤ ct) (h16 : ct ≤ 16) :
    Calls Try.prog 31 #[.slice (some ⟨g, 0, none⟩) n c, .float .f32 wd, .int .i64 (ct : Int)] w (IvRes true (3 * ct) (ivV X F wd n) w) := by
  obtain ⟨i0, hi0, hz0, hz1, hz2⟩ := info_parts int_info
  have HL := Lib.hid hl
  have HA := Lib.hid ha
  have hin : inB (ct : Int) 1 16 = true := by unfold inB; simp; omega
  have HX := Lib.hid hx
  clear hl ha hx
  go_enter Try.func31, Try.ntmps31
  go_wp2_with fail
  refine (l02Lives_any g n c X F _ HX.out hn).mono ?_
  rintro e w1 ⟨rfl, hd⟩
  rw [HL.out]
  have HB := Lib.hid hd.below
  clear hd
  go_wp2_with fail
  refine (l02Above_any wd _).mono ?_
  rintro e w2 ⟨rfl, hd⟩
  rw [HA.out]
  have HB := Lib.hid (HB.out.trans (hd.below.mono HB.out.size))
  clear hd
  go_wp2_with (first | (go_at_call 65; refine (l00In_any _ _ _ _).mono ?_; rintro e w' ⟨rfl, rfl⟩))
  go_loopw [8, 9] (fun v ti wx => ∃ i : Nat, i ≤ ct ∧ ti = .int .i64 i ∧ wx.ownsRow w.heap.size 2 1 v (3 * i) ((List.range (3 * i)).map (ivV X F wd n)) ∧ Below w.heap.size w wx) (fun _ ti _ => ct - (intOf ti).toNat)
  case atStart => exact ⟨0, Nat.zero_le _, rfl, World.ownsRow_lit w2 #[] 0 HB.out.size (by decide) rfl, HB.out.alloc HB.out.size _⟩
  case round =>
    obtain ⟨i, hi, rfl, hown, hbel⟩ := hrel
    have HO := Lib.hid hown
    have HW := Lib.hid hbel
    clear hown hbel HB
    by_cases hlt : i < ct
    · have hlt' : (i : Int) < (ct : Int) := by omega
      have wi := wrap_succ i (by omega)
      go_wp2_with (first | (refine wpList_fop rfl .mul _ _ _ _ rfl rfl .f32 _ _ rfl rfl ?_; intro τ q))
      have HO := Lib.hid (fun m => own_drewN HO.out m)
      have HW := Lib.hid (fun m => below_drewN HW.out m)
      go_loopw [12, 13, 14] (fun tf tu tk wx => ∃ k : Nat, k ≤ n ∧ tk = .int .i64 k ∧ tf = .int .i64 ((cntB (ivF X F wd i) k : Nat) : Int) ∧ tu = .int .i64 ((cntB (ivU X F wd i) k : Nat) : Int) ∧ wx.ownsRow w.heap.size 2 1 u8 (3 * i) ((List.range (3 * i)).map (ivV X F wd n)) ∧ Below w.heap.size w wx) (fun _ _ tk _ => n - (intOf tk).toNat)
      case atStart => exact ⟨0, Nat.zero_le _, rfl, rfl, rfl, HO.out _, HW.out _⟩
      case round =>
        obtain ⟨k, hk, rfl, rfl, rfl, hown, hbel⟩ := hrel
        have HN := Lib.hid hown
        have HV := Lib.hid hbel
        clear hown hbel HO HW
        by_cases hkn : k < n
        · have hkn' : (k : Int) < (n : Int) := by omega
          have hk0 : (0 : Int) ≤ (k : Int) := by omega
          obtain ⟨cx, cy⟩ := (HX.out.below HV.out) k hkn
          rw [Nat.zero_add] at cx cy
          have lf := cntB_le (ivF X F wd i) k
          have lu := cntB_le (ivU X F wd i) k
          have eS : cls .f32 (floatOfInt .f32 ((i + 1 : Nat) : Int)) = cls .f32 (floatOfInt .f32 ((i : Int) + 1)) := by rw [Int.natCast_add]; rfl
          have HES := Lib.hid eS
          clear eS
          cases hA : ivGe (cls .f32 (X k)) (ivC wd i)
          · have HF1 := Lib.hid (cntB_no (p := ivF X F wd i) (k := k) (by unfold ivF ivB; rw [hA]; rfl))
            have HU1 := Lib.hid (cntB_no (p := ivU X F wd i) (k := k) (by unfold ivU ivB; rw [hA]; rfl))
            unfold ivGe ivC at hA
            go_wp2
            go_roundw
            case rel => exact ⟨k + 1, by omega, by go_num, by rw [HF1.out], by rw [HU1.out], HN.out, HV.out⟩
            case measure => simp [intOf]; omega
          cases hB : ivLt (cls .f32 (X k)) (ivC wd (i + 1))
          · have HF1 := Lib.hid (cntB_no (p := ivF X F wd i) (k := k) (by unfold ivF ivB; rw [hB]; simp))
            have HU1 := Lib.hid (cntB_no (p := ivU X F wd i) (k := k) (by unfold ivU ivB; rw [hB]; simp))
            unfold ivGe ivC at hA
            unfold ivLt ivC at hB
            rw [HES.out] at hB
            go_wp2
            go_roundw
            case rel => exact ⟨k + 1, by omega, by go_num, by rw [HF1.out], by rw [HU1.out], HN.out, HV.out⟩
            case measure => simp [intOf]; omega
          cases hF : F k
          · have HF1 := Lib.hid (cntB_no (p := ivF X F wd i) (k := k) (by unfold ivF; rw [hF]; simp))
            have HU1 := Lib.hid (cntB_yes (p := ivU X F wd i) (k := k) (by unfold ivU ivB; rw [hA, hB, hF]; rfl))
            unfold ivGe ivC at hA
            unfold ivLt ivC at hB
            rw [HES.out] at hB
            rw [hF] at cy
            clear hF
            go_wp2
            go_roundw
            case rel => exact ⟨k + 1, by omega, by go_num, by rw [HF1.out], congrArg (Value.int .i64) (by rw [HU1.out]; omega), HN.out, HV.out⟩
            case measure => simp [intOf]; omega
          · have HF1 := Lib.hid (cntB_yes (p := ivF X F wd i) (k := k) (by unfold ivF ivB; rw [hA, hB, hF]; rfl))
            have HU1 := Lib.hid (cntB_no (p := ivU X F wd i) (k := k) (by unfold ivU; rw [hF]; simp))
            unfold ivGe ivC at hA
            unfold ivLt ivC at hB
            rw [HES.out] at hB
            rw [hF] at cy
            clear hF
            go_wp2
            go_roundw
            case rel => exact ⟨k + 1, by omega, by go_num, congrArg (Value.int .i64) (by rw [HF1.out]; omega), by rw [HU1.out], HN.out, HV.out⟩
            case measure => simp [intOf]; omega
        · obtain rfl : k = n := by omega
          have HRK := Lib.hid (fun lob hlo => l02Risk_any g k c X F (ivC wd i) lob wr (HX.out.below HV.out) hn hlo)
          obtain ⟨va, hva⟩ : ∃ va, va = cntB (ivA X wd i) k := ⟨_, rfl⟩
          obtain ⟨vf, hvf⟩ : ∃ vf, vf = cntB (ivF X F wd i) k := ⟨_, rfl⟩
          obtain ⟨vu, hvu⟩ : ∃ vu, vu = cntB (ivU X F wd i) k := ⟨_, rfl⟩
          have HE := Lib.hid (And.intro hva (And.intro hvf hvu))
          rw [← hvf, ← hvu]
          clear hva hvf hvu
          go_wp2_with fail
          refine (HRK.out _ (cls_rep' (nn_fop _ _ _ _) _)).mono ?_
          rintro e w' ⟨rfl, rfl⟩
          have HE2 := Lib.hid (show cntB (fun j => ivGe (cls .f32 (X j)) (ivC wd i)) k = va from HE.out.1.symm)
          rw [HE2.out]
          go_wp2_with (first | (at_builtin; refine wpList_append_own _ rfl _ _ 43 rfl w.heap.size 2 i0 (.int .i64 0) 1 8 Try.underlying43 hi0 hz0 hz1 hz2 rfl (by decide) _ _ _ rfl (HN.out.alloc _) ⟨wr.heap.size, 0, none⟩ 3 3 [.int .i64 (va : Int), .int .i64 (vf : Int), .int .i64 (vu : Int)] rfl rfl ?c1 ?c2 ?c3 ?c4 ?c5 ?_))
          case c1 => exact news_cells rfl
          case c2 => intro u hu; simp at hu; rcases hu with rfl | rfl | rfl <;> rfl
          case c3 => unfold maxLen; omega
          case c4 => omega
          case c5 => have := HV.out.size; simp; omega
          intro v' w3 hown1 hgrow _
          rw [HE.out.1, HE.out.2.1, HE.out.2.2, ivV_more] at hown1
          have HN1 := Lib.hid hown1
          have HB1 := Lib.hid ((HV.out.alloc HV.out.size _).grown hgrow (by have := HV.out.size; simp; omega) (fun k hk => (HN.out.lt k hk).1))
          clear hown1 hgrow
          go_wp2
          go_roundw
          case rel => exact ⟨i + 1, by omega, by go_num, HN1.out, HB1.out⟩
          case measure => simp [intOf]; omega
    · obtain rfl : i = ct := by omega
      obtain ⟨A, cap, rfl, ho⟩ := OwnV.of_map HO.out
      have HR := Lib.hid ho
      clear ho
      go_wp2
      go_ret2
      exact ⟨A, cap, rfl, HR.out, HW.out⟩
end Go.Proofs.Ytceckapldohkdaa
