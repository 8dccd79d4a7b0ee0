/- Both texts' IntervalTable: how many lives there are in intervals. -/
import Derived.Test.YtceckapldohkdaaLives
import Derived.Test.YtceckapldohkdaaOwn
namespace Go.Proofs.Ytceckapldohkdaa
open Go.RowKit Go.Deep Flt

set_option maxHeartbeats 1000000 in
theorem markLifeS_any (g n c : Nat) (h : Nat → Value) (w : World) (hr : w.rowIs g 57 (n * 2) h) (hn : n ≤ 1048576) :
    Calls Try.prog 34 #[.slice (some ⟨g, 0, none⟩) n c, .int .i64 1] w fun e w' => e = .returned (.int .i64 ((1 + 2 * n : Nat) : Int)) ∧ Touched w w' g (g + 1) := by
  go_enter Try.func34, Try.ntmps34
  go_wp2
  go_loopw [1, 5] (fun tk ti wx => ∃ j : Nat, j ≤ n ∧ ti = .int .i64 j ∧ tk = .int .i64 ((1 + 2 * j : Nat) : Int) ∧ (∃ h', wx.rowIs g 57 (n * 2) h') ∧ Touched w wx g (g + 1)) (fun _ ti _ => n - (intOf ti).toNat)
  case atStart => exact ⟨0, Nat.zero_le _, rfl, rfl, ⟨h, hr⟩, Touched.refl _ _ _⟩
  case round =>
    obtain ⟨j, hj, rfl, rfl, ⟨h', hr'⟩, ht⟩ := hrel
    have HT := Lib.hid ht
    by_cases hlt : j < n
    · have hlt' : (j : Int) < (n : Int) := by omega
      have cj := hr'.cell (i := j * 2) (by omega)
      have dj := hr'.cell (i := j * 2 + 1) (by omega)
      have fj := hr'.frozen (j * 2)
      have gj := hr'.frozen (j * 2 + 1)
      have HR := Lib.hid hr'
      clear hr' ht hr
      go_wp2
      go_roundw
      case rel => exact ⟨j + 1, by omega, by go_num, congrArg (Value.int .i64) (by omega), ⟨_, (HR.out.set _ _).set _ _⟩, (HT.out.set (by omega) (by omega) _ _).set (by omega) (by omega) _ _⟩
      case measure => simp [intOf]; omega
    · obtain rfl : j = n := by omega
      clear hr' ht hr
      go_wp2
      go_ret
      exact ⟨rfl, HT.out⟩
def ivGe (x lo : Option Nat) : Bool := ford .f32 x lo == some .gt || ford .f32 x lo == some .eq
def ivLt (x hi : Option Nat) : Bool := ford .f32 x hi == some .lt
/-- how many of the first -/
def cntB (p : Nat → Bool) : Nat → Nat
  | 0 => 0
  | n + 1 => cntB p n + if p n then 1 else 0
theorem cntB_le (p : Nat → Bool) : ∀ n, cntB p n ≤ n
  | 0 => Nat.le_refl _
  | n + 1 => by have := cntB_le p n; unfold cntB; split <;> omega
theorem cntB_yes {p : Nat → Bool} {k : Nat} (h : p k = true) : cntB p (k + 1) = cntB p k + 1 := by show cntB p k + (if p k then 1 else 0) = _; rw [h]; rfl
theorem cntB_no {p : Nat → Bool} {k : Nat} (h : p k = false) : cntB p (k + 1) = cntB p k := by show cntB p k + (if p k then 1 else 0) = _; rw [h]; rfl
/-- the bounds of the intervals -/
def ivC (wd : Nat) (i : Nat) : Option Nat := fop .mul .f32 (cls .f32 (floatOfInt .f32 (i : Int))) (cls .f32 wd)
def ivA (X : Nat → Nat) (wd i : Nat) (j : Nat) : Bool := ivGe (cls .f32 (X j)) (ivC wd i)
def ivB (X : Nat → Nat) (wd i : Nat) (j : Nat) : Bool := ivGe (cls .f32 (X j)) (ivC wd i) && ivLt (cls .f32 (X j)) (ivC wd (i + 1))
def ivF (X : Nat → Nat) (F : Nat → Bool) (wd i : Nat) (j : Nat) : Bool := ivB X wd i j && F j
def ivU (X : Nat → Nat) (F : Nat → Bool) (wd i : Nat) (j : Nat) : Bool := ivB X wd i j && !F j
/-- the table, number by number -/
def ivZ (X : Nat → Nat) (F : Nat → Bool) (wd n : Nat) (j : Nat) : Nat :=
  if j % 3 = 0 then cntB (ivA X wd (j / 3)) n else if j % 3 = 1 then cntB (ivF X F wd (j / 3)) n else cntB (ivU X F wd (j / 3)) n
def ivV (X : Nat → Nat) (F : Nat → Bool) (wd n : Nat) (j : Nat) : Value := .int .i64 ((ivZ X F wd n j : Nat) : Int)
theorem ivV_more (X : Nat → Nat) (F : Nat → Bool) (wd n i : Nat) :
    (List.range (3 * i)).map (ivV X F wd n) ++ [.int .i64 ((cntB (ivA X wd i) n : Nat) : Int), .int .i64 ((cntB (ivF X F wd i) n : Nat) : Int), .int .i64 ((cntB (ivU X F wd i) n : Nat) : Int)] = (List.range (3 * (i + 1))).map (ivV X F wd n) := by
  have e : 3 * (i + 1) = 3 * i + 1 + 1 + 1 := by omega
  rw [e, List.range_succ, List.range_succ, List.range_succ]
  simp only [List.map_append, List.map_cons, List.map_nil, List.append_assoc, List.cons_append, List.nil_append]
  have h0 : ivV X F wd n (3 * i) = .int .i64 ((cntB (ivA X wd i) n : Nat) : Int) := by unfold ivV ivZ; rw [if_pos (by omega), show 3 * i / 3 = i by omega]
  have h1 : ivV X F wd n (3 * i + 1) = .int .i64 ((cntB (ivF X F wd i) n : Nat) : Int) := by unfold ivV ivZ; rw [if_neg (by omega), if_pos (by omega), show (3 * i + 1) / 3 = i by omega]
  have h2 : ivV X F wd n (3 * i + 1 + 1) = .int .i64 ((cntB (ivU X F wd i) n : Nat) : Int) := by unfold ivV ivZ; rw [if_neg (by omega), if_neg (by omega), show (3 * i + 1 + 1) / 3 = i by omega]
  rw [h0, h1, h2]
/-- what both texts give -/
def IvRes (ok : Bool) (n : Nat) (f : Nat → Value) (w : World) (e : Ending) (w' : World) : Prop :=
  ∃ A c, e = .returned (.tuple #[.slice A n c, .bool ok]) ∧ OwnV w' 2 A n f w.heap.size w'.heap.size ∧ Below w.heap.size w w'
theorem int_info : (Try.prog.info? 2).map (fun i => (i.zero, i.size, i.bytes)) = some (some (.int .i64 0), 1, 8) := by kernel_rfl
theorem wrap_succ (i : Nat) (h : i ≤ 1000) : IntKind.i64.wrap ((i : Int) + 1) = (i : Int) + 1 := by rw [IntKind.wrap_i64]; omega
theorem own_drewN {w : World} {B n : Nat} {T : TypeId} {v : Value} {xs : List Value} (h : w.ownsRow B T 1 v n xs) (k : Nat) : (w.drewN k).ownsRow B T 1 v n xs := h
set_option maxRecDepth 100000 in
set_option maxHeartbeats 2000000 in
theorem ivI_yes (g n c : Nat) (X : Nat → Nat) (F : Nat → Bool) (wd ct : Nat) (w : World) (hx : LivesAt w g 0 X F n) (hn : n ≤ 1048576) (hl : livesB X n = true) (ha : aboveB (cls .f32 wd) = true) (h1 : 1 ≤ ct) (h16 : ct ≤ 16) :
    Calls Try.prog 32 #[.slice (some ⟨g, 0, none⟩) n c, .float .f32 wd, .int .i64 (ct : Int)] w (IvRes true (3 * ct) (ivV X F wd n) w) := by
  obtain ⟨i0, hi0, hz0, hz1, hz2⟩ := info_parts int_info
  have HL := Lib.hid hl
  have HA := Lib.hid ha
  have hin : inB (ct : Int) 1 16 = true := by unfold inB; simp; omega
  have HX := Lib.hid hx
  clear hl ha hx
  go_enter Try.func32, Try.ntmps32
  go_wp2_with fail
  refine (areLivesI g n c X F _ HX.out hn).mono ?_
  rintro e w1 ⟨rfl, hb⟩
  rw [HL.out]
  have HX1 := Lib.hid (HX.out.below hb)
  have HB := Lib.hid hb
  clear hb
  go_wp2_with fail
  refine (areMore_one _ _ wd _ (by go_simp)).mono ?_
  rintro e w2 ⟨rfl, hb⟩
  rw [HA.out]
  have HX2 := Lib.hid ((HX1.out.below ((Below.refl _ _).alloc (Nat.le_refl _) (.cells #[.float .f32 wd] 32))).below hb)
  have HB := Lib.hid ((HB.out.alloc HB.out.size (.cells #[.float .f32 wd] 32)).trans (hb.mono (by have := HB.out.size; simp; omega)))
  clear hb
  go_wp2_with (first | (go_at_call 67; refine (within_any _ _ _ _).mono ?_; rintro e w' ⟨rfl, rfl⟩))
  go_loopw [8, 33] (fun v ti wx => ∃ i : Nat, i ≤ ct ∧ ti = .int .i64 i ∧ wx.ownsRow w.heap.size 2 1 v (3 * i) ((List.range (3 * i)).map (ivV X F wd n)) ∧ Below w.heap.size w wx) (fun _ ti _ => ct - (intOf ti).toNat)
  case atStart => exact ⟨0, Nat.zero_le _, rfl, World.ownsRow_lit w2 #[] 0 HB.out.size (by decide) rfl, HB.out.alloc HB.out.size _⟩
  case round =>
    obtain ⟨i, hi, rfl, hown, hbel⟩ := hrel
    have HO := Lib.hid hown
    have HW := Lib.hid hbel
    clear hown hbel HB HX1 HX2
    by_cases hlt : i < ct
    · have hlt' : (i : Int) < (ct : Int) := by omega
      have wi := wrap_succ i (by omega)
      go_wp2_with (first | (refine wpList_fop rfl .mul _ _ _ _ rfl rfl .f32 _ _ rfl rfl ?_; intro τ q))
      have HO := Lib.hid (fun m => own_drewN HO.out m)
      have HW := Lib.hid (fun m => below_drewN HW.out m)
      go_loopw [12, 13, 14, 16, 47] (fun ta tf tu _ tk wx => ∃ k : Nat, k ≤ n ∧ tk = .int .i64 k ∧ ta = .int .i64 ((cntB (ivA X wd i) k : Nat) : Int) ∧ tf = .int .i64 ((cntB (ivF X F wd i) k : Nat) : Int) ∧ tu = .int .i64 ((cntB (ivU X F wd i) k : Nat) : Int) ∧ wx.ownsRow w.heap.size 2 1 u8 (3 * i) ((List.range (3 * i)).map (ivV X F wd n)) ∧ Below w.heap.size w wx) (fun _ _ _ _ tk _ => n - (intOf tk).toNat)
      case atStart => exact ⟨0, Nat.zero_le _, rfl, rfl, rfl, rfl, HO.out _, HW.out _⟩
      case round =>
        obtain ⟨k, hk, rfl, rfl, rfl, rfl, hown, hbel⟩ := hrel
        have HN := Lib.hid hown
        have HV := Lib.hid hbel
        clear hown hbel HO HW
        by_cases hkn : k < n
        · have hkn' : (k : Int) < (n : Int) := by omega
          have hk0 : (0 : Int) ≤ (k : Int) := by omega
          obtain ⟨cx, cy⟩ := (HX.out.below HV.out) k hkn
          rw [Nat.zero_add] at cx cy
          have la := cntB_le (ivA X wd i) k
          have lf := cntB_le (ivF X F wd i) k
          have lu := cntB_le (ivU X F wd i) k
          have eS : cls .f32 (floatOfInt .f32 ((i + 1 : Nat) : Int)) = cls .f32 (floatOfInt .f32 ((i : Int) + 1)) := by rw [Int.natCast_add]; rfl
          have HES := Lib.hid eS
          clear eS
          cases hA : ivGe (cls .f32 (X k)) (ivC wd i)
          · have HA1 := Lib.hid (cntB_no (p := ivA X wd i) (k := k) hA)
            have HF1 := Lib.hid (cntB_no (p := ivF X F wd i) (k := k) (by unfold ivF ivB; rw [hA]; rfl))
            have HU1 := Lib.hid (cntB_no (p := ivU X F wd i) (k := k) (by unfold ivU ivB; rw [hA]; rfl))
            unfold ivGe ivC at hA
            go_wp2
            go_roundw
            case rel => exact ⟨k + 1, by omega, by go_num, by rw [HA1.out], by rw [HF1.out], by rw [HU1.out], HN.out.alloc _, HV.out.alloc HV.out.size _⟩
            case measure => simp [intOf]; omega
          cases hB : ivLt (cls .f32 (X k)) (ivC wd (i + 1))
          · have HA1 := Lib.hid (cntB_yes (p := ivA X wd i) (k := k) hA)
            have HF1 := Lib.hid (cntB_no (p := ivF X F wd i) (k := k) (by unfold ivF ivB; rw [hB]; simp))
            have HU1 := Lib.hid (cntB_no (p := ivU X F wd i) (k := k) (by unfold ivU ivB; rw [hB]; simp))
            unfold ivGe ivC at hA
            unfold ivLt ivC at hB
            rw [HES.out] at hB
            go_wp2
            go_roundw
            case rel => exact ⟨k + 1, by omega, by go_num, congrArg (Value.int .i64) (by rw [HA1.out]; omega), by rw [HF1.out], by rw [HU1.out], HN.out.alloc _, HV.out.alloc HV.out.size _⟩
            case measure => simp [intOf]; omega
          cases hF : F k
          · have HA1 := Lib.hid (cntB_yes (p := ivA X wd i) (k := k) hA)
            have HF1 := Lib.hid (cntB_no (p := ivF X F wd i) (k := k) (by unfold ivF; rw [hF]; simp))
            have HU1 := Lib.hid (cntB_yes (p := ivU X F wd i) (k := k) (by unfold ivU ivB; rw [hA, hB, hF]; rfl))
            unfold ivGe ivC at hA
            unfold ivLt ivC at hB
            rw [HES.out] at hB
            rw [hF] at cy
            clear hF
            go_wp2
            go_roundw
            case rel => exact ⟨k + 1, by omega, by go_num, congrArg (Value.int .i64) (by rw [HA1.out]; omega), by rw [HF1.out], congrArg (Value.int .i64) (by rw [HU1.out]; omega), HN.out.alloc _, HV.out.alloc HV.out.size _⟩
            case measure => simp [intOf]; omega
          · have HA1 := Lib.hid (cntB_yes (p := ivA X wd i) (k := k) hA)
            have HF1 := Lib.hid (cntB_yes (p := ivF X F wd i) (k := k) (by unfold ivF ivB; rw [hA, hB, hF]; rfl))
            have HU1 := Lib.hid (cntB_no (p := ivU X F wd i) (k := k) (by unfold ivU; rw [hF]; simp))
            unfold ivGe ivC at hA
            unfold ivLt ivC at hB
            rw [HES.out] at hB
            rw [hF] at cy
            clear hF
            go_wp2
            go_roundw
            case rel => exact ⟨k + 1, by omega, by go_num, congrArg (Value.int .i64) (by rw [HA1.out]; omega), congrArg (Value.int .i64) (by rw [HF1.out]; omega), by rw [HU1.out], HN.out.alloc _, HV.out.alloc HV.out.size _⟩
            case measure => simp [intOf]; omega
        · obtain rfl : k = n := by omega
          obtain ⟨va, hva⟩ : ∃ va, va = cntB (ivA X wd i) k := ⟨_, rfl⟩
          obtain ⟨vf, hvf⟩ : ∃ vf, vf = cntB (ivF X F wd i) k := ⟨_, rfl⟩
          obtain ⟨vu, hvu⟩ : ∃ vu, vu = cntB (ivU X F wd i) k := ⟨_, rfl⟩
          have HE := Lib.hid (And.intro hva (And.intro hvf hvu))
          rw [← hva, ← hvf, ← hvu]
          clear hva hvf hvu
          go_wp2_with (first | (at_builtin; refine wpList_append_own _ rfl _ _ 43 rfl w.heap.size 2 i0 (.int .i64 0) 1 8 Try.underlying43 hi0 hz0 hz1 hz2 rfl (by decide) _ _ _ rfl (HN.out.alloc _) ⟨wr.heap.size, 0, none⟩ 3 3 [.int .i64 (va : Int), .int .i64 (vf : Int), .int .i64 (vu : Int)] rfl rfl ?c1 ?c2 ?c3 ?c4 ?c5 ?_))
          case c1 => exact news_cells rfl
          case c2 => intro u hu; simp at hu; rcases hu with rfl | rfl | rfl <;> rfl
          case c3 => unfold maxLen; omega
          case c4 => omega
          case c5 => have := HV.out.size; simp; omega
          intro v' w3 hown1 hgrow _
          rw [HE.out.1, HE.out.2.1, HE.out.2.2, ivV_more] at hown1
          have HN1 := Lib.hid hown1
          have HB1 := Lib.hid ((HV.out.alloc HV.out.size _).grown hgrow (by have := HV.out.size; simp; omega) (fun k hk => (HN.out.lt k hk).1))
          clear hown1 hgrow
          go_wp2
          go_roundw
          case rel => exact ⟨i + 1, by omega, by go_num, HN1.out, HB1.out⟩
          case measure => simp [intOf]; omega
    · obtain rfl : i = ct := by omega
      obtain ⟨A, cap, rfl, ho⟩ := OwnV.of_map HO.out
      have HR := Lib.hid ho
      clear ho
      go_wp2
      go_ret2
      exact ⟨A, cap, rfl, HR.out, HW.out⟩
end Go.Proofs.Ytceckapldohkdaa
