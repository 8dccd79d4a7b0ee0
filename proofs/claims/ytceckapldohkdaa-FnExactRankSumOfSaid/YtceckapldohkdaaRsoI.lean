/- Both texts' RankSumOf. -/
import Derived.Test.YtceckapldohkdaaCat
import Derived.Test.YtceckapldohkdaaIv
import Derived.Deep.QuietTactic
import Derived.BigQuiet
namespace Go.Proofs.Ytceckapldohkdaa
open Go.RowKit Go.Deep Flt

/-- how many are less, how many the same -/
def rkL (X : Nat → Nat) (Z : Nat → Nat) (i k : Nat) : Bool := ford .f32 (cls .f32 (Z k)) (cls .f32 (X i)) == some .lt
def rkS (X : Nat → Nat) (Z : Nat → Nat) (i k : Nat) : Bool := ford .f32 (cls .f32 (Z k)) (cls .f32 (X i)) == some .eq
theorem rk_one {X Z : Nat → Nat} {i k : Nat} (h : rkL X Z i k = true) : rkS X Z i k = false := by
  unfold rkL at h
  unfold rkS
  rw [eq_of_beq h]; rfl
/-- a rank, twice, and one -/
def rkR (X Z : Nat → Nat) (N i : Nat) : Nat := 2 * cntB (rkL X Z i) N + cntB (rkS X Z i) N + 1
def rkSum (X Z : Nat → Nat) (N : Nat) : Nat → Nat
  | 0 => 0
  | i + 1 => rkSum X Z N i + rkR X Z N i
theorem rkR_le (X Z : Nat → Nat) (N i : Nat) : rkR X Z N i ≤ 3 * N + 1 := by
  have h1 := cntB_le (rkL X Z i) N
  have h2 := cntB_le (rkS X Z i) N
  unfold rkR; omega
theorem rkSum_le (X Z : Nat → Nat) (N : Nat) : ∀ i, rkSum X Z N i ≤ i * (3 * N + 1)
  | 0 => by simp [rkSum]
  | i + 1 => by have := rkSum_le X Z N i; have := rkR_le X Z N i; rw [Nat.add_mul]; unfold rkSum; omega
def rsoOk (X : Nat → Nat) (n : Nat) (Y : Nat → Nat) (m : Nat) : Bool := livesB X n && livesB Y m
def rsoN (X : Nat → Nat) (n : Nat) (Y : Nat → Nat) (m : Nat) : Nat := if rsoOk X n Y m then rkSum X (catX X Y n) (n + m) n else 0
theorem lives_bounds {X : Nat → Nat} {n : Nat} (h : livesB X n = true) : 1 ≤ n ∧ n ≤ 48 := by
  unfold livesB at h
  simp at h
  exact ⟨h.1, h.2.1⟩

set_option maxRecDepth 100000 in
set_option maxHeartbeats 2000000 in
theorem rsoI_yes (g n c h m d : Nat) (X : Nat → Nat) (F : Nat → Bool) (Y : Nat → Nat) (G : Nat → Bool) (w : World) (hx : LivesAt w g 0 X F n) (hy : LivesAt w h 0 Y G m) (hl : livesB X n = true) (hm : livesB Y m = true) :
    Calls Try.prog 27 #[.slice (some ⟨g, 0, none⟩) n c, .slice (some ⟨h, 0, none⟩) m d] w fun e w' => e = .returned (.tuple #[.int .i64 (rkSum X (catX X Y n) (n + m) n : Nat), .bool true]) ∧ Below w.heap.size w w' := by
  obtain ⟨n1, n2⟩ := lives_bounds hl
  obtain ⟨m1, m2⟩ := lives_bounds hm
  have HL := Lib.hid hl
  have HM := Lib.hid hm
  have HX := Lib.hid hx
  have HY := Lib.hid hy
  clear hl hm hx hy
  go_enter Try.func27, Try.ntmps27
  go_wp2_with fail
  refine (areLivesI g n c X F _ HX.out (by omega)).mono ?_
  rintro e w1 ⟨rfl, hb⟩
  rw [HL.out]
  have HB := Lib.hid hb
  clear hb
  go_wp2_with fail
  refine (areLivesI h m d Y G _ (HY.out.below HB.out) (by omega)).mono ?_
  rintro e w2 ⟨rfl, hb⟩
  rw [HM.out]
  have HB := Lib.hid (HB.out.trans (hb.mono HB.out.size))
  clear hb
  go_wp2
  go_loopw [6, 8, 9, 11, 22] (fun ts _ _ _ ti wx => ∃ i : Nat, i ≤ n ∧ ti = .int .i64 i ∧ ts = .int .i64 ((rkSum X (catX X Y n) (n + m) i : Nat) : Int) ∧ Below w.heap.size w wx) (fun _ _ _ _ ti _ => n - (intOf ti).toNat)
  case atStart => exact ⟨0, Nat.zero_le _, rfl, rfl, HB.out⟩
  case round =>
    obtain ⟨i, hi, rfl, rfl, hbel⟩ := hrel
    have HW := Lib.hid hbel
    have s1 := rkSum_le X (catX X Y n) (n + m) i
    have s2 : i * (3 * (n + m) + 1) ≤ 48 * 289 := Nat.mul_le_mul (by omega) (by omega)
    have s3 : rkSum X (catX X Y n) (n + m) i ≤ 48 * 289 := Nat.le_trans s1 s2
    clear s1 s2 HB
    by_cases hlt : i < n
    · have hlt' : (i : Int) < (n : Int) := by omega
      have hi0 : (0 : Int) ≤ (i : Int) := by omega
      obtain ⟨cx, cy⟩ := (HX.out.below hbel) i hlt
      rw [Nat.zero_add] at cx cy
      clear hbel
      have hA := (HW.out.alloc HW.out.size (.cells #[.float .f32 (X i), .bool (F i)] 57)).alloc (by have := HW.out.size; simp; omega) (.cells #[.slice (some ⟨g, 0, none⟩) n c, .slice (some ⟨h, 0, none⟩) m d] 25)
      have HA := Lib.hid hA
      clear hA
      go_wp2_with fail
      refine (concat_any _ g c n h d m X F Y G _ (HX.out.below HA.out) (HY.out.below HA.out) n1 n2 m1 m2 (by go_simp) (by go_simp)).mono ?_
      rintro e w3 ⟨q, cap, rfl, hz, hb⟩
      have hbx := hb.cell (p := ⟨wr.heap.size, 0, none⟩) (by simp; omega)
      simp at hbx
      have cb : w3.cell? ⟨wr.heap.size, 0, none⟩ = some (.float .f32 (X i)) := hbx.trans (by go_simp)
      have sz : wr.heap.size < w3.heap.size := by have := hb.size; simp at this; omega
      have CB := Lib.hid (fun (W : World) (hb : Below w3.heap.size w3 W) => (hb.cell (p := ⟨wr.heap.size, 0, none⟩) sz).trans cb)
      clear cb
      have HZ := Lib.hid hz
      have HV := Lib.hid (HA.out.trans (hb.mono HA.out.size))
      clear hz hb hbx
      go_wp2
      obtain ⟨Z, hZ⟩ : ∃ Z, Z = catX X Y n := ⟨_, rfl⟩
      rw [← hZ] at HZ s3 ⊢
      have HE := Lib.hid hZ
      clear hZ
      go_loopw [9, 11, 31] (fun tr _ tk wx => ∃ k : Nat, k ≤ n + m ∧ tk = .int .i64 k ∧ tr = .int .i64 ((1 + 2 * cntB (rkL X Z i) k + cntB (rkS X Z i) k : Nat) : Int) ∧ Below w3.heap.size w3 wx) (fun _ _ tk _ => n + m - (intOf tk).toNat)
      case atStart => exact ⟨0, Nat.zero_le _, rfl, rfl, Below.refl _ _⟩
      case round =>
        obtain ⟨k, hk, rfl, rfl, hb3⟩ := hrel
        have HB3 := Lib.hid hb3
        have lL := cntB_le (rkL X Z i) k
        have lS := cntB_le (rkS X Z i) k
        by_cases hkn : k < n + m
        · have hkn' : (k : Int) < (n : Int) + (m : Int) := by omega
          have hk0 : (0 : Int) ≤ (k : Int) := by omega
          obtain ⟨cz, cz'⟩ := (HZ.out.below hb3) k hkn
          rw [Nat.zero_add] at cz cz'
          have cb2 := CB.out _ (hb3.alloc hb3.size (.cells #[.float .f32 (Z k), .bool (catF F G n k)] 57))
          clear hb3
          cases hL : rkL X Z i k
          · cases hS : rkS X Z i k
            · have HL1 := Lib.hid (cntB_no hL)
              have HS1 := Lib.hid (cntB_no hS)
              unfold rkL at hL
              unfold rkS at hS
              generalize cntB (rkL X Z i) k = cl at *
              generalize cntB (rkS X Z i) k = cs at *
              go_wp2
              go_roundw
              case rel => exact ⟨k + 1, by omega, by go_num, congrArg (Value.int .i64) (by rw [HL1.out, HS1.out]), HB3.out.alloc HB3.out.size _⟩
              case measure => simp [intOf]; omega
            · have HL1 := Lib.hid (cntB_no hL)
              have HS1 := Lib.hid (cntB_yes hS)
              unfold rkL at hL
              unfold rkS at hS
              generalize cntB (rkL X Z i) k = cl at *
              generalize cntB (rkS X Z i) k = cs at *
              go_wp2
              go_roundw
              case rel => exact ⟨k + 1, by omega, by go_num, congrArg (Value.int .i64) (by rw [HL1.out, HS1.out]; omega), HB3.out.alloc HB3.out.size _⟩
              case measure => simp [intOf]; omega
          · have HL1 := Lib.hid (cntB_yes hL)
            have HS1 := Lib.hid (cntB_no (rk_one hL))
            unfold rkL at hL
            generalize cntB (rkL X Z i) k = cl at *
            generalize cntB (rkS X Z i) k = cs at *
            go_wp2
            go_roundw
            case rel => exact ⟨k + 1, by omega, by go_num, congrArg (Value.int .i64) (by rw [HL1.out, HS1.out]; omega), HB3.out.alloc HB3.out.size _⟩
            case measure => simp [intOf]; omega
        · obtain rfl : k = n + m := by omega
          have HR := Lib.hid (show rkSum X Z (n + m) (i + 1) = rkSum X Z (n + m) i + (2 * cntB (rkL X Z i) (n + m) + cntB (rkS X Z i) (n + m) + 1) from rfl)
          have HW3 := Lib.hid (HV.out.trans (hb3.mono HV.out.size))
          clear hb3
          generalize cntB (rkL X Z i) (n + m) = cl at *
          generalize cntB (rkS X Z i) (n + m) = cs at *
          generalize rkSum X Z (n + m) i = sm at *
          go_wp2
          go_roundw
          case rel => exact ⟨i + 1, by omega, by go_num, congrArg (Value.int .i64) (by rw [← HE.out, HR.out]; omega), HW3.out⟩
          case measure => simp [intOf]; omega
    · obtain rfl : i = n := by omega
      clear hbel
      go_wp2
      go_ret2
      exact ⟨rfl, HW.out⟩
set_option maxRecDepth 100000 in
set_option maxHeartbeats 2000000 in
theorem rsoS_yes (g n c h m d : Nat) (X : Nat → Nat) (F : Nat → Bool) (Y : Nat → Nat) (G : Nat → Bool) (w : World) (hx : LivesAt w g 0 X F n) (hy : LivesAt w h 0 Y G m) (hl : livesB X n = true) (hm : livesB Y m = true) :
    Calls Try.prog 26 #[.slice (some ⟨g, 0, none⟩) n c, .slice (some ⟨h, 0, none⟩) m d] w fun e w' => e = .returned (.tuple #[.int .i64 (rkSum X (catX X Y n) (n + m) n : Nat), .bool true]) ∧ Below w.heap.size w w' := by
  obtain ⟨n1, n2⟩ := lives_bounds hl
  obtain ⟨m1, m2⟩ := lives_bounds hm
  obtain ⟨i0, hi0, hz0, hz1, hz2⟩ := info_parts info_life
  have HL := Lib.hid hl
  have HM := Lib.hid hm
  have HX := Lib.hid hx
  have HY := Lib.hid hy
  clear hl hm hx hy
  obtain ⟨Z, hZ⟩ : ∃ Z, Z = catX X Y n := ⟨_, rfl⟩
  rw [← hZ]
  have HEZ := Lib.hid hZ
  clear hZ
  go_enter Try.func26, Try.ntmps26
  go_wp2_with fail
  refine (l02Lives_any g n c X F _ HX.out (by omega)).mono ?_
  rintro e w1 ⟨rfl, hd⟩
  rw [HL.out]
  have HB := Lib.hid hd.below
  clear hd
  go_wp2_with fail
  refine (l02Lives_any h m d Y G _ (HY.out.below HB.out) (by omega)).mono ?_
  rintro e w2 ⟨rfl, hd⟩
  rw [HM.out]
  have HB := Lib.hid (HB.out.trans (hd.below.mono HB.out.size))
  clear hd
  have HB0 := Lib.hid (HB.out.alloc HB.out.size (.cells #[] 57))
  go_wp2_with (first | (at_builtin; refine wpList_append_own _ rfl (.tmp 20) (.tmp 21) 25 rfl w.heap.size 57 i0 _ 2 8 Try.underlying25 hi0 hz0 hz1 hz2 rfl (by decide) _ _ _ rfl (World.ownsRow_lit w2 #[] 0 HB.out.size (by decide) rfl) ⟨g, 0, none⟩ n c (lcells X F n) rfl (lcells_len _ _ _) ?c1 (lcells_one _ _ _) ?c3 ?c4 ?c5 ?_))
  case c1 => exact lcells_at (HX.out.below HB0.out)
  case c3 => unfold maxLen; omega
  case c4 => omega
  case c5 => exact HB0.out.size
  intro v1 w3 hown1 hgrow1 _
  have HN1 := Lib.hid hown1
  have HB1 := Lib.hid (HB0.out.grown hgrow1 HB0.out.size (fun k hk => by have := HB.out.size; simp [Value.ownBlock] at hk; omega))
  clear hown1 hgrow1
  go_wp2_with (first | (at_builtin; refine wpList_append_own _ rfl (.tmp 22) (.tmp 23) 25 rfl w.heap.size 57 i0 _ 2 8 Try.underlying25 hi0 hz0 hz1 hz2 rfl (by decide) _ _ _ rfl HN1.out ⟨h, 0, none⟩ m d (lcells Y G m) rfl (lcells_len _ _ _) ?c1 (lcells_one _ _ _) ?c3 ?c4 ?c5 ?_))
  case c1 => exact lcells_at (HY.out.below HB1.out)
  case c3 => unfold maxLen; omega
  case c4 => omega
  case c5 => exact HB1.out.size
  intro v2 w4 hown2 hgrow2 _
  have hb2 := HB1.out.grown hgrow2 HB1.out.size (fun k hk => (HN1.out.lt k hk).1)
  have hown2' : w4.ownsRow w.heap.size 57 2 v2 (n + m) (lcells X F n ++ lcells Y G m) := by simpa using hown2
  obtain ⟨q, cap, rfl⟩ := own_slice hown2' (by omega)
  have hz := lives_of_own hown2'
  have HB2 := Lib.hid hb2
  clear hown2 hown2' hgrow2 hb2
  rw [← HEZ.out] at hz
  have HZ := Lib.hid hz
  clear hz
  go_wp2
  go_loopw [7, 8, 9, 10, 11] (fun ts ti _ _ _ wx => ∃ i : Nat, i ≤ n ∧ ti = .int .i64 i ∧ ts = .int .i64 ((rkSum X Z (n + m) i : Nat) : Int) ∧ Drew w4 wx) (fun _ ti _ _ _ _ => n - (intOf ti).toNat)
  case atStart => exact ⟨0, Nat.zero_le _, rfl, rfl, Drew.refl _⟩
  case round =>
    obtain ⟨i, hi, rfl, rfl, hd⟩ := hrel
    have HD := Lib.hid hd
    have s1 := rkSum_le X Z (n + m) i
    have s2 : i * (3 * (n + m) + 1) ≤ 48 * 289 := Nat.mul_le_mul (by omega) (by omega)
    have s3 : rkSum X Z (n + m) i ≤ 48 * 289 := Nat.le_trans s1 s2
    clear s1 s2 hd
    by_cases hlt : i < n
    · have hlt' : (i : Int) < (n : Int) := by omega
      have hi0 : (0 : Int) ≤ (i : Int) := by omega
      go_wp2
      go_loopw [9, 10, 11] (fun tl ts tk wx => ∃ k : Nat, k ≤ n + m ∧ tk = .int .i64 k ∧ tl = .int .i64 ((cntB (rkL X Z i) k : Nat) : Int) ∧ ts = .int .i64 ((cntB (rkS X Z i) k : Nat) : Int) ∧ Drew w4 wx) (fun _ _ tk _ => n + m - (intOf tk).toNat)
      case atStart => exact ⟨0, Nat.zero_le _, rfl, rfl, rfl, HD.out⟩
      case round =>
        obtain ⟨k, hk, rfl, rfl, rfl, hd⟩ := hrel
        have HE := Lib.hid hd
        have lL := cntB_le (rkL X Z i) k
        have lS := cntB_le (rkS X Z i) k
        by_cases hkn : k < n + m
        · have hkn' : (k : Int) < (n : Int) + (m : Int) := by omega
          have hk0 : (0 : Int) ≤ (k : Int) := by omega
          obtain ⟨cz, _⟩ := (HZ.out.drew hd) k hkn
          obtain ⟨cx, _⟩ := ((HX.out.below HB2.out).drew hd) i hlt
          rw [Nat.zero_add] at cz cx
          clear hd
          cases hL : rkL X Z i k
          · cases hS : rkS X Z i k
            · have HL1 := Lib.hid (cntB_no hL)
              have HS1 := Lib.hid (cntB_no hS)
              unfold rkL at hL
              unfold rkS at hS
              generalize cntB (rkL X Z i) k = cl at *
              generalize cntB (rkS X Z i) k = cs at *
              go_wp2
              go_quiet (fail)
              go_wp2
              go_quiet (fail)
              go_wp2
              go_roundw
              case rel => exact ⟨k + 1, by omega, by go_num, by rw [HL1.out], by rw [HS1.out], by repeat (first | exact HE.out | refine Drew.drewN ?_ _ | refine Drew.drew ?_)⟩
              case measure => simp [intOf]; omega
            · have HL1 := Lib.hid (cntB_no hL)
              have HS1 := Lib.hid (cntB_yes hS)
              unfold rkL at hL
              unfold rkS at hS
              generalize cntB (rkL X Z i) k = cl at *
              generalize cntB (rkS X Z i) k = cs at *
              go_wp2
              go_quiet (fail)
              go_wp2
              go_quiet (fail)
              go_wp2
              go_roundw
              case rel => exact ⟨k + 1, by omega, by go_num, by rw [HL1.out], congrArg (Value.int .i64) (by rw [HS1.out]; omega), by repeat (first | exact HE.out | refine Drew.drewN ?_ _ | refine Drew.drew ?_)⟩
              case measure => simp [intOf]; omega
          · have HL1 := Lib.hid (cntB_yes hL)
            have hS := rk_one hL
            have HS1 := Lib.hid (cntB_no hS)
            unfold rkL at hL
            unfold rkS at hS
            generalize cntB (rkL X Z i) k = cl at *
            generalize cntB (rkS X Z i) k = cs at *
            go_wp2
            go_quiet (fail)
            go_wp2
            go_quiet (fail)
            go_wp2
            go_roundw
            case rel => exact ⟨k + 1, by omega, by go_num, congrArg (Value.int .i64) (by rw [HL1.out]; omega), by rw [HS1.out], by repeat (first | exact HE.out | refine Drew.drewN ?_ _ | refine Drew.drew ?_)⟩
            case measure => simp [intOf]; omega
        · obtain rfl : k = n + m := by omega
          have HR := Lib.hid (show rkSum X Z (n + m) (i + 1) = rkSum X Z (n + m) i + (2 * cntB (rkL X Z i) (n + m) + cntB (rkS X Z i) (n + m) + 1) from rfl)
          clear hd
          generalize cntB (rkL X Z i) (n + m) = cl at *
          generalize cntB (rkS X Z i) (n + m) = cs at *
          generalize rkSum X Z (n + m) i = sm at *
          go_wp2
          go_roundw
          case rel => exact ⟨i + 1, by omega, by go_num, congrArg (Value.int .i64) (by rw [HR.out]; omega), HE.out⟩
          case measure => simp [intOf]; omega
    · obtain rfl : i = n := by omega
      go_wp2
      go_ret2
      exact ⟨rfl, HB2.out.trans (HD.out.below.mono HB2.out.size)⟩
set_option maxHeartbeats 400000 in
theorem rsoI_no (g n c h m d : Nat) (X : Nat → Nat) (F : Nat → Bool) (Y : Nat → Nat) (G : Nat → Bool) (w : World) (hx : LivesAt w g 0 X F n) (hy : LivesAt w h 0 Y G m) (hn : n ≤ 1048576) (hm : m ≤ 1048576) (hl : rsoOk X n Y m = false) :
    Calls Try.prog 27 #[.slice (some ⟨g, 0, none⟩) n c, .slice (some ⟨h, 0, none⟩) m d] w fun e w' => e = .returned (.tuple #[.int .i64 0, .bool false]) ∧ Below w.heap.size w w' := by
  have HX := Lib.hid hx
  have HY := Lib.hid hy
  clear hx hy
  unfold rsoOk at hl
  cases h1 : livesB X n
  · have HL := Lib.hid h1
    clear h1 hl
    go_enter Try.func27, Try.ntmps27
    go_wp2_with fail
    refine (areLivesI g n c X F _ HX.out hn).mono ?_
    rintro e w1 ⟨rfl, hb⟩
    rw [HL.out]
    have HB := Lib.hid hb
    clear hb
    go_wp2
    go_ret2
    exact ⟨rfl, HB.out⟩
  · have h2 : livesB Y m = false := by rw [h1] at hl; exact hl
    have HL := Lib.hid h1
    have HM := Lib.hid h2
    clear h1 h2 hl
    go_enter Try.func27, Try.ntmps27
    go_wp2_with fail
    refine (areLivesI g n c X F _ HX.out hn).mono ?_
    rintro e w1 ⟨rfl, hb⟩
    rw [HL.out]
    have HB := Lib.hid hb
    clear hb
    go_wp2_with fail
    refine (areLivesI h m d Y G _ (HY.out.below HB.out) hm).mono ?_
    rintro e w2 ⟨rfl, hb⟩
    rw [HM.out]
    have HB := Lib.hid (HB.out.trans (hb.mono HB.out.size))
    clear hb
    go_wp2
    go_ret2
    exact ⟨rfl, HB.out⟩
theorem rsoI (g n c h m d : Nat) (X : Nat → Nat) (F : Nat → Bool) (Y : Nat → Nat) (G : Nat → Bool) (w : World) (hx : LivesAt w g 0 X F n) (hy : LivesAt w h 0 Y G m) (hn : n ≤ 1048576) (hm : m ≤ 1048576) :
    Calls Try.prog 27 #[.slice (some ⟨g, 0, none⟩) n c, .slice (some ⟨h, 0, none⟩) m d] w fun e w' => e = .returned (.tuple #[.int .i64 (rsoN X n Y m : Nat), .bool (rsoOk X n Y m)]) ∧ Below w.heap.size w w' := by
  cases hl : rsoOk X n Y m
  · exact (rsoI_no g n c h m d X F Y G w hx hy hn hm hl).mono fun e w' ⟨he, hb⟩ => ⟨by rw [he]; unfold rsoN; rw [hl]; rfl, hb⟩
  · have h2 : livesB X n = true ∧ livesB Y m = true := by unfold rsoOk at hl; simpa using hl
    exact (rsoI_yes g n c h m d X F Y G w hx hy h2.1 h2.2).mono fun e w' ⟨he, hb⟩ => ⟨by rw [he]; unfold rsoN; rw [hl]; rfl, hb⟩
set_option maxHeartbeats 400000 in
theorem rsoS_no (g n c h m d : Nat) (X : Nat → Nat) (F : Nat → Bool) (Y : Nat → Nat) (G : Nat → Bool) (w : World) (hx : LivesAt w g 0 X F n) (hy : LivesAt w h 0 Y G m) (hn : n ≤ 1048576) (hm : m ≤ 1048576) (hl : rsoOk X n Y m = false) :
    Calls Try.prog 26 #[.slice (some ⟨g, 0, none⟩) n c, .slice (some ⟨h, 0, none⟩) m d] w fun e w' => e = .returned (.tuple #[.int .i64 0, .bool false]) ∧ Below w.heap.size w w' := by
  have HX := Lib.hid hx
  have HY := Lib.hid hy
  clear hx hy
  unfold rsoOk at hl
  cases h1 : livesB X n
  · have HL := Lib.hid h1
    clear h1 hl
    go_enter Try.func26, Try.ntmps26
    go_wp2_with fail
    refine (l02Lives_any g n c X F _ HX.out hn).mono ?_
    rintro e w1 ⟨rfl, hd⟩
    rw [HL.out]
    have HB := Lib.hid hd.below
    clear hd
    go_wp2
    go_ret2
    exact ⟨rfl, HB.out⟩
  · have h2 : livesB Y m = false := by rw [h1] at hl; exact hl
    have HL := Lib.hid h1
    have HM := Lib.hid h2
    clear h1 h2 hl
    go_enter Try.func26, Try.ntmps26
    go_wp2_with fail
    refine (l02Lives_any g n c X F _ HX.out hn).mono ?_
    rintro e w1 ⟨rfl, hd⟩
    rw [HL.out]
    have HB := Lib.hid hd.below
    clear hd
    go_wp2_with fail
    refine (l02Lives_any h m d Y G _ (HY.out.below HB.out) hm).mono ?_
    rintro e w2 ⟨rfl, hd⟩
    rw [HM.out]
    have HB := Lib.hid (HB.out.trans (hd.below.mono HB.out.size))
    clear hd
    go_wp2
    go_ret2
    exact ⟨rfl, HB.out⟩
theorem rsoS (g n c h m d : Nat) (X : Nat → Nat) (F : Nat → Bool) (Y : Nat → Nat) (G : Nat → Bool) (w : World) (hx : LivesAt w g 0 X F n) (hy : LivesAt w h 0 Y G m) (hn : n ≤ 1048576) (hm : m ≤ 1048576) :
    Calls Try.prog 26 #[.slice (some ⟨g, 0, none⟩) n c, .slice (some ⟨h, 0, none⟩) m d] w fun e w' => e = .returned (.tuple #[.int .i64 (rsoN X n Y m : Nat), .bool (rsoOk X n Y m)]) ∧ Below w.heap.size w w' := by
  cases hl : rsoOk X n Y m
  · exact (rsoS_no g n c h m d X F Y G w hx hy hn hm hl).mono fun e w' ⟨he, hb⟩ => ⟨by rw [he]; unfold rsoN; rw [hl]; rfl, hb⟩
  · have h2 : livesB X n = true ∧ livesB Y m = true := by unfold rsoOk at hl; simpa using hl
    exact (rsoS_yes g n c h m d X F Y G w hx hy h2.1 h2.2).mono fun e w' ⟨he, hb⟩ => ⟨by rw [he]; unfold rsoN; rw [hl]; rfl, hb⟩
end Go.Proofs.Ytceckapldohkdaa
