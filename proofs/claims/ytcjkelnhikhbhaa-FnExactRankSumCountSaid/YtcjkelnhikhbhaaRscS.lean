/- The reference's RankSumCount. -/
import Derived.Test.YtcjkelnhikhbhaaRsc
namespace Go.Proofs.Ytcjkelnhikhbhaa
open Go.RowKit Go.Deep Flt Rsc

set_option maxRecDepth 100000 in
set_option maxHeartbeats 2000000 in
theorem rscS_yes (n k : Nat) (sum : Int) (w : World) (hn1 : 1 ≤ n) (hn : n ≤ 24) (hk : k ≤ n) :
    Calls Try.prog 23 #[.int .i64 (n : Int), .int .i64 (k : Int), .int .i64 sum] w fun e w' => e = .returned (.tuple #[.int .i64 (sumTo (few n k sum) 301 : Int), .int .i64 (sumTo (T n k) 301 : Int), .bool true]) ∧ Below w.heap.size w w' := by
  have hmk : ∀ w, (Instr.makeSlice 54 (.int .i64 301) (.int .i64 301)).run Try.prog w = _ := run_make_row' (P := Try.prog) 54 2 (.int .i64 0) 8 Try.underlying54 int_info rfl .i64 .i64 301 (by omega) (by omega)
  obtain ⟨i0, hi0, hz0, hz1, hz2⟩ := info_parts row_info
  have b1 : inB (n : Int) 1 24 = true := by unfold inB; simp; omega
  have b2 : inB (k : Int) 0 (n : Int) = true := by unfold inB; simp; omega
  go_enter Try.func23, Try.ntmps23
  go_wp2_with (first | (go_at_call 46; refine (l00In_any _ _ _ _).mono ?_; rintro e w' ⟨rfl, rfl⟩))
  go_loopw [9, 10] (fun v i wr => ∃ (j : Nat) (G : Nat → Nat), j ≤ k + 1 ∧ i = .int .i64 j ∧ wr.ownsRow w.heap.size 54 1 v j (rowsV G j 301) ∧ Made w.heap.size wr G j 301 ∧ Below w.heap.size w wr) (fun _ i _ => k + 1 - (intOf i).toNat)
  case atStart => exact ⟨0, fun _ => 0, by omega, rfl, World.ownsRow_lit w #[] 0 (Nat.le_refl _) (by decide) rfl, Made.none_ _ _ _ _, (Below.refl _ _).alloc (Nat.le_refl _) _⟩
  case round =>
    obtain ⟨j, G, hj, rfl, hown, hmade, hbel⟩ := hrel
    have HO := Lib.hid hown
    have HM := Lib.hid hmade
    have HB := Lib.hid hbel
    clear hown hmade hbel
    by_cases hlt : j ≤ k
    · have hlt' : (j : Int) ≤ (k : Int) := by omega
      go_wp2_with (first | (at_builtin; refine wpList_append_own _ rfl _ _ 53 rfl w.heap.size 54 i0 (.slice none 0 0) 1 24 Try.underlying53 hi0 hz0 hz1 hz2 rfl (by decide) _ _ _ rfl ((HO.out.alloc _).alloc _) ⟨wr.heap.size + 1, 0, none⟩ 1 1 [.slice (some ⟨wr.heap.size, 0, none⟩) 301 301] rfl rfl ?c1 ?c2 ?c3 ?c4 ?c5 ?_))
      case c1 => exact news_one (by simp)
      case c2 => intro u hu; simp at hu; subst hu; rfl
      case c3 => unfold maxLen; omega
      case c4 => omega
      case c5 => have := HB.out.size; simp; omega
      intro v' w1 hown1 hgrow _
      rw [rowsV_snoc] at hown1
      have HO1 := Lib.hid hown1
      have HM1 := Lib.hid (made_step HM.out HB.out.size HO.out hgrow)
      have HB1 := Lib.hid (below_step HB.out HB.out.size (Nat.le_refl _) HO.out hgrow)
      clear hown1 hgrow
      go_wp2
      go_roundw
      case rel => exact ⟨j + 1, _, by omega, by go_num, HO1.out, HM1.out, HB1.out⟩
      case measure => simp [intOf]; omega
    · obtain rfl : j = k + 1 := by omega
      obtain ⟨g, cap, rfl, hg, htab⟩ := tab_made HO.out HM.out
      have c0 := htab.outer 0 (by omega)
      have f0 := (htab.row 0 (by omega)).frozen 0
      have d0 := (htab.row 0 (by omega)).cell (i := 0) (by omega)
      have hk0 : (0 : Int) < ((k : Int) + 1) := by omega
      have HT := Lib.hid (tab_one htab)
      have HB2 := Lib.hid (htab.below HB.out (i := 0) (by omega) 0 (.int .i64 1))
      clear HO HM htab hlt hj hmk
      go_wp2
      generalize (wr.setCell ⟨G 0, 0, none⟩ (.int .i64 1)) = wb at *
      clear c0 f0 d0
      go_loopw [11, 12, 13] (fun tx _ _ wx => ∃ x : Nat, 1 ≤ x ∧ x ≤ n + 1 ∧ tx = .int .i64 x ∧ Tab w.heap.size wx g G k 301 (T (x - 1)) ∧ Below w.heap.size w wx) (fun tx _ _ _ => n + 1 - (intOf tx).toNat)
      case atStart => exact ⟨1, by omega, by omega, rfl, HT.out, HB2.out⟩
      case round =>
        obtain ⟨x, hx1, hx2, rfl, htab, hbel⟩ := hrel
        have HT := Lib.hid htab
        have HB := Lib.hid hbel
        clear htab hbel HB2
        by_cases hxn : x ≤ n
        · have hxn' : (x : Int) ≤ (n : Int) := by omega
          go_wp2
          obtain ⟨wo, rfl⟩ : ∃ wo : World, wo = wr := ⟨_, rfl⟩
          go_loopw [12, 13] (fun ti _ wx => ∃ i : Nat, i ≤ k ∧ ti = .int .i64 i ∧ Tab w.heap.size wx g G k 301 (mid x i 300) ∧ Below w.heap.size w wx) (fun ti _ _ => (intOf ti).toNat)
          case atStart => exact ⟨k, Nat.le_refl _, rfl, HT.out.congr fun j t hj ht => (mid_start (by omega) (by omega)).symm, HB.out⟩
          case round =>
            obtain ⟨i, hi, rfl, htab, hbel⟩ := hrel
            have HT := Lib.hid htab
            have HB := Lib.hid hbel
            clear htab hbel
            by_cases hi0 : 0 < i
            · obtain ⟨p, rfl⟩ : ∃ p, i = p + 1 := ⟨i - 1, by omega⟩
              have hi0' : (0 : Int) < ((p : Int) + 1) := by omega
              go_wp2
              obtain ⟨wo2, rfl⟩ : ∃ wo2 : World, wo2 = wr := ⟨_, rfl⟩
              go_loopw [13] (fun ts wx => ∃ s : Nat, x ≤ s + 1 ∧ s ≤ 300 ∧ ts = .int .i64 s ∧ Tab w.heap.size wx g G k 301 (mid x (p + 1) s) ∧ Below w.heap.size w wx) (fun ts _ => (intOf ts).toNat)
              case atStart => exact ⟨300, by omega, by omega, rfl, HT.out, HB.out⟩
              case round =>
                obtain ⟨s, hs1, hs2, rfl, htab, hbel⟩ := hrel
                have HT := Lib.hid htab
                have HB := Lib.hid hbel
                clear hbel
                by_cases hsx : x ≤ s
                · obtain ⟨q, rfl⟩ : ∃ q, s = q + x := ⟨s - x, by omega⟩
                  have hsx' : (x : Int) ≤ ((q : Int) + (x : Int)) := by omega
                  have ci := htab.outer (p + 1) (by omega)
                  have cj := htab.outer p (by omega)
                  have di := (htab.row (p + 1) (by omega)).cell (i := q + x) (by omega)
                  have dj := (htab.row p (by omega)).cell (i := q) (by omega)
                  have fi := (htab.row (p + 1) (by omega)).frozen (q + x)
                  have A := mid_le (x := x) (by omega) (p + 1) (q + x) (p + 1) (q + x)
                  have B := mid_le (x := x) (by omega) (p + 1) (q + x) p q
                  obtain ⟨av, ha⟩ : ∃ av, av = mid x (p + 1) (q + x) (p + 1) (q + x) := ⟨_, rfl⟩
                  obtain ⟨bv, hb⟩ : ∃ bv, bv = mid x (p + 1) (q + x) p q := ⟨_, rfl⟩
                  rw [← ha] at di A
                  rw [← hb] at dj B
                  have HA := Lib.hid (And.intro ha hb)
                  clear htab ha hb
                  go_wp2
                  have w1 : IntKind.i64.wrap ((av : Int) + (bv : Int)) = (av : Int) + (bv : Int) := by rw [IntKind.wrap_i64]; omega
                  have w2 : IntKind.i64.wrap (p : Int) = (p : Int) := by rw [IntKind.wrap_i64]; omega
                  have w3 : IntKind.i64.wrap (q : Int) = (q : Int) := by rw [IntKind.wrap_i64]; omega
                  have g1 : (p : Int) + 1 < (k : Int) + 1 := by omega
                  have g2 : (p : Int) < (k : Int) + 1 := by omega
                  have g3 : (q : Int) + (x : Int) < 301 := by omega
                  have g4 : (q : Int) < 301 := by omega
                  have g5 : (0 : Int) ≤ (q : Int) + (x : Int) := by omega
                  have g6 : (0 : Int) ≤ (p : Int) + 1 := by omega
                  have e1 : ((p : Int) + 1).toNat = p + 1 := by omega
                  have e2 : ((q : Int) + (x : Int)).toNat = q + x := by omega
                  go_region
                  all_goals
                    go_wp2
                    go_roundw
                    case rel =>
                      exact ⟨q + x - 1, by omega, by omega, congrArg (Value.int .i64) (by omega), HT.out.upd hx1 (by omega) HA.out.1 HA.out.2, (HT.out.below HB.out (by omega) _ _).drew⟩
                    case measure => simp [intOf]; omega
                · obtain rfl : s = x - 1 := by omega
                  go_wp2
                  go_roundw
                  case rel => exact ⟨p, by omega, congrArg (Value.int .i64) (by omega), HT.out.congr fun j t _ ht => (mid_row (s := 300) hx1 (by omega) (by omega)).trans (by rw [show p + 1 - 1 = p by omega]), HB.out⟩
                  case measure => simp [intOf]
            · obtain rfl : i = 0 := by omega
              go_wp2
              go_roundw
              case rel => exact ⟨x + 1, by omega, by omega, congrArg (Value.int .i64) (by omega), HT.out.congr fun j t _ _ => (mid_end hx1).trans (by rw [show x + 1 - 1 = x by omega]), HB.out⟩
              case measure => simp [intOf]; omega
        · obtain rfl : x = n + 1 := by omega
          have hT : Tab w.heap.size wr g G k 301 (T n) := HT.out
          have HT := Lib.hid hT
          clear hT
          go_wp2
          obtain ⟨wo, rfl⟩ : ∃ wo : World, wo = wr := ⟨_, rfl⟩
          go_loopw [14, 15, 16] (fun tf ta ti wx => ∃ t : Nat, t ≤ 301 ∧ ti = .int .i64 t ∧ tf = .int .i64 (sumTo (few n k sum) t : Nat) ∧ ta = .int .i64 (sumTo (T n k) t : Nat) ∧ wx = wo) (fun _ _ ti _ => 301 - (intOf ti).toNat)
          case atStart => exact ⟨0, by omega, rfl, rfl, rfl, rfl⟩
          case round =>
            obtain ⟨t, ht, rfl, rfl, rfl, rfl⟩ := hrel
            by_cases ht2 : t ≤ 300
            · have ht2' : (t : Int) ≤ 300 := by omega
              have hT := HT.out
              have ck := hT.outer k (Nat.le_refl _)
              have dk := (hT.row k (Nat.le_refl _)).cell (i := t) (by omega)
              have A1 := sumTo_le (few_le hn k sum) t
              have A2 := sumTo_le (fun i => T_bound hn k i) t
              have A3 := T_bound hn k t
              have HF := Lib.hid (show sumTo (few n k sum) (t + 1) = sumTo (few n k sum) t + few n k sum t from rfl)
              have HA := Lib.hid (show sumTo (T n k) (t + 1) = sumTo (T n k) t + T n k t from rfl)
              clear hT
              by_cases hsum : (t : Int) ≤ sum
              · have HW := Lib.hid (show few n k sum t = T n k t from if_pos hsum)
                generalize sumTo (few n k sum) t = fv at *
                generalize sumTo (T n k) t = av at *
                generalize T n k t = tv at *
                go_wp2
                go_roundw
                case rel => exact ⟨t + 1, by omega, by go_num, congrArg (Value.int .i64) (by rw [HF.out, HW.out]; omega), congrArg (Value.int .i64) (by rw [HA.out]; omega), by first | rfl | trivial⟩
                case measure => simp [intOf]; omega
              · have HW := Lib.hid (show few n k sum t = 0 from if_neg hsum)
                generalize sumTo (few n k sum) t = fv at *
                generalize sumTo (T n k) t = av at *
                generalize T n k t = tv at *
                go_wp2
                go_roundw
                case rel => exact ⟨t + 1, by omega, by go_num, congrArg (Value.int .i64) (by rw [HF.out, HW.out]; omega), congrArg (Value.int .i64) (by rw [HA.out]; omega), by first | rfl | trivial⟩
                case measure => simp [intOf]; omega
            · obtain rfl : t = 301 := by omega
              go_wp2
              go_ret3
              exact ⟨rfl, HB.out⟩
theorem rscS_no (n k sum : Int) (w : World) (h : rsOk n k = false) :
    Calls Try.prog 23 #[.int .i64 n, .int .i64 k, .int .i64 sum] w fun e w' => e = .returned (.tuple #[.int .i64 0, .int .i64 0, .bool false]) ∧ Below w.heap.size w w' := by
  cases h1 : inB n 1 24
  · go_enter Try.func23, Try.ntmps23
    go_wp2_with (first | (go_at_call 46; refine (l00In_any _ _ _ _).mono ?_; rintro e w' ⟨rfl, rfl⟩))
    go_ret3
    exact ⟨rfl, Below.refl _ _⟩
  · have h2 : inB k 0 n = false := by unfold rsOk at h; rw [h1] at h; simpa using h
    clear h
    go_enter Try.func23, Try.ntmps23
    go_wp2_with (first | (go_at_call 46; refine (l00In_any _ _ _ _).mono ?_; rintro e w' ⟨rfl, rfl⟩))
    go_ret3
    exact ⟨rfl, Below.refl _ _⟩
theorem rscS (n k sum : Int) (w : World) :
    Calls Try.prog 23 #[.int .i64 n, .int .i64 k, .int .i64 sum] w fun e w' => e = .returned (.tuple #[.int .i64 (rsFew n k sum : Nat), .int .i64 (rsAll n k : Nat), .bool (rsOk n k)]) ∧ Below w.heap.size w w' := by
  cases h : rsOk n k
  · refine (rscS_no n k sum w h).mono fun e w' ⟨he, hb⟩ => ⟨?_, hb⟩
    rw [he]; unfold rsFew rsAll; rw [h]; rfl
  · have h2 : (1 ≤ n ∧ n ≤ 24) ∧ 0 ≤ k ∧ k ≤ n := by simpa [rsOk, inB] using h
    obtain ⟨m, rfl⟩ : ∃ m : Nat, n = (m : Int) := ⟨n.toNat, by omega⟩
    obtain ⟨j, rfl⟩ : ∃ j : Nat, k = (j : Int) := ⟨k.toNat, by omega⟩
    refine (rscS_yes m j sum w (by omega) (by omega) (by omega)).mono fun e w' ⟨he, hb⟩ => ⟨?_, hb⟩
    rw [he]; unfold rsFew rsAll; rw [h]; rfl
end Go.Proofs.Ytcjkelnhikhbhaa
