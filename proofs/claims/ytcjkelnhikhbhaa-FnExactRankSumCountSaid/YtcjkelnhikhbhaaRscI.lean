/- The program's RankSumCount. -/
import Derived.Test.YtcjkelnhikhbhaaRsc
namespace Go.Proofs.Ytcjkelnhikhbhaa
open Go.RowKit Go.Deep Flt Rsc

theorem sumOf_any (g : Nat) (m : Nat) (f : Nat → Nat) (w : World) (hm : m ≤ 1000) (hf : ∀ i, f i ≤ 16777216) (hr : ∀ i, i < m → w.cell? ⟨g, i, none⟩ = some (.int .i64 (f i : Int))) :
    Calls Try.prog 48 #[.slice (some ⟨g, 0, none⟩) m m] w fun e w' => e = .returned (.int .i64 (sumTo f m : Nat)) ∧ w = w' := by
  go_enter Try.func48, Try.ntmps48
  go_wp2
  go_loopw [3, 8] (fun ts ti wx => ∃ t : Nat, t ≤ m ∧ ti = .int .i64 t ∧ ts = .int .i64 (sumTo f t : Nat) ∧ wx = w) (fun _ ti _ => m - (intOf ti).toNat)
  case atStart => exact ⟨0, by omega, rfl, rfl, rfl⟩
  case round =>
    obtain ⟨t, ht, rfl, rfl, rfl⟩ := hrel
    by_cases ht2 : t < m
    · have ht2' : (t : Int) < (m : Int) := by omega
      have ck := hr t ht2
      have A1 := sumTo_le hf t
      have A2 := hf t
      have A3 : sumTo f t ≤ 1000 * 16777216 := Nat.le_trans A1 (Nat.mul_le_mul_right _ (by omega))
      have HF := Lib.hid (show sumTo f (t + 1) = sumTo f t + f t from rfl)
      clear hr hf A1
      generalize sumTo f t = fv at *
      generalize f t = tv at *
      go_wp2
      go_roundw
      case rel => exact ⟨t + 1, by omega, by go_num, congrArg (Value.int .i64) (by rw [HF.out]; omega), by first | rfl | trivial⟩
      case measure => simp [intOf]; omega
    · obtain rfl : t = m := by omega
      go_wp2
      go_ret
      exact ⟨rfl, rfl⟩
set_option maxRecDepth 100000 in
set_option maxHeartbeats 2000000 in
theorem rscI_yes (n k : Nat) (sum : Int) (w : World) (hn1 : 1 ≤ n) (hn : n ≤ 24) (hk : k ≤ n) :
    Calls Try.prog 24 #[.int .i64 (n : Int), .int .i64 (k : Int), .int .i64 sum] w fun e w' => e = .returned (.tuple #[.int .i64 (sumTo (few n k sum) 301 : Int), .int .i64 (sumTo (T n k) 301 : Int), .bool true]) ∧ Below w.heap.size w w' := by
  have b1 : inB (n : Int) 1 24 = true := by unfold inB; simp; omega
  have b2 : inB (k : Int) 0 (n : Int) = true := by unfold inB; simp; omega
  obtain ⟨P, hP⟩ : ∃ P, P = n * (n + 1) := ⟨_, rfl⟩
  obtain ⟨M, hM⟩ : ∃ M, M = P / 2 := ⟨_, rfl⟩
  have hP6 : P ≤ 600 := by rw [hP]; exact Nat.mul_le_mul hn (show n + 1 ≤ 25 by omega)
  have hmul : (n : Int) * ((n : Int) + 1) = (P : Int) := by rw [hP, Int.natCast_mul, Int.natCast_add]; rfl
  have hdiv : (P : Int) / 2 = (M : Int) := by omega
  have hM3 : M ≤ 300 := by omega
  have HM := Lib.hid (show M = n * (n + 1) / 2 by rw [hM, hP])
  clear hP hM
  have hmk : ∀ w, (Instr.makeSlice 54 (.int .i64 ((M : Int) + 1)) (.int .i64 ((M : Int) + 1))).run Try.prog w = .ok (.slice (some ⟨w.heap.size, 0, none⟩) (M + 1) (M + 1)) (w.alloc (.cells (madeCells #[.int .i64 0] (M + 1)) 2)) :=
    fun w => run_make_row' (P := Try.prog) 54 2 (.int .i64 0) 8 Try.underlying54 int_info rfl .i64 .i64 (M + 1) (by omega) (by omega) w
  have hmo : ∀ w, (Instr.makeSlice 53 (.int .i64 ((k : Int) + 1)) (.int .i64 ((k : Int) + 1))).run Try.prog w = .ok (.slice (some ⟨w.heap.size, 0, none⟩) (k + 1) (k + 1)) (w.alloc (.cells (madeCells #[.slice none 0 0] (k + 1)) 54)) :=
    fun w => run_make_row' (P := Try.prog) 53 54 (.slice none 0 0) 24 Try.underlying53 row_info rfl .i64 .i64 (k + 1) (by omega) (by omega) w
  have hro := World.rowIs_made w (.slice none 0 0) (k + 1) 54
  go_enter Try.func24, Try.ntmps24
  go_wp2_with (first | (go_at_call 47; refine (within_any _ _ _ _).mono ?_; rintro e w' ⟨rfl, rfl⟩))
  generalize hwb : w.alloc (.cells (madeCells #[.slice none 0 0] (k + 1)) 54) = wb at *
  go_loopw [11, 37] (fun _ ti wx => ∃ (j : Nat) (G : Nat → Nat), j ≤ k + 1 ∧ ti = .int .i64 j ∧ wx.rowIs w.heap.size 54 (k + 1) (outerV G j (M + 1)) ∧ Made (w.heap.size + 1) wx G j (M + 1) ∧ Below w.heap.size w wx ∧ w.heap.size + 1 ≤ wx.heap.size) (fun _ ti _ => k + 1 - (intOf ti).toNat)
  case atStart =>
    subst hwb
    exact ⟨0, fun _ => 0, by omega, rfl, hro.congr (fun i _ => by simp [outerV]), Made.none_ _ _ _ _, (Below.refl _ _).alloc (Nat.le_refl _) _, by simp⟩
  case round =>
    obtain ⟨j, G, hj, rfl, hrow, hmade, hbel, hsz⟩ := hrel
    clear hwb hro
    by_cases hlt : j < k + 1
    · have hlt' : (j : Int) < (k : Int) + 1 := by omega
      have cj := (hrow.alloc (.cells (madeCells #[.int .i64 0] (M + 1)) 2)).cell hlt
      have fj := (hrow.alloc (.cells (madeCells #[.int .i64 0] (M + 1)) 2)).frozen j
      have hne : w.heap.size ≠ wr.heap.size := by omega
      have HF := Lib.hid (fill_step hmade (by omega) hsz hrow)
      have HB := Lib.hid ((hbel.alloc hbel.size (.cells (madeCells #[.int .i64 0] (M + 1)) 2)).setCell (p := ⟨w.heap.size, j, none⟩) (Nat.le_refl _) (.slice (some ⟨wr.heap.size, 0, none⟩) (M + 1) (M + 1)))
      clear hrow hmade hbel
      go_wp2
      go_roundw
      case rel => exact ⟨j + 1, _, by omega, by go_num, HF.out.2, HF.out.1, HB.out, by simp; omega⟩
      case measure => simp [intOf]; omega
    · obtain rfl : j = k + 1 := by omega
      have htab := tab_filled hmade hrow rfl
      have c0 := htab.outer 0 (by omega)
      have f0 := (htab.row 0 (by omega)).frozen 0
      have d0 := (htab.row 0 (by omega)).cell (i := 0) (by omega)
      have hk0 : (0 : Int) < ((k : Int) + 1) := by omega
      have hm0 : (0 : Int) < ((M : Int) + 1) := by omega
      have HT := Lib.hid (tab_one htab)
      have HB2 := Lib.hid (htab.below hbel (i := 0) (by omega) 0 (.int .i64 1))
      clear hrow hmade htab hbel hlt hj hmk hmo
      obtain ⟨g, hg⟩ : ∃ g, g = w.heap.size := ⟨_, rfl⟩
      go_wp2
      generalize (wr.setCell ⟨G 0, 0, none⟩ (.int .i64 1)) = wb2 at *
      clear c0 f0 d0 hg
      go_loopw [12, 13, 14] (fun tx _ _ wx => ∃ x : Nat, 1 ≤ x ∧ x ≤ n + 1 ∧ tx = .int .i64 x ∧ Tab w.heap.size wx w.heap.size G k (M + 1) (T (x - 1)) ∧ Below w.heap.size w wx) (fun tx _ _ _ => n + 1 - (intOf tx).toNat)
      case atStart => exact ⟨1, by omega, by omega, rfl, HT.out, HB2.out⟩
      case round =>
        obtain ⟨x, hx1, hx2, rfl, htab, hbel⟩ := hrel
        have HT := Lib.hid htab
        have HB := Lib.hid hbel
        clear htab hbel HB2
        by_cases hxn : x ≤ n
        · have hxn' : (x : Int) ≤ (n : Int) := by omega
          have hxM := Lib.hid (show x ≤ M + 1 by have h1 := tri_ge hn1; rw [← HM.out] at h1; omega)
          rcases Nat.lt_or_ge x k with hkx | hkx
          all_goals
            first
              | have hkx' : (x : Int) < (k : Int) := by omega
              | have hkx' : (k : Int) ≤ (x : Int) := by omega
            go_wp2
            obtain ⟨wo, rfl⟩ : ∃ wo : World, wo = wr := ⟨_, rfl⟩
            go_loopw [13, 14] (fun ti _ wx => ∃ i : Nat, i ≤ k ∧ ti = .int .i64 i ∧ Tab w.heap.size wx w.heap.size G k (M + 1) (mid x i M) ∧ Below w.heap.size w wx) (fun ti _ _ => (intOf ti).toNat)
            case atStart =>
              first
                | exact ⟨k, Nat.le_refl _, rfl, HT.out.congr fun j t hj ht => (mid_start (by omega) (by omega)).symm, HB.out⟩
                | exact ⟨x, by omega, rfl, HT.out.congr fun j t hj ht => (mid_start (by omega) (by omega)).symm, HB.out⟩
            case round =>
              obtain ⟨i, hi, rfl, htab, hbel⟩ := hrel
              have HT := Lib.hid htab
              have HB := Lib.hid hbel
              clear htab hbel
              by_cases hi0 : 1 ≤ i
              · obtain ⟨p, rfl⟩ : ∃ p, i = p + 1 := ⟨i - 1, by omega⟩
                have hi0' : (1 : Int) ≤ ((p : Int) + 1) := by omega
                go_wp2
                obtain ⟨wo2, rfl⟩ : ∃ wo2 : World, wo2 = wr := ⟨_, rfl⟩
                go_loopw [14] (fun ts wx => ∃ s : Nat, x ≤ s + 1 ∧ s ≤ M ∧ ts = .int .i64 s ∧ Tab w.heap.size wx w.heap.size G k (M + 1) (mid x (p + 1) s) ∧ Below w.heap.size w wx) (fun ts _ => (intOf ts).toNat)
                case atStart => exact ⟨M, by have := hxM.out; omega, by omega, rfl, HT.out, HB.out⟩
                case round =>
                  obtain ⟨s, hs1, hs2, rfl, htab, hbel⟩ := hrel
                  have HT := Lib.hid htab
                  have HB := Lib.hid hbel
                  clear hbel
                  by_cases hsx : x ≤ s
                  · obtain ⟨q, rfl⟩ : ∃ q, s = q + x := ⟨s - x, by omega⟩
                    have hsx' : (x : Int) ≤ ((q : Int) + (x : Int)) := by omega
                    have ci := htab.outer (p + 1) (by omega)
                    have cj := htab.outer p (by omega)
                    have di := (htab.row (p + 1) (by omega)).cell (i := q + x) (by omega)
                    have dj := (htab.row p (by omega)).cell (i := q) (by omega)
                    have fi := (htab.row (p + 1) (by omega)).frozen (q + x)
                    have A := mid_le (x := x) (by omega) (p + 1) (q + x) (p + 1) (q + x)
                    have B := mid_le (x := x) (by omega) (p + 1) (q + x) p q
                    obtain ⟨av, ha⟩ : ∃ av, av = mid x (p + 1) (q + x) (p + 1) (q + x) := ⟨_, rfl⟩
                    obtain ⟨bv, hb⟩ : ∃ bv, bv = mid x (p + 1) (q + x) p q := ⟨_, rfl⟩
                    rw [← ha] at di A
                    rw [← hb] at dj B
                    have HA := Lib.hid (And.intro ha hb)
                    clear htab ha hb
                    go_wp2
                    have w1 : IntKind.i64.wrap ((av : Int) + (bv : Int)) = (av : Int) + (bv : Int) := by rw [IntKind.wrap_i64]; omega
                    have w2 : IntKind.i64.wrap (p : Int) = (p : Int) := by rw [IntKind.wrap_i64]; omega
                    have w3 : IntKind.i64.wrap (q : Int) = (q : Int) := by rw [IntKind.wrap_i64]; omega
                    have g1 : (p : Int) + 1 < (k : Int) + 1 := by omega
                    have g2 : (p : Int) < (k : Int) + 1 := by omega
                    have g3 : (q : Int) + (x : Int) < (M : Int) + 1 := by omega
                    have g4 : (q : Int) < (M : Int) + 1 := by omega
                    have g5 : (0 : Int) ≤ (q : Int) + (x : Int) := by omega
                    have g6 : (0 : Int) ≤ (p : Int) + 1 := by omega
                    have e1 : ((p : Int) + 1).toNat = p + 1 := by omega
                    have e2 : ((q : Int) + (x : Int)).toNat = q + x := by omega
                    go_region
                    all_goals
                      go_wp2
                      go_roundw
                      case rel => exact ⟨q + x - 1, by omega, by omega, congrArg (Value.int .i64) (by omega), HT.out.upd hx1 (by omega) HA.out.1 HA.out.2, (HT.out.below HB.out (by omega) _ _).drew⟩
                      case measure => simp [intOf]; omega
                  · obtain rfl : s = x - 1 := by omega
                    go_wp2
                    go_roundw
                    case rel => exact ⟨p, by omega, congrArg (Value.int .i64) (by omega), HT.out.congr fun j t _ ht => (mid_row (s := M) hx1 (by omega) (by omega)).trans (by rw [show p + 1 - 1 = p by omega]), HB.out⟩
                    case measure => simp [intOf]
              · obtain rfl : i = 0 := by omega
                go_wp2
                go_roundw
                case rel => exact ⟨x + 1, by omega, by omega, congrArg (Value.int .i64) (by omega), HT.out.congr fun j t _ _ => (mid_end hx1).trans (by rw [show x + 1 - 1 = x by omega]), HB.out⟩
                case measure => simp [intOf]; omega
        · obtain rfl : x = n + 1 := by omega
          have hT : Tab w.heap.size wr w.heap.size G k (M + 1) (T n) := HT.out
          have HT := Lib.hid hT
          have ck := hT.outer k (Nat.le_refl _)
          clear hT
          go_wp2
          obtain ⟨wo, rfl⟩ : ∃ wo : World, wo = wr := ⟨_, rfl⟩
          go_loopw [15, 16, 17, 93] (fun tc _ _ ti wx => ∃ t : Nat, t ≤ M + 1 ∧ ti = .int .i64 t ∧ tc = .int .i64 (sumTo (few n k sum) t : Nat) ∧ wx = wo) (fun _ _ _ ti _ => M + 1 - (intOf ti).toNat)
          case atStart => exact ⟨0, by omega, rfl, rfl, rfl⟩
          case round =>
            obtain ⟨t, ht, rfl, rfl, rfl⟩ := hrel
            by_cases ht2 : t < M + 1
            · have ht2' : (t : Int) < (M : Int) + 1 := by omega
              have dk := (HT.out.row k (Nat.le_refl _)).cell (i := t) (by omega)
              have A1 := sumTo_le (few_le hn k sum) t
              have A3 := T_bound hn k t
              have HF := Lib.hid (show sumTo (few n k sum) (t + 1) = sumTo (few n k sum) t + few n k sum t from rfl)
              by_cases hsum : (t : Int) ≤ sum
              · have HW := Lib.hid (show few n k sum t = T n k t from if_pos hsum)
                generalize sumTo (few n k sum) t = fv at *
                generalize T n k t = tv at *
                go_wp2
                go_roundw
                case rel => exact ⟨t + 1, by omega, by go_num, congrArg (Value.int .i64) (by rw [HF.out, HW.out]; omega), by first | rfl | trivial⟩
                case measure => simp [intOf]; omega
              · have HW := Lib.hid (show few n k sum t = 0 from if_neg hsum)
                generalize sumTo (few n k sum) t = fv at *
                generalize T n k t = tv at *
                go_wp2
                go_roundw
                case rel => exact ⟨t + 1, by omega, by go_num, congrArg (Value.int .i64) (by rw [HF.out, HW.out]; omega), by first | rfl | trivial⟩
                case measure => simp [intOf]; omega
            · obtain rfl : t = M + 1 := by omega
              have hsum := fun W => sumOf_any (G k) (M + 1) (T n k) W (by omega) (T_bound hn k)
              have hcell := fun i hi => (HT.out.row k (Nat.le_refl _)).cell (i := i) hi
              have HSM := Lib.hid (hsum _ hcell)
              clear hsum hcell
              go_wp2_with fail
              refine HSM.out.mono ?_
              rintro e w' ⟨rfl, rfl⟩
              go_wp2
              go_ret3
              exact ⟨by rw [few_same hn, all_same hn, ← HM.out]; rfl, HB.out⟩
theorem rscI_no (n k sum : Int) (w : World) (h : rsOk n k = false) :
    Calls Try.prog 24 #[.int .i64 n, .int .i64 k, .int .i64 sum] w fun e w' => e = .returned (.tuple #[.int .i64 0, .int .i64 0, .bool false]) ∧ Below w.heap.size w w' := by
  cases h1 : inB n 1 24
  · go_enter Try.func24, Try.ntmps24
    go_wp2_with (first | (go_at_call 47; refine (within_any _ _ _ _).mono ?_; rintro e w' ⟨rfl, rfl⟩))
    go_ret3
    exact ⟨rfl, Below.refl _ _⟩
  · have h2 : inB k 0 n = false := by unfold rsOk at h; rw [h1] at h; simpa using h
    clear h
    go_enter Try.func24, Try.ntmps24
    go_wp2_with (first | (go_at_call 47; refine (within_any _ _ _ _).mono ?_; rintro e w' ⟨rfl, rfl⟩))
    go_ret3
    exact ⟨rfl, Below.refl _ _⟩
theorem rscI (n k sum : Int) (w : World) :
    Calls Try.prog 24 #[.int .i64 n, .int .i64 k, .int .i64 sum] w fun e w' => e = .returned (.tuple #[.int .i64 (rsFew n k sum : Nat), .int .i64 (rsAll n k : Nat), .bool (rsOk n k)]) ∧ Below w.heap.size w w' := by
  cases h : rsOk n k
  · refine (rscI_no n k sum w h).mono fun e w' ⟨he, hb⟩ => ⟨?_, hb⟩
    rw [he]; unfold rsFew rsAll; rw [h]; rfl
  · have h2 : (1 ≤ n ∧ n ≤ 24) ∧ 0 ≤ k ∧ k ≤ n := by simpa [rsOk, inB] using h
    obtain ⟨m, rfl⟩ : ∃ m : Nat, n = (m : Int) := ⟨n.toNat, by omega⟩
    obtain ⟨j, rfl⟩ : ∃ j : Nat, k = (j : Int) := ⟨k.toNat, by omega⟩
    refine (rscI_yes m j sum w (by omega) (by omega) (by omega)).mono fun e w' ⟨he, hb⟩ => ⟨?_, hb⟩
    rw [he]; unfold rsFew rsAll; rw [h]; rfl
end Go.Proofs.Ytcjkelnhikhbhaa
