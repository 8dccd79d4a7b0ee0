/- The reference's drawers of complex numbers. -/
import Derived.Test.YtmpeogpmlgnmfaaGreatDoorSrcF
import Derived.Test.YtmpeogpmlgnmfaaGreatDoorPdW
import Derived.Test.YtmpeogpmlgnmfaaGreatDoorRcI
namespace Go.Proofs.YtmpeogpmlgnmfaaGreatDoor
set_option maxRecDepth 100000
open Go.RowKit Go.Deep Flt

/-- a complex number was drawn -/
def DrawCE (p : Nat) (A : Option Addr) (n m : Nat) (w w' : World) (e : Ending) : Prop := ∃ x y : Nat, e = .returned (.complex .f32 x y) ∧ x < 4294967296 ∧ y < 4294967296 ∧ Src w' p A n m ∧ Touched w w' p (p + 1)
theorem drawFine_any (p : Nat) (A : Option Addr) (n m : Nat) (w : World) (h : Src w p A n m) (hm : m ≤ 700000) :
    Calls Tryz.prog 58 #[.pointer (some ⟨p, 0, none⟩)] w fun e w' => DrawCE p A n (m + 4) w w' e := by
  have HP := Lib.hid (pick_any p A n m 65 w h (by omega) (by omega) (by omega))
  have HP2 := Lib.hid (fun W h => pick_any p A n (m + 2) 65 W h (by omega) (by omega) (by omega))
  clear h
  go_enter Tryz.func58, Tryz.ntmps58
  go_wp2_with fail
  refine HP.out.mono ?_
  rintro e w1 ⟨x, rfl, x0, x1, s1, t1⟩
  have S1 := Lib.hid s1
  have T1 := Lib.hid t1
  clear s1 t1
  go_wp2_with (first | (refine wpList_fop rfl .quo _ _ _ _ rfl rfl .f32 _ _ rfl rfl ?_; intro τ q))
  refine (HP2.out _ (S1.out.drewN _)).mono ?_
  rintro e w2 ⟨y, rfl, y0, y1, s2, t2⟩
  have S2 := Lib.hid s2
  have T2 := Lib.hid ((T1.out.drews q).trans t2)
  clear s2 t2
  go_wp2_with (first | (refine wpList_fop rfl .quo _ _ _ _ rfl rfl .f32 _ _ rfl rfl ?_; intro σ k))
  go_ret
  exact ⟨_, _, rfl, rep_lt (wfc_fop _ _ _ _) _, rep_lt (wfc_fop _ _ _ _) _, S2.out.drewN _, T2.out.drews _⟩
theorem drawComplex_any (p : Nat) (A : Option Addr) (n m : Nat) (w : World) (h : Src w p A n m) (hm : m ≤ 600000) :
    Calls Tryz.prog 57 #[.pointer (some ⟨p, 0, none⟩)] w fun e w' => DrawCE p A n (m + 24) w w' e := by
  have HP := Lib.hid (drawFloat_any p A n m w h (by omega))
  have HP2 := Lib.hid (fun W h => drawFloat_any p A n (m + 12) W h (by omega))
  clear h
  go_enter Tryz.func57, Tryz.ntmps57
  go_wp2_with fail
  refine HP.out.mono ?_
  rintro e w1 ⟨x, rfl, hx, s1, t1⟩
  have S1 := Lib.hid s1
  have T1 := Lib.hid t1
  clear s1 t1
  go_wp2_with fail
  refine (HP2.out _ S1.out).mono ?_
  rintro e w2 ⟨y, rfl, hy, s2, t2⟩
  have S2 := Lib.hid s2
  have T2 := Lib.hid (T1.out.trans t2)
  clear s2 t2
  go_wp2
  go_ret
  exact ⟨_, _, rfl, hx, hy, S2.out, T2.out⟩
/-- a list of complex numbers was drawn -/
def DrawsCE (p N : Nat) (w w' : World) (e : Ending) : Prop :=
  ∃ (A' : Option Addr) (c : Nat) (f g : Nat → Nat), e = .returned (.slice A' N c) ∧ OwnV w' 24 A' N (fun i => .complex .f32 (f i) (g i)) w.heap.size w'.heap.size ∧ (∀ i, f i < 4294967296 ∧ g i < 4294967296) ∧ Touched w w' p (p + 1)
theorem COwn.upd {w : World} {B : Nat} {v : Value} {f g : Nat → Nat} {k x y : Nat} (h : w.ownsRow B 24 1 v (k + 1) (((List.range k).map fun i => .complex .f32 (f i) (g i)) ++ [.complex .f32 x y])) : COwn w B v (updF f k x) (updF g k y) (k + 1) := by
  refine COwn.more (updF_at f k x).symm (updF_at g k y).symm ?_
  have e : ((List.range k).map fun i => Value.complex .f32 (f i) (g i)) = (List.range k).map fun i => Value.complex .f32 (updF f k x i) (updF g k y i) := List.map_congr_left fun i hi => by rw [updF_lt f (by simpa using hi), updF_lt g (by simpa using hi)]
  rw [← e]
  exact h
set_option maxHeartbeats 4000000 in
theorem drawComplexes_any (p : Nat) (A : Option Addr) (n m N : Nat) (w : World) (h : Src w p A n m) (hm : m ≤ 1000) (hN : N ≤ 100) :
    Calls Tryz.prog 46 #[.pointer (some ⟨p, 0, none⟩), .int .i64 (N : Int)] w fun e w' => DrawsCE p N w w' e := by
  obtain ⟨i0, hi0, hz0, hz1, hz2⟩ := info_parts info_c64
  have hp : p < w.heap.size := h.lt
  have HO := Lib.hid (one_any p A n m 5 _ (h.alloc (.cells #[] 24)) (by omega) (by omega) (by omega))
  have HDF := Lib.hid (fun (M : Nat) W (hM : M ≤ 600000) h => drawComplex_any p A n M W h hM)
  have HDP := Lib.hid (fun (M : Nat) W (hM : M ≤ 600000) h => drawFine_any p A n M W h (by omega))
  clear h
  go_enter Tryz.func46, Tryz.ntmps46
  go_wp2_with fail
  refine HO.out.mono ?_
  rintro e w1 ⟨b, rfl, s1, t1⟩
  have S1 := Lib.hid s1
  have T1 := Lib.hid (((Touched.refl w p (p + 1)).alloc _).trans t1)
  have O1 := Lib.hid (owns_touched (World.ownsRow_lit (base := w.heap.size) (e := 24) (size := 1) w #[] 0 (Nat.le_refl _) (by decide) rfl) t1 (by omega))
  clear s1 t1
  go_wp2
  go_loopw [1, 5] (fun tn tv wx => ∃ (k : Nat) (v : Value) (f g : Nat → Nat), v = tv ∧ tn = .int .i64 ((N : Int) - k) ∧ k ≤ N ∧ COwn wx w.heap.size v f g k ∧ Hid (∀ j, f j < 4294967296 ∧ g j < 4294967296) ∧ Hid (Src wx p A n (m + 2 + 24 * k)) ∧ Hid (Touched w wx p (p + 1))) (fun tn _ _ => (intOf tn).toNat)
  case atStart => exact ⟨0, _, fun _ => 0, fun _ => 0, rfl, by simp, Nat.zero_le _, O1.out, Lib.hid fun _ => (by show (0 : Nat) < 4294967296 ∧ (0 : Nat) < 4294967296; decide), S1, T1⟩
  case round =>
    obtain ⟨k, v, f, g, rfl, rfl, hk, hown, HF, HS, HT⟩ := hrel
    have HN := Lib.hid hown
    clear hown
    by_cases hlt : k < N
    · have hlt' : (0 : Int) < (N : Int) - (k : Int) := by omega
      have HC := Lib.hid (show Calls Tryz.prog (if b = true then 57 else 58) #[.pointer (some ⟨p, 0, none⟩)] wr fun e w' => DrawCE p A n (m + 2 + 24 * (k + 1)) wr w' e by
        cases b
        · exact (HDP.out _ wr (by omega) HS.out).mono fun _ _ ⟨x, y, e, hx, hy, s, t⟩ => ⟨x, y, e, hx, hy, s.mono (by omega), t⟩
        · exact (HDF.out _ wr (by omega) HS.out).mono fun _ _ ⟨x, y, e, hx, hy, s, t⟩ => ⟨x, y, e, hx, hy, s.mono (by omega), t⟩)
      cases b
      all_goals
        go_wp2_with fail
        refine HC.out.mono ?_
        rintro e w2 ⟨x, y, rfl, hx, hy, s2, t2⟩
        have S2 := Lib.hid s2
        have T2 := Lib.hid (HT.out.trans t2)
        have HN2 := Lib.hid (show w2.ownsRow w.heap.size 24 1 v k ((List.range k).map fun i => .complex .f32 (f i) (g i)) from owns_touched HN.out t2 (by omega))
        clear s2 t2
        go_wp2_with (first | (at_builtin; refine wpList_append_own _ rfl _ _ 25 rfl w.heap.size 24 i0 (.complex .f32 0 0) 1 8 Tryz.underlying25 hi0 hz0 hz1 hz2 rfl (by decide) _ _ _ rfl (HN2.out.alloc _) ⟨w2.heap.size, 0, none⟩ 1 1 [.complex .f32 x y] rfl rfl ?c1 ?c2 ?c3 ?c4 ?c5 ?_))
        case c1 => exact news_cells rfl
        case c2 => intro u hu; simp at hu; rcases hu with rfl; rfl
        case c3 => unfold maxLen; omega
        case c4 => omega
        case c5 => have := T2.out.size; simp <;> omega
        intro v' w3 hown1 hgrow _
        have HN3 := Lib.hid (COwn.upd hown1)
        have T3 := Lib.hid ((T2.out.alloc _).grown hgrow (fun q hq => (HN2.out.lt q hq).1))
        have S3 := Lib.hid ((S2.out.alloc _).grown hgrow (fun q hq => Nat.lt_of_lt_of_le hp (HN2.out.lt q hq).1))
        have HF3 := Lib.hid (show ∀ j, updF f k x j < 4294967296 ∧ updF g k y j < 4294967296 from fun j => by unfold updF; split; (· exact ⟨hx, hy⟩); (· exact HF.out j))
        clear hown1 hgrow
        go_wp2
        go_roundw
        case rel => exact ⟨k + 1, _, _, _, rfl, congrArg (Value.int .i64) (by omega), by omega, HN3.out, HF3, S3, T3⟩
        case measure => simp [intOf]; omega
    · obtain rfl : k = N := by omega
      obtain ⟨A', cA, rfl, ho⟩ := OwnV.of_map HN.out
      have HO3 := Lib.hid ho
      have hnl : ¬ (0 : Int) < (k : Int) - (k : Int) := by omega
      clear ho hlt
      go_wp2
      go_ret
      exact ⟨A', cA, f, g, rfl, HO3.out, HF.out, HT.out⟩
def AnyE (N : Nat) (w w' : World) (e : Ending) : Prop :=
  ∃ (A' : Option Addr) (c : Nat) (f g : Nat → Nat), e = .returned (.slice A' N c) ∧ OwnV w' 24 A' N (fun i => .complex .f32 (f i) (g i)) w.heap.size w'.heap.size ∧ (∀ i, f i < 4294967296 ∧ g i < 4294967296) ∧ Below w.heap.size w w'
theorem b10Any_any (A : Option Addr) (n c N : Nat) (w : World) (hn : n ≤ 1048576) (hN : N ≤ 100) (hc : CodeB w A n w.heap.size) :
    Calls Tryz.prog 15 #[.slice A n c, .int .i64 (N : Int)] w fun e w' => AnyE N w w' e := by
  have HF := Lib.hid (from_any A n c w hn hc)
  clear hc
  go_enter Tryz.func15, Tryz.ntmps15
  go_wp2_with fail
  refine HF.out.mono ?_
  rintro e w1 ⟨rfl, s1, b1⟩
  have S1 := Lib.hid s1
  have B1 := Lib.hid b1
  clear s1 b1
  go_wp2_with fail
  refine (drawComplexes_any _ A n 0 N w1 S1.out (by omega) hN).mono ?_
  rintro e w2 ⟨A', c', f, g, rfl, ho, hf, t2⟩
  have HO := Lib.hid (ho.more (lo' := w.heap.size) B1.out.size (Nat.le_refl _))
  have HF2 := Lib.hid hf
  have HB := Lib.hid (Touched.below1 B1.out t2)
  clear ho hf t2
  go_wp2
  go_ret
  exact ⟨A', c', f, g, rfl, HO.out, HF2.out, HB.out⟩
def NumCE (w w' : World) (e : Ending) : Prop := ∃ x y : Nat, e = .returned (.complex .f32 x y) ∧ x < 4294967296 ∧ y < 4294967296 ∧ Below w.heap.size w w'
theorem b10Complex_any (A : Option Addr) (n c : Nat) (w : World) (hn : n ≤ 1048576) (hc : CodeB w A n w.heap.size) :
    Calls Tryz.prog 22 #[.slice A n c] w fun e w' => NumCE w w' e := by
  have HF := Lib.hid (from_any A n c w hn hc)
  clear hc
  go_enter Tryz.func22, Tryz.ntmps22
  go_wp2_with fail
  refine HF.out.mono ?_
  rintro e w1 ⟨rfl, s1, b1⟩
  have S1 := Lib.hid s1
  have B1 := Lib.hid b1
  clear s1 b1
  go_wp2_with fail
  refine (one_any _ A n 0 4 w1 S1.out (by omega) (by omega) (by omega)).mono ?_
  rintro e w2 ⟨b, rfl, s2, t2⟩
  have S2 := Lib.hid s2
  have T2 := Lib.hid t2
  clear s2 t2
  cases b
  · go_wp2_with fail
    refine (drawFine_any _ A n _ w2 S2.out (by omega)).mono ?_
    rintro e w3 ⟨x, y, rfl, hx, hy, s3, t3⟩
    have T3 := Lib.hid (T2.out.trans t3)
    clear s3 t3
    go_wp2
    go_ret
    exact ⟨_, _, rfl, hx, hy, Touched.below1 B1.out T3.out⟩
  · go_wp2_with fail
    refine (drawComplex_any _ A n _ w2 S2.out (by omega)).mono ?_
    rintro e w3 ⟨x, y, rfl, hx, hy, s3, t3⟩
    have T3 := Lib.hid (T2.out.trans t3)
    clear s3 t3
    go_wp2
    go_ret
    exact ⟨_, _, rfl, hx, hy, Touched.below1 B1.out T3.out⟩
/-- one complex number with integer parts was drawn -/
def WhoE (w w' : World) (e : Ending) : Prop :=
  ∃ (g c x y : Nat) (m n : Int), e = .returned (.slice (some ⟨g, 0, none⟩) 1 c) ∧ w'.cell? ⟨g, 0, none⟩ = some (.complex .f32 x y) ∧ V .f32 x m ∧ V .f32 y n ∧ m.natAbs ≤ 200 ∧ n.natAbs ≤ 200 ∧ Below w.heap.size w w'
theorem ofInt_V {m : Int} (h : m.natAbs ≤ 200) : V .f32 (floatOfInt .f32 m) m := (V.ofInt (by rw [bin32]; omega)).1
set_option maxHeartbeats 4000000 in
theorem b10Whole_any (A : Option Addr) (n c : Nat) (w : World) (hn : n ≤ 1048576) (hc : CodeB w A n w.heap.size) :
    Calls Tryz.prog 6 #[.slice A n c, .int .i64 1, .int .i64 200] w fun e w' => WhoE w w' e := by
  obtain ⟨i0, hi0, hz0, hz1, hz2⟩ := info_parts info_c64
  have HF := Lib.hid (from_any A n c w hn hc)
  clear hc
  go_enter Tryz.func6, Tryz.ntmps6
  go_wp2_with fail
  refine HF.out.mono ?_
  rintro e w1 ⟨rfl, s1, b1⟩
  have S1 := Lib.hid (s1.alloc (.cells #[] 24))
  have B1 := Lib.hid b1
  have O1 := Lib.hid (World.ownsRow_lit (base := w1.heap.size) (e := 24) (size := 1) w1 #[] 0 (Nat.le_refl _) (by decide) rfl)
  have hz := s1.lt
  clear s1 b1
  go_wp2
  go_loopw [1, 8] (fun tn tv wx => (tn = .int .i64 1 ∧ tv = .slice (some ⟨w1.heap.size, 0, none⟩) 0 0 ∧ wx = w1.alloc (.cells #[] 24)) ∨ (tn = .int .i64 0 ∧ ∃ (g c x y : Nat) (m k : Int), tv = .slice (some ⟨g, 0, none⟩) 1 c ∧ Hid (wx.cell? ⟨g, 0, none⟩ = some (.complex .f32 x y) ∧ V .f32 x m ∧ V .f32 y k ∧ m.natAbs ≤ 200 ∧ k.natAbs ≤ 200 ∧ Below w.heap.size w wx))) (fun tn _ _ => (intOf tn).toNat)
  case atStart => exact .inl ⟨rfl, rfl, rfl⟩
  case round =>
    rcases hrel with ⟨rfl, rfl, rfl⟩ | ⟨rfl, g, c', x, y, m, k, rfl, HH⟩
    · go_wp2_with fail
      refine (pick_any _ A n _ 401 _ S1.out (by omega) (by omega) (by omega)).mono ?_
      rintro e w2 ⟨x, rfl, x0, x1, s2, t2⟩
      have S2 := Lib.hid s2
      have O2 := Lib.hid (owns_touched O1.out t2 (by omega))
      have T2 := Lib.hid (((Touched.refl w1 w.heap.size (w.heap.size + 1)).alloc _).trans t2)
      clear s2 t2
      go_wp2_with fail
      refine (pick_any _ A n _ 401 _ S2.out (by omega) (by omega) (by omega)).mono ?_
      rintro e w3 ⟨y, rfl, y0, y1, s3, t3⟩
      have O3 := Lib.hid (owns_touched O2.out t3 (by omega))
      have T3 := Lib.hid (T2.out.trans t3)
      clear s3 t3
      go_wp2_with (first | (at_builtin; refine wpList_append_own _ rfl _ _ 25 rfl w1.heap.size 24 i0 (.complex .f32 0 0) 1 8 Tryz.underlying25 hi0 hz0 hz1 hz2 rfl (by decide) _ _ _ rfl (O3.out.alloc _) ⟨w3.heap.size, 0, none⟩ 1 1 [.complex .f32 (floatOfInt .f32 (x - 200)) (floatOfInt .f32 (y - 200))] rfl rfl ?c1 ?c2 ?c3 ?c4 ?c5 ?_))
      case c1 => exact news_cells rfl
      case c2 => intro u hu; simp at hu; rcases hu with rfl; rfl
      case c3 => unfold maxLen; omega
      case c4 => omega
      case c5 => have := T3.out.size; simp <;> omega
      intro v' w4 hown1 hgrow _
      have T4 := Lib.hid ((T3.out.alloc _).grown hgrow (fun q hq => (O3.out.lt q hq).1))
      obtain ⟨g, cap, rfl, hcell⟩ : ∃ g cap, v' = .slice (some ⟨g, 0, none⟩) 1 cap ∧ w4.cell? ⟨g, 0, none⟩ = some (.complex .f32 (floatOfInt .f32 (x - 200)) (floatOfInt .f32 (y - 200))) := by
        rcases hown1.2 with ⟨_, h0⟩ | ⟨g, cap, cur, e1, _⟩
        · omega
        · refine ⟨g, cap, e1, ?_⟩
          have := World.ownsRow.cellAt (by rw [← e1]; exact hown1) 0 (by omega)
          simpa using this
      have HC := Lib.hid hcell
      clear hown1 hgrow hcell
      go_wp2
      go_roundw
      case rel => exact .inr ⟨rfl, g, cap, _, _, x - 200, y - 200, rfl, Lib.hid ⟨HC.out, ofInt_V (by omega), ofInt_V (by omega), by omega, by omega, Touched.below1 B1.out T4.out⟩⟩
      case measure => simp [intOf]
    · go_wp2
      go_ret
      exact ⟨g, c', x, y, m, k, rfl, HH.out⟩
end Go.Proofs.YtmpeogpmlgnmfaaGreatDoor
