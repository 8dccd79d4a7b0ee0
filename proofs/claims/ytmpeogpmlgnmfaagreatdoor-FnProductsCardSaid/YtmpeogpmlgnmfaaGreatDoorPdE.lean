/- What the law of products wants besides: texts of complex numbers read back, two complex numbers the same, narrowed, finite. -/
import Derived.Test.YtmpeogpmlgnmfaaGreatDoorPdD
import Derived.Test.YtmpeogpmlgnmfaaGreatDoorFnW
namespace Go.Proofs.YtmpeogpmlgnmfaaGreatDoor
set_option maxRecDepth 100000
open Go.RowKit Go.Deep Flt

theorem rc_hc {x y : Nat} (hx1 : x < 4294967296) (hy : y < 4294967296) : rc (hx x ++ hx y) = some (bitsN x, bitsN y) := by
  have h1 : (hx x ++ hx y).take 8 = hx x := List.take_left' (hx_len x)
  have h2 : (hx x ++ hx y).drop 8 = hx y := List.drop_left' (hx_len x)
  exact rc_yes (by rw [h1]; exact rn_hx hx1) (by rw [h2]; exact rn_hx hy)
theorem text_backC (f g : Nat → Nat) (N : Nat) (hN : N ≤ 256) (h32 : ∀ i, f i < 4294967296 ∧ g i < 4294967296) :
    crOk (joinT (hcX f g) N) = true ∧ crN (joinT (hcX f g) N) = N ∧ ∀ i, i < N → crA (joinT (hcX f g) N) i = bitsN (f i) ∧ crB (joinT (hcX f g) N) i = bitsN (g i) := by
  have hp : nPt (joinT (hcX f g) N) = N ∧ ∀ i, i < N → pt (joinT (hcX f g) N) i = hcX f g i := by
    by_cases h0 : N = 0
    · subst h0
      exact ⟨rfl, fun i hi => by omega⟩
    · have hne : txts (hcX f g) N ≠ [] := by
        intro e
        have := congrArg List.length e
        simp [txts] at this
        exact h0 this
      have hcut : cutL (joinT (hcX f g) N) = txts (hcX f g) N := by
        unfold joinT
        rw [if_neg h0]
        refine cutL_join _ hne fun p hp c hc => ?_
        unfold txts at hp
        obtain ⟨i, _, rfl⟩ := List.mem_map.1 hp
        exact hcX_ne f g i c hc
      have hnn : ¬ joinT (hcX f g) N = [110, 111, 110, 101] := by
        intro e
        rw [e, cutL_end _ (by decide)] at hcut
        have hm : hcX f g 0 ∈ txts (hcX f g) N := by
          unfold txts
          exact List.mem_map.2 ⟨0, by simp; omega, rfl⟩
        rw [← hcut] at hm
        have h8 := hcX_len f g 0
        rw [List.mem_singleton.1 hm] at h8
        exact absurd h8 (by decide)
      have hpts : ptsL (joinT (hcX f g) N) = txts (hcX f g) N := by unfold ptsL; rw [if_neg hnn, hcut]
      refine ⟨by unfold nPt; rw [hpts]; simp [txts], fun i hi => ?_⟩
      unfold pt
      rw [hpts]
      simp [txts, List.getD, hi]
  obtain ⟨h1, h2⟩ := hp
  have hr : ∀ i, i < N → rc (pt (joinT (hcX f g) N) i) = some (bitsN (f i), bitsN (g i)) := fun i hi => by
    rw [h2 i hi]
    exact rc_hc (h32 i).1 (h32 i).2
  have hok : crOk (joinT (hcX f g) N) = true := crOk_yes (fun i hi => by rw [hr i (by omega)]; rfl) (by omega)
  exact ⟨hok, by rw [crN_yes hok, h1], fun i hi => cr_of (hr i hi)⟩
theorem joinTC_small (f g : Nat → Nat) (N : Nat) (hN : N ≤ 256) : (joinT (hcX f g) N).length ≤ 6000 := by
  cases N with
  | zero => show none4.length ≤ 6000; decide
  | succ N =>
    have := joinT_len (fun i => Nat.le_of_eq (hcX_len f g i)) N
    omega
/-- what the row's list and the world's shape give -/
def Got3 (w : World) : Prop := Maxi w ∧ Tz w ∧ Errs w
theorem Got3.below {w w' : World} (h : Got3 w) (hb : Below w.heap.size w w') : Got3 w' := ⟨h.1.below hb, h.2.1.below hb, h.2.2.below hb⟩
def BackCE (f g : Nat → Nat) (N : Nat) (w w' : World) (e : Ending) : Prop :=
  ∃ (A : Option Addr) (c : Nat), e = .returned (.tuple #[.slice A N c, .bool true]) ∧ OwnV w' 24 A N (fun i => .complex .f32 (bitsN (f i)) (bitsN (g i))) w.heap.size w'.heap.size ∧ Below w.heap.size w w'
theorem backC_any (f g : Nat → Nat) (N : Nat) (W : World) (hN : N ≤ 256) (h32 : ∀ i, f i < 4294967296 ∧ g i < 4294967296) (hg : Got3 W) :
    Calls Tryz.prog 18 #[strV (joinT (hcX f g) N)] W fun e w' => BackCE f g N W w' e := by
  obtain ⟨h1, h2, h3⟩ := text_backC f g N hN h32
  have hl := joinTC_small f g N hN
  generalize joinT (hcX f g) N = t at *
  refine (readComplexI ⟨t.toArray⟩ W (by simp [ByteArray.size]; omega) hg.1 hg.2.1 hg.2.2).mono fun e w' ⟨A, c, he, ho, hb⟩ => ?_
  rw [h1, h2] at he
  rw [h2] at ho
  exact ⟨A, c, he, ho.congr fun i hi => by rw [(h3 i hi).1, (h3 i hi).2], hb⟩
theorem l01Same_yes (a b : Nat) (c : Option Nat) (w : World) (hw : Wfc .f32 c) (ha : cls .f32 a = c) (hb : cls .f32 b = c) :
    Calls Tryz.prog 43 #[.float .f32 a, .float .f32 b] w fun e w' => e = .returned (.bool true) ∧ w = w' := by
  have HA := Lib.hid (fun W => l01Bits_w a W (ha ▸ hw))
  have HB := Lib.hid (fun W => l01Bits_w b W (hb ▸ hw))
  have HE := Lib.hid (sameB_of (ha.trans hb.symm))
  clear ha hb hw
  go_enter Tryz.func43, Tryz.ntmps43
  go_wp2_with fail
  refine (HA.out _).mono ?_
  rintro e w' ⟨rfl, rfl⟩
  go_wp2_with fail
  refine (HB.out _).mono ?_
  rintro e w' ⟨rfl, rfl⟩
  go_wp2
  go_ret
  exact ⟨congrArg (fun x => Ending.returned (.bool x)) (bitsZ_same.trans HE.out), rfl⟩
theorem sSameC_yes (a b c d : Nat) (w : World) (h1 : cls .f32 a = cls .f32 c) (h2 : cls .f32 b = cls .f32 d) (hc : c < 4294967296) (hd : d < 4294967296) :
    Calls Tryz.prog 59 #[.complex .f32 a b, .complex .f32 c d] w fun e w' => e = .returned (.bool true) ∧ w = w' := by
  have H1 := Lib.hid (fun W => l01Same_yes a c (cls .f32 c) W (wfc_cls hc) h1 rfl)
  have H2 := Lib.hid (fun W => l01Same_yes b d (cls .f32 d) W (wfc_cls hd) h2 rfl)
  have HS := Lib.hid (fun W => show Calls Tryz.prog 79 #[.complex .f32 a b, .complex .f32 c d] W fun e w' => e = .returned (.bool true) ∧ W = w' by
    go_enter Tryz.func79, Tryz.ntmps79
    go_wp2_with fail
    refine (H1.out _).mono ?_
    rintro e w' ⟨rfl, rfl⟩
    go_wp2_with fail
    refine (H2.out _).mono ?_
    rintro e w' ⟨rfl, rfl⟩
    go_wp2
    go_ret
    exact ⟨rfl, rfl⟩)
  clear h1 h2
  go_enter Tryz.func59, Tryz.ntmps59
  go_wp2_with fail
  refine (HS.out _).mono ?_
  rintro e w' ⟨rfl, rfl⟩
  go_wp2
  go_ret
  exact ⟨rfl, rfl⟩
set_option maxHeartbeats 2000000 in
theorem b10Same_any (A B : Option Addr) (f g f' g' : Nat → Nat) (n c d lo hi lo' hi' : Nat) (w : World) (h : OwnV w 24 A n (fun i => .complex .f32 (f i) (g i)) lo hi) (k : OwnV w 24 B n (fun i => .complex .f32 (f' i) (g' i)) lo' hi')
    (hs : ∀ i, i < n → cls .f32 (f i) = cls .f32 (f' i) ∧ cls .f32 (g i) = cls .f32 (g' i)) (h32 : ∀ i, f' i < 4294967296 ∧ g' i < 4294967296) (hn : n ≤ 1000) :
    Calls Tryz.prog 23 #[.slice A n c, .slice B n d] w fun e w' => e = .returned (.bool true) ∧ Drew w w' := by
  go_enter Tryz.func23, Tryz.ntmps23
  go_wp2
  go_loopw [13] (fun ti wx => ∃ j : Nat, j ≤ n ∧ ti = .int .i64 j ∧ Drew w wx) (fun ti _ => n - (intOf ti).toNat)
  case atStart => exact ⟨0, Nat.zero_le _, rfl, Drew.refl _⟩
  case round =>
    obtain ⟨j, hj, rfl, hd⟩ := hrel
    have HD := Lib.hid hd
    clear hd
    by_cases hjn : j < n
    · have hjn' : (j : Int) < (n : Int) := by omega
      have hj0 : (0 : Int) ≤ (j : Int) := by omega
      rcases h with h0 | ⟨p, m, q, rfl, _, _, hr, hm, hff⟩
      · omega
      rcases k with h0 | ⟨p', m', q', rfl, _, _, hr', hm', hff'⟩
      · omega
      have cx : wr.cell? ⟨p, j, none⟩ = some (.complex .f32 (f j) (g j)) := (HD.out.cell _).trans ((hr.cell (i := j) (by omega)).trans (by rw [hff j hjn]))
      have cy : wr.cell? ⟨p', j, none⟩ = some (.complex .f32 (f' j) (g' j)) := (HD.out.cell _).trans ((hr'.cell (i := j) (by omega)).trans (by rw [hff' j hjn]))
      have HSS := Lib.hid (fun W => sSameC_yes (f j) (g j) (f' j) (g' j) W (hs j hjn).1 (hs j hjn).2 (h32 j).1 (h32 j).2)
      clear hr hff hr' hff' hs h32
      go_wp2
      go_region_with (go_at_call 59; refine (HSS.out _).mono ?_; rintro e w' ⟨rfl, rfl⟩)
      all_goals
        go_wp2
        go_roundw
        case rel => exact ⟨j + 1, by omega, by go_num, by repeat (first | exact HD.out | refine Drew.drewN ?_ _ | refine Drew.drew ?_)⟩
        case measure => simp [intOf]; omega
    · obtain rfl : j = n := by omega
      clear h k
      go_wp2
      go_ret
      exact ⟨rfl, HD.out⟩
theorem sameComplexI_yes (a b c d : Nat) (w : World) (h1 : cls .f32 a = cls .f32 c) (h2 : cls .f32 b = cls .f32 d) (ha : a < 4294967296) (hb : b < 4294967296) (hc : c < 4294967296) (hd : d < 4294967296) :
    Calls Tryz.prog 24 #[.complex .f32 a b, .complex .f32 c d] w fun e w' => e = .returned (.bool true) ∧ Drew w w' := by
  have H1 := Lib.hid (fun W => show Calls Tryz.prog 60 #[.float .f32 a, .float .f32 c] W fun e w' => ∃ n, e = .returned (.bool true) ∧ w' = W.drewN n by
    have := sameNumber_any a c W ha hc; rw [sameB_of h1] at this; exact this)
  have H2 := Lib.hid (fun W => show Calls Tryz.prog 60 #[.float .f32 b, .float .f32 d] W fun e w' => ∃ n, e = .returned (.bool true) ∧ w' = W.drewN n by
    have := sameNumber_any b d W hb hd; rw [sameB_of h2] at this; exact this)
  clear h1 h2
  go_enter Tryz.func24, Tryz.ntmps24
  go_wp2_with fail
  refine (H1.out _).mono ?_
  rintro e w' ⟨n1, rfl, rfl⟩
  go_wp2_with fail
  refine (H2.out _).mono ?_
  rintro e w' ⟨n2, rfl, rfl⟩
  go_wp2
  go_ret
  exact ⟨rfl, by repeat (first | exact Drew.refl _ | refine Drew.drewN ?_ _ | refine Drew.drew ?_)⟩
def NarE (a b : Nat) (w w' : World) (e : Ending) : Prop := ∃ x y : Nat, e = .returned (.complex .f32 x y) ∧ cls .f32 x = fconv .f64 .f32 (cls .f64 a) ∧ cls .f32 y = fconv .f64 .f32 (cls .f64 b) ∧ x < 4294967296 ∧ y < 4294967296 ∧ Drew w w'
theorem narrowComplex_any (a b : Nat) (w : World) (ha : NoOver .f64 .f32 a) (hb : NoOver .f64 .f32 b) :
    Calls Tryz.prog 25 #[.complex .f64 a b] w fun e w' => NarE a b w w' e := by
  go_enter Tryz.func25, Tryz.ntmps25
  go_wp2_with (first | (refine wpList_conv rfl _ _ (.tmp 4) rfl .f64 .f32 _ rfl (by decide) (by kernel_rfl) Tryz.underlying28 ha ?_; intro τ q) | (refine wpList_conv rfl _ _ (.tmp 7) rfl .f64 .f32 _ rfl (by decide) (by kernel_rfl) Tryz.underlying28 hb ?_; intro σ k))
  go_ret
  exact ⟨_, _, rfl, cls_rep' (nn_fconv _ _ _ (nn_cls _ _)) _, cls_rep' (nn_fconv _ _ _ (nn_cls _ _)) _, rep_lt (wfc_fconv' _ _ _ (nn_cls _ _)) _, rep_lt (wfc_fconv' _ _ _ (nn_cls _ _)) _, by repeat (first | exact Drew.refl _ | refine Drew.drewN ?_ _ | refine Drew.drew ?_)⟩
theorem isFiniteComplex_any (a b : Nat) (w : World) :
    Calls Tryz.prog 26 #[.complex .f32 a b] w fun e w' => e = .returned (.bool (finB (cls .f32 a) && finB (cls .f32 b))) ∧ Drew w w' := by
  have H1 := Lib.hid (fun W => isFinite_any a W)
  have H2 := Lib.hid (fun W => isFinite_any b W)
  generalize finB (cls .f32 a) = x at *
  generalize finB (cls .f32 b) = y at *
  cases x
  · go_enter Tryz.func26, Tryz.ntmps26
    go_wp2_with fail
    refine (H1.out _).mono ?_
    rintro e w' ⟨n1, rfl, rfl⟩
    go_wp2
    go_ret
    exact ⟨rfl, by repeat (first | exact Drew.refl _ | refine Drew.drewN ?_ _ | refine Drew.drew ?_)⟩
  · go_enter Tryz.func26, Tryz.ntmps26
    go_wp2_with fail
    refine (H1.out _).mono ?_
    rintro e w' ⟨n1, rfl, rfl⟩
    go_wp2_with fail
    refine (H2.out _).mono ?_
    rintro e w' ⟨n2, rfl, rfl⟩
    go_wp2
    go_ret
    exact ⟨by simp, by repeat (first | exact Drew.refl _ | refine Drew.drewN ?_ _ | refine Drew.drew ?_)⟩
theorem fneg_twice {b : Nat} (hb : b < 4294967296) : cls .f32 (Op.negFloat .f32 (Op.negFloat .f32 b)) = cls .f32 b := by
  have h1 : Op.negFloat .f32 b < 2 ^ FloatKind.f32.format.width := neg_lt (k := .f32) hb
  have hr : rung FloatKind.f32.format (Op.negFloat .f32 (Op.negFloat .f32 b)) = rung FloatKind.f32.format b := by rw [neg_rung h1, neg_rung (k := .f32) hb]
  have hs : sgn FloatKind.f32.format (Op.negFloat .f32 (Op.negFloat .f32 b)) = sgn FloatKind.f32.format b := by rw [neg_sgn h1, neg_sgn (k := .f32) hb, Bool.not_not]
  have e1 := word_of (f := FloatKind.f32.format) (b := b) hb
  have e2 := word_of (f := FloatKind.f32.format) (b := Op.negFloat .f32 (Op.negFloat .f32 b)) (neg_lt h1)
  rw [hr, hs, e1] at e2
  rw [← e2]
end Go.Proofs.YtmpeogpmlgnmfaaGreatDoor
