/- Lives: slices of pairs of a float32 and a bool; the copies that the laws make of them, and whether two are the same. -/
import Derived.Test.YtceckapldohkdaaNum
import Derived.Test.YtceckapldohkdaaCells
import Derived.LoopTactic
import Derived.Deep.Fields
import Derived.ChangeSame
import Derived.Deep.RegionWith
import Derived.Deep.RegionHeld3
namespace Go.Proofs.Ytceckapldohkdaa
open Go.ChangeShapes Go.WideShapes Go.ChangeAt Go.RowKit Go.Deep Flt

/-- cells behind an offset are lives: times X, marks F -/
def LivesAt (w : World) (b off : Nat) (X : Nat → Nat) (F : Nat → Bool) (n : Nat) : Prop :=
  ∀ i, i < n → w.cell? ⟨b, off + i * 2, none⟩ = some (.float .f32 (X i)) ∧ w.cell? ⟨b, off + i * 2 + 1, none⟩ = some (.bool (F i))
theorem LivesAt.below {w w' : World} {b off : Nat} {X : Nat → Nat} {F : Nat → Bool} {n : Nat} (h : LivesAt w b off X F n) (hb : Below w.heap.size w w') : LivesAt w' b off X F n := fun i hi =>
  ⟨(hb.cell (World.block_lt_of_cell? w _ (h i hi).1)).trans (h i hi).1, (hb.cell (World.block_lt_of_cell? w _ (h i hi).2)).trans (h i hi).2⟩
theorem LivesAt.drew {w w' : World} {b off : Nat} {X : Nat → Nat} {F : Nat → Bool} {n : Nat} (h : LivesAt w b off X F n) (hb : Drew w w') : LivesAt w' b off X F n := h.below hb.below
theorem Drew.trans {a b c : World} (h : Drew a b) (k : Drew b c) : Drew a c := by obtain ⟨m, rfl⟩ := k; exact h.drewN m
/-- a slice that came in reads as lives -/
def RowL (w : World) (a : Option Addr) (X : Nat → Nat) (F : Nat → Bool) (n : Nat) : Prop := n = 0 ∨ ∃ b off, a = some ⟨b, off, none⟩ ∧ LivesAt w b off X F n
theorem RowL.below {w w' : World} {a : Option Addr} {X : Nat → Nat} {F : Nat → Bool} {n : Nat} (h : RowL w a X F n) (hb : Below w.heap.size w w') : RowL w' a X F n := by
  rcases h with h | ⟨b, off, e, hc⟩
  · exact .inl h
  · exact .inr ⟨b, off, e, hc.below hb⟩
theorem trod_bool' {H : Type} {enc : TypeId × Value → H} {P : Program} {w : World} {base : Nat} {spare : Nat → Bool} {held : Bool} {fuel : Nat} {t : TypeId} {cs : List Value} {x : DataW H × List MemPlace}
    (ht : P.underlying t = some .bool) (h : DataW.trod enc P w base spare held fuel t cs = some x) : ∃ b, cs = [.bool b] := by
  cases fuel with
  | zero => simp [DataW.trod] at h
  | succ n =>
    unfold DataW.trod at h
    rw [ht] at h
    split at h <;> simp_all

section
variable {H : Type} {enc : TypeId × Value → H} {P : Program} {w : World} {base : Nat} {spare : Nat → Bool} {held : Bool}
theorem open_pairs {t e : TypeId} {f0 f1 : Field} {fuel : Nat} {cs : List Value} {x : DataW H × List MemPlace} (ht : P.underlying t = some (.slice e)) (he : P.underlying e = some (.struct #[f0, f1]))
    (hone : oneCellFields P #[f0, f1] = true) (hC : P.cellsOf e = 2) (h : DataW.trod enc P w base spare held fuel t cs = some x) :
    cs = [.slice none 0 0] ∨
    ∃ (a : Addr) (len cap : Nat), cs = [.slice (some a) len cap] ∧ len ≤ cap ∧ cap ≤ maxLen ∧
      ∀ i, i < len → ∃ (v0 v1 : Value) (y0 y1 : DataW H × List MemPlace) (n : Nat), w.cell? (a.add (i * 2)) = some v0 ∧ w.cell? (a.add (i * 2 + 1)) = some v1 ∧
        DataW.trod enc P w base spare held n f0.type [v0] = some y0 ∧ DataW.trod enc P w base spare held n f1.type [v1] = some y1 := by
  rcases open_slice ht h with ⟨h0, _⟩ | ⟨a, len, cap, m, n, D, Pl, hcs, hb, hl, hm, hmm, hx, hi⟩
  · exact .inl h0
  · refine .inr ⟨a, len, cap, hcs, hl, hm, fun i him => ?_⟩
    obtain ⟨cs', hc, ht'⟩ := hi i (by rw [hmm]; split <;> omega)
    rw [hC] at hc
    obtain ⟨ys, n', hn', hy, hlen, hyl, hf⟩ := DataW.trod_struct he ht'
    obtain ⟨_, hcl, hat⟩ := World.cells?_some hc
    obtain ⟨o0, k0⟩ := hone_of hone 0 f0 rfl
    obtain ⟨o1, k1⟩ := hone_of hone 1 f1 rfl
    match cs', hcl with
    | [c0, c1], _ =>
      match ys, hyl with
      | [y0, y1], _ =>
        have a0 := hat 0 (by simp)
        have a1 := hat 1 (by simp)
        rw [Go.Deep.add_add] at a0 a1
        have e0 : (a.add (i * 2 + 0)) = a.add (i * 2) := rfl
        rw [e0] at a0
        exact ⟨c0, c1, y0, y1, n', by simpa using a0, by simpa using a1, by simpa [o0, k0] using hf 0 f0 rfl, by simpa [o1, k1] using hf 1 f1 rfl⟩
end
theorem skolem2 {n : Nat} {p : Nat → Nat → Bool → Prop} (h : ∀ i, i < n → ∃ x y, p i x y) : ∃ (X : Nat → Nat) (F : Nat → Bool), ∀ i, i < n → p i (X i) (F i) :=
  ⟨fun i => if hi : i < n then (h i hi).choose else 0, fun i => if hi : i < n then (h i hi).choose_spec.choose else false, fun i hi => by simp only [hi, dif_pos]; exact (h i hi).choose_spec.choose_spec⟩

theorem lifeCells : Try.prog.cellsOf 59 = 2 := by kernel_rfl
theorem slice_opened59 {H : Type} {enc : TypeId × Value → H} {w : World} {base : Nat} {spare : Nat → Bool} {held : Bool} {a : Option Addr} {n c : Nat} {d : DataW H} {p : List MemPlace}
    (h : DataW.Trod enc Try.prog w base spare held 22 (.slice a n c) d p) : n ≤ maxLen ∧ ∃ X F, RowL w a X F n ∧ Lt32 X n := by
  obtain ⟨fuel, hf⟩ := h
  rcases open_pairs Try.underlying22 Try.underlying59 (by kernel_rfl) lifeCells hf with hcs | ⟨a', len, cap, hcs, hl, hm, hi⟩
  · simp [Value.cells] at hcs
    obtain ⟨rfl, rfl, rfl⟩ := hcs
    exact ⟨by omega, fun _ => 0, fun _ => false, .inl rfl, fun i hi => by omega⟩
  · simp [Value.cells] at hcs
    obtain ⟨rfl, rfl, rfl⟩ := hcs
    have key : ∀ i, i < n → ∃ (x : Nat) (f : Bool), w.cell? (a'.add (i * 2)) = some (.float .f32 x) ∧ w.cell? (a'.add (i * 2 + 1)) = some (.bool f) ∧ x < 4294967296 := by
      intro i hin
      obtain ⟨v0, v1, y0, y1, m, h0, h1, t0, t1⟩ := hi i hin
      obtain ⟨x, e0, _, wx⟩ := trod_float Try.underlying32 t0
      obtain ⟨f, e1⟩ := trod_bool' Try.underlying4 t1
      simp only [List.cons.injEq, and_true] at e0 e1
      subst e0 e1
      exact ⟨x, f, h0, h1, lt_of_wf32 wx⟩
    obtain ⟨X, F, hX⟩ := skolem2 key
    refine ⟨by omega, X, F, ?_, fun i hi => (hX i hi).2.2⟩
    by_cases hn : n = 0
    · exact .inl hn
    · obtain ⟨b, off, spot⟩ := a'
      have h0 := (hX 0 (by omega)).1
      have hs : spot = none := by simpa [Addr.add] using World.cell?_spot h0
      subst hs
      refine .inr ⟨b, off, rfl, fun i hin => ?_⟩
      have hh := hX i hin
      rw [add_plain, add_plain] at hh
      exact ⟨hh.1, hh.2.1⟩
theorem szLifeS_no (a : Option Addr) (n c : Nat) (left : Int) (w : World) (hn : n ≤ 9223372036854775807) (h0 : 0 ≤ left) (h1 : left ≤ 1048576) (h : left < (n : Int)) :
    Calls Try.prog 14 #[.slice a n c, .int .i64 left] w fun e w' => e = .returned (.int .i64 (-1)) ∧ w = w' := by
  have h2 : left - (n : Int) < 0 := by omega
  go_enter Try.func14, Try.ntmps14
  go_wp2
  go_ret
  exact ⟨rfl, rfl⟩
theorem szLifeS_yes (a : Option Addr) (n c : Nat) (left : Int) (w : World) (h0 : 0 ≤ left) (h1 : left ≤ 1048576) (h : (n : Int) ≤ left) :
    Calls Try.prog 14 #[.slice a n c, .int .i64 left] w fun e w' => e = .returned (.int .i64 (left - (n : Int))) ∧ w = w' := by
  have h2 : 0 ≤ left - (n : Int) := by omega
  go_enter Try.func14, Try.ntmps14
  go_wp2
  go_ret
  exact ⟨rfl, rfl⟩
theorem toLife_any (x : Nat) (f : Bool) (w : World) :
    Calls Try.prog 47 #[.agg #[.float .f32 x, .bool f]] w fun e w' => e = .returned (.agg #[.float .f32 x, .bool f]) ∧ Below w.heap.size w w' := by
  go_enter Try.func47, Try.ntmps47
  go_wp2
  refine bodyPost_ret (v := .agg #[.float .f32 x, .bool f]) (by simp [results, Try.results47, go_sem]) rfl ⟨rfl, (((Below.refl _ _).alloc (Nat.le_refl _) _).alloc (by simp) _).alloc (by simp; omega) _⟩
theorem info_life : (Try.prog.info? 57).map (fun i => (i.zero, i.size, i.bytes)) = some (some (.agg #[.float .f32 0, .bool false]), 2, 8) := by kernel_rfl
/-- the cells of a copy after k rounds -/
def lifeV (X : Nat → Nat) (F : Nat → Bool) (k j : Nat) : Value := if j % 2 = 0 then (if j / 2 < k then .float .f32 (X (j / 2)) else .float .f32 0) else (if j / 2 < k then .bool (F (j / 2)) else .bool false)
theorem lifeV_step (X : Nat → Nat) (F : Nat → Bool) (k j : Nat) : lifeV X F (k + 1) j = if j = k * 2 + 1 then .bool (F k) else if j = k * 2 then .float .f32 (X k) else lifeV X F k j := by
  unfold lifeV
  by_cases h1 : j = k * 2 + 1
  · rw [if_pos h1, if_neg (by omega), if_pos (by omega), show j / 2 = k by omega]
  · rw [if_neg h1]
    by_cases h2 : j = k * 2
    · rw [if_pos h2, if_pos (by omega), if_pos (by omega), show j / 2 = k by omega]
    · rw [if_neg h2]
      by_cases h3 : j / 2 < k
      · simp [h3, show j / 2 < k + 1 by omega]
      · simp [h3, show ¬ j / 2 < k + 1 by omega]
theorem made_lives (w : World) (n : Nat) : (w.alloc (.cells (madeCells #[.float .f32 0, .bool false] (n * 2)) 57)).rowIs w.heap.size 57 (n * 2) (lifeV (fun _ => 0) (fun _ => false) 0) := by
  have h := World.rowIs_alloc w (madeCells #[.float .f32 0, .bool false] (n * 2)) 57 (lifeV (fun _ => 0) (fun _ => false) 0) (fun i hi => by
    rw [size_madeCells] at hi
    unfold lifeV madeCells
    have h2 : i % 2 = 0 ∨ i % 2 = 1 := by omega
    rcases h2 with h2 | h2 <;> simp [hi, h2])
  rw [size_madeCells] at h
  exact h
theorem lives_of_row {w : World} {g : Nat} {t : TypeId} {X : Nat → Nat} {F : Nat → Bool} {n : Nat} (h : w.rowIs g t (n * 2) (lifeV X F n)) : LivesAt w g 0 X F n := by
  intro i hi
  have h0 := h.cell (i := i * 2) (by omega)
  have h1 := h.cell (i := i * 2 + 1) (by omega)
  unfold lifeV at h0 h1
  rw [if_pos (by omega), if_pos (by omega), show i * 2 / 2 = i by omega] at h0
  rw [if_neg (by omega), if_pos (by omega), show (i * 2 + 1) / 2 = i by omega] at h1
  exact ⟨by rw [Nat.zero_add]; exact h0, by rw [Nat.zero_add]; exact h1⟩
set_option maxHeartbeats 400000 in
theorem toLifeS_row (a : Option Addr) (X : Nat → Nat) (F : Nat → Bool) (n c : Nat) (w : World) (hr : RowL w a X F n) (hn : n ≤ 1048576) :
    Calls Try.prog 16 #[.slice a n c] w fun e w' => e = .returned (.slice (some ⟨w.heap.size, 0, none⟩) n n) ∧ w'.rowIs w.heap.size 57 (n * 2) (lifeV X F n) ∧ Below w.heap.size w w' := by
  have hmk : ∀ w, (Instr.makeSlice 25 (.int .i64 (n : Int)) (.int .i64 (n : Int))).run Try.prog w = .ok (.slice (some ⟨w.heap.size, 0, none⟩) n n) (w.alloc (.cells (madeCells #[.float .f32 0, .bool false] (n * 2)) 57)) := by
    obtain ⟨i, hi, hzz⟩ := Option.map_eq_some_iff.1 info_life
    simp only [Prod.mk.injEq] at hzz
    obtain ⟨hz, hs, hb⟩ := hzz
    intro w
    have h := run_make (P := Try.prog) w 25 57 i _ Try.underlying25 hi hz .i64 .i64 n n (by omega) (by omega) (by rw [hb]; omega) (by omega)
    rw [hs] at h
    exact h
  go_enter Try.func16, Try.ntmps16
  go_wp2
  generalize hwb : w.alloc (.cells (madeCells #[.float .f32 0, .bool false] (n * 2)) 57) = wb at *
  go_loopw [4] (fun i wr => ∃ k : Nat, k ≤ n ∧ i = .int .i64 k ∧ wr.rowIs w.heap.size 57 (n * 2) (lifeV X F k) ∧ Below w.heap.size w wr) (fun i _ => n - (intOf i).toNat)
  case atStart =>
    subst hwb
    exact ⟨0, Nat.zero_le _, rfl, (made_lives w n).congr (fun j _ => by unfold lifeV; simp), (Below.refl _ _).alloc (Nat.le_refl _) _⟩
  case round =>
    obtain ⟨k, hk, rfl, hrow, hbel⟩ := hrel
    clear hmk hwb
    by_cases hlt : k < n
    · rcases hr with hr | ⟨b, off, rfl, hc⟩
      · omega
      have hck := hc k hlt
      have hbl : b < w.heap.size := World.block_lt_of_cell? w _ hck.1
      have cx : wr.cell? ⟨b, off + k * 2, none⟩ = some (.float .f32 (X k)) := (hbel.cell (p := ⟨b, off + k * 2, none⟩) hbl).trans hck.1
      have cy : wr.cell? ⟨b, off + k * 2 + 1, none⟩ = some (.bool (F k)) := (hbel.cell (p := ⟨b, off + k * 2 + 1, none⟩) hbl).trans hck.2
      have hlt' : (k : Int) < (n : Int) := by omega
      have Hr := Lib.hid hrow
      have Hb := Lib.hid hbel
      clear hbel hrow hck hc
      go_wp2_with fail
      refine (toLife_any _ _ _).mono ?_
      rintro e w1 ⟨rfl, hb1⟩
      have hrow1 := row_below Hr.out hb1
      have Hb1 := Lib.hid (Hb.out.trans (hb1.mono Hb.out.size))
      have cg := hrow1.cell (i := k * 2) (by omega)
      have ch := hrow1.cell (i := k * 2 + 1) (by omega)
      have fg := hrow1.frozen (k * 2)
      have fh := hrow1.frozen (k * 2 + 1)
      have Hs := Lib.hid ((hrow1.set (k * 2) (.float .f32 (X k))).set (k * 2 + 1) (.bool (F k)))
      clear hrow1 hb1
      go_wp2
      go_roundw
      case rel => exact ⟨k + 1, by omega, by go_num, Hs.out.congr (fun j _ => (lifeV_step X F k j).symm), (Hb1.out.setCell (Nat.le_refl _) _).setCell (Nat.le_refl _) _⟩
      case measure => simp [intOf]; omega
    · have hkn : k = n := by omega
      subst hkn
      have Hs := Lib.hid hrow
      have Hb := Lib.hid hbel
      clear hrow hbel
      go_wp2
      go_ret
      exact ⟨rfl, Hs.out, Hb.out⟩
theorem toLifeS_any (a : Option Addr) (X : Nat → Nat) (F : Nat → Bool) (n c : Nat) (w : World) (hr : RowL w a X F n) (hn : n ≤ 1048576) :
    Calls Try.prog 16 #[.slice a n c] w fun e w' => e = .returned (.slice (some ⟨w.heap.size, 0, none⟩) n n) ∧ LivesAt w' w.heap.size 0 X F n ∧ Below w.heap.size w w' :=
  (toLifeS_row a X F n c w hr hn).mono fun _ _ ⟨h1, h2, h3⟩ => ⟨h1, lives_of_row h2, h3⟩
theorem eqLife_same (x y : Nat) (f : Bool) (w : World) (h : cls .f32 x = cls .f32 y) :
    Calls Try.prog 51 #[.agg #[.float .f32 x, .bool f], .agg #[.float .f32 y, .bool f]] w fun e w' => e = .returned (.bool true) ∧ Below w.heap.size w w' := by
  have H := Lib.hid h
  clear h
  have hb : (f != f) = false := by cases f <;> rfl
  go_enter Try.func51, Try.ntmps51
  go_wp2_with (first | (refine wpList_conv rfl _ _ _ rfl .f32 .f64 _ rfl (by decide) (by kernel_rfl) Try.underlying36 (noOver_widen _) ?_; intro τ q))
  refine (sameFloat_same _ _ _ (by rw [cls_rep' (nn_fconv _ _ _ (nn_cls _ _)), cls_rep' (nn_fconv _ _ _ (nn_cls _ _)), H.out])).mono ?_
  rintro e w1 ⟨q, rfl, rfl⟩
  go_wp2
  go_ret
  exact ⟨rfl, by repeat (first | exact Below.refl _ _ | refine below_drewN ?_ _ | refine Below.drew ?_ | refine Below.alloc ?_ (by simp; try omega) _)⟩
/-- what is held at a region that loads two lives -/
theorem life_keep {B : Nat} {w w1 w2 : World} {a0 a1 b0 b1 : Addr} {x0 x1 y0 y1 : Value} 
    (hs : w1.cell? a0 = some x0 ∧ w1.cell? a1 = some x1 ∧ w1.cell? b0 = some y0 ∧ w1.cell? b1 = some y1 ∧ Below B w w1) (hb : Below w1.heap.size w1 w2) (hB : B ≤ w.heap.size := by omega) :
    w2.cell? a0 = some x0 ∧ w2.cell? a1 = some x1 ∧ w2.cell? b0 = some y0 ∧ w2.cell? b1 = some y1 ∧ Below B w w2 := by
  obtain ⟨h0, h1, h2, h3, hw⟩ := hs
  have lt : ∀ {p : Addr} {v : Value}, w1.cell? p = some v → w2.cell? p = some v := fun {p v} hp => (hb.cell (World.block_lt_of_cell? w1 _ hp)).trans hp
  exact ⟨lt h0, lt h1, lt h2, lt h3, hw.trans (hb.mono (Nat.le_trans hB hw.size))⟩
theorem life_keepd {B : Nat} {w w1 : World} {a0 a1 b0 b1 : Addr} {x0 x1 y0 y1 : Value} 
    (hs : w1.cell? a0 = some x0 ∧ w1.cell? a1 = some x1 ∧ w1.cell? b0 = some y0 ∧ w1.cell? b1 = some y1 ∧ Below B w w1) :
    w1.drew.cell? a0 = some x0 ∧ w1.drew.cell? a1 = some x1 ∧ w1.drew.cell? b0 = some y0 ∧ w1.drew.cell? b1 = some y1 ∧ Below B w w1.drew :=
  ⟨hs.1, hs.2.1, hs.2.2.1, hs.2.2.2.1, hs.2.2.2.2.drew⟩
set_option maxHeartbeats 1000000 in
/-- two slices of the same lives, up to NaNs' bits -/
theorem eqLifeS_same (g h : Nat) (X Y : Nat → Nat) (F : Nat → Bool) (n c d : Nat) (w : World) (hx : LivesAt w g 0 X F n) (hy : LivesAt w h 0 Y F n) (hs : ∀ i, i < n → cls .f32 (X i) = cls .f32 (Y i)) (hb : n ≤ 1048576) :
    Calls Try.prog 18 #[.slice (some ⟨g, 0, none⟩) n c, .slice (some ⟨h, 0, none⟩) n d] w fun e w' => e = .returned (.bool true) ∧ Below w.heap.size w w' := by
  go_enter Try.func18, Try.ntmps18
  go_wp2
  go_loopw [5] (fun i wr => ∃ k : Nat, k ≤ n ∧ i = .int .i64 k ∧ Below w.heap.size w wr) (fun i _ => n - (intOf i).toNat)
  case atStart => exact ⟨0, Nat.zero_le _, rfl, Below.refl _ _⟩
  case round =>
    obtain ⟨k, hk, rfl, hwr⟩ := hrel
    have Hw := Lib.hid hwr
    by_cases hlt : k < n
    · have lx := (hx.below hwr) k hlt
      have ly := (hy.below hwr) k hlt
      obtain ⟨cx, cx'⟩ := lx
      obtain ⟨cy, cy'⟩ := ly
      rw [Nat.zero_add] at cx cx' cy cy'
      have Hs := Lib.hid (hs k hlt)
      have hlt' : (k : Int) < (n : Int) := by omega
      have hk0 : (0 : Int) ≤ (k : Int) := by omega
      clear hwr hs hx hy
      go_wp2_with fail
      obtain ⟨wo, rfl⟩ : ∃ wo : World, wo = wr := ⟨_, rfl⟩
      have hS : wo.cell? ⟨g, k * 2, none⟩ = some (.float .f32 (X k)) ∧ wo.cell? ⟨g, k * 2 + 1, none⟩ = some (.bool (F k)) ∧ wo.cell? ⟨h, k * 2, none⟩ = some (.float .f32 (Y k)) ∧ wo.cell? ⟨h, k * 2 + 1, none⟩ = some (.bool (F k)) ∧ Below w.heap.size w wo := ⟨cx, cx', cy, cy', Hw.out⟩
      clear cx cx' cy cy'
      go_region_held3 (fun w' => w'.cell? ⟨g, k * 2, none⟩ = some (.float .f32 (X k)) ∧ w'.cell? ⟨g, k * 2 + 1, none⟩ = some (.bool (F k)) ∧ w'.cell? ⟨h, k * 2, none⟩ = some (.float .f32 (Y k)) ∧ w'.cell? ⟨h, k * 2 + 1, none⟩ = some (.bool (F k)) ∧ Below w.heap.size w w')
        (first | exact hS | exact life_keepd (by assumption) | exact life_keep (by assumption) hb1)
        (first | (go_at_call 51; refine (eqLife_same _ _ _ _ Hs.out).mono ?_; rintro e w1 ⟨rfl, hb1⟩))
      rename_i hS2
      have Hw2 := Lib.hid hS2.2.2.2.2
      clear hS2 hS Hw
      go_wp2
      go_roundw
      case rel => exact ⟨k + 1, by omega, by go_num, Hw2.out⟩
      case measure => simp [intOf]; omega
    · have hkn : k = n := by omega
      subst hkn
      clear hwr
      go_wp2
      go_ret
      exact ⟨rfl, Hw.out⟩
end Go.Proofs.Ytceckapldohkdaa
