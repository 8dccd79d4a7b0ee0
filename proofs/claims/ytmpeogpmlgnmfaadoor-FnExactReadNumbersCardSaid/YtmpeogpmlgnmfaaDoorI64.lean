/- Slices of int64 that come in, the laws' copy of one; whether all are within bounds. -/
import Derived.Test.YtmpeogpmlgnmfaaDoorOwn
namespace Go.Proofs.YtmpeogpmlgnmfaaDoor
open Go.ChangeShapes Go.WideShapes Go.ChangeAt Go.RowKit Go.Deep Flt

/-- a slice that came in reads as the numbers X -/
def RowI (w : World) (a : Option Addr) (X : Nat → Int) (n : Nat) : Prop := n = 0 ∨ ∃ b off, a = some ⟨b, off, none⟩ ∧ ∀ i, i < n → w.cell? ⟨b, off + i, none⟩ = some (.int .i64 (X i))
def In64 (X : Nat → Int) : Prop := ∀ i, -9223372036854775808 ≤ X i ∧ X i ≤ 9223372036854775807
theorem RowI.below {w w' : World} {a : Option Addr} {X : Nat → Int} {n : Nat} (h : RowI w a X n) (hb : Below w.heap.size w w') : RowI w' a X n := by
  rcases h with h | ⟨b, off, e, hc⟩
  · exact .inl h
  · exact .inr ⟨b, off, e, fun i hi => (hb.cell (World.block_lt_of_cell? w _ (hc i hi))).trans (hc i hi)⟩
theorem skolemI {n : Nat} {p : Nat → Int → Prop} (h : ∀ i, i < n → ∃ x, p i x) : ∃ X : Nat → Int, (∀ i, i < n → p i (X i)) ∧ ∀ i, ¬ i < n → X i = 0 :=
  ⟨fun i => if hi : i < n then (h i hi).choose else 0, fun i hi => by simp only [hi, dif_pos]; exact (h i hi).choose_spec, fun i hi => by simp only [hi, dif_neg, not_false_iff]⟩
theorem cells_i64 : Tryd.prog.cellsOf 2 = 1 := by kernel_rfl
theorem slice_opened2 {H : Type} {enc : TypeId × Value → H} {w : World} {base : Nat} {spare : Nat → Bool} {held : Bool} {a : Option Addr} {n c : Nat} {d : DataW H} {p : List MemPlace}
    (h : DataW.Trod enc Tryd.prog w base spare held 24 (.slice a n c) d p) : n ≤ maxLen ∧ ∃ X, RowI w a X n ∧ In64 X := by
  obtain ⟨fuel, hf⟩ := h
  rcases open_slice Tryd.underlying24 hf with ⟨hcs, _⟩ | ⟨a', len, cap, m, k, D, Pl, hcs, _, hl, hm, hmm, _, hi⟩
  · simp [Value.cells] at hcs
    obtain ⟨rfl, rfl, rfl⟩ := hcs
    exact ⟨by omega, fun _ => 0, .inl rfl, fun i => by simp⟩
  · simp [Value.cells] at hcs
    obtain ⟨rfl, rfl, rfl⟩ := hcs
    have key : ∀ i, i < n → ∃ x : Int, w.cell? (a'.add i) = some (.int .i64 x) ∧ -9223372036854775808 ≤ x ∧ x ≤ 9223372036854775807 := by
      intro i hin
      obtain ⟨cs', hc, ht⟩ := hi i (by rw [hmm]; split <;> omega)
      rw [cells_i64] at hc
      obtain ⟨x, rfl, _, wx⟩ := DataW.trod_int Tryd.underlying2 ht
      have wx' : -9223372036854775808 ≤ x ∧ x ≤ 9223372036854775807 := by
        simp [Lit.wf, IntKind.min, IntKind.max, IntKind.signed, IntKind.bits] at wx
        omega
      refine ⟨x, ?_, wx'⟩
      obtain ⟨_, hlen, hat⟩ := World.cells?_some hc
      have := hat (i := 0) (by simp)
      have e0 : ∀ q : Addr, q.add 0 = q := fun _ => if_pos rfl
      rw [Nat.mul_one, e0] at this
      simpa using this
    obtain ⟨X, hX, hX0⟩ := skolemI key
    refine ⟨by omega, X, ?_, fun i => ?_⟩
    · by_cases hn : n = 0
      · exact .inl hn
      · obtain ⟨b, off, spot⟩ := a'
        have h0 := (hX 0 (by omega)).1
        have hs : spot = none := by simpa [Addr.add] using World.cell?_spot h0
        subst hs
        refine .inr ⟨b, off, rfl, fun i hi => ?_⟩
        have := (hX i hi).1
        rwa [add_plain] at this
    · by_cases hi : i < n
      · exact (hX i hi).2
      · rw [hX0 i hi]; omega

/-- the numbers X in a block of n cells -/
def IRow (w : World) (g : Nat) (X : Nat → Int) (n : Nat) : Prop := w.rowIs g 2 n (fun i => .int .i64 (X i))
theorem IRow.below {w w' : World} {g n : Nat} {X : Nat → Int} (h : IRow w g X n) (hb : Below w.heap.size w w') : IRow w' g X n := row_below h hb
theorem IRow.own {w : World} {g n : Nat} {X : Nat → Int} (h : IRow w g X n) : OwnV w 2 (some ⟨g, 0, none⟩) n (fun i => .int .i64 (X i)) g (g + 1) :=
  .inr ⟨g, n, _, rfl, Nat.le_refl _, Nat.lt_succ_self _, h, Nat.le_refl _, fun _ _ => rfl⟩
theorem info_i64 : (Tryd.prog.info? 2).map (fun i => (i.zero, i.size, i.bytes)) = some (some (.int .i64 0), 1, 8) := by kernel_rfl
def cpyI (X : Nat → Int) (k i : Nat) : Value := if i < k then .int .i64 (X i) else .int .i64 0
set_option maxHeartbeats 400000 in
theorem toI64_any (a : Option Addr) (X : Nat → Int) (n c : Nat) (w : World) (hr : RowI w a X n) (hn : n ≤ 1048576) :
    Calls Tryd.prog 13 #[.slice a n c] w fun e w' => e = .returned (.slice (some ⟨w.heap.size, 0, none⟩) n n) ∧ IRow w' w.heap.size X n ∧ Below w.heap.size w w' := by
  have hmk := run_make_row' (P := Tryd.prog) 24 2 (.int .i64 0) 8 Tryd.underlying24 info_i64 rfl .i64 .i64 n (by omega) (by omega)
  have hm0 := World.rowIs_made w (.int .i64 0) n 2
  go_enter Tryd.func13, Tryd.ntmps13
  go_wp2
  generalize hwb : w.alloc (.cells (madeCells #[.int .i64 0] n) 2) = wb at *
  go_loopw [4] (fun i wr => ∃ k : Nat, k ≤ n ∧ i = .int .i64 k ∧ wr.rowIs w.heap.size 2 n (cpyI X k) ∧ Below w.heap.size w wr) (fun i _ => n - (intOf i).toNat)
  case atStart =>
    subst hwb
    exact ⟨0, Nat.zero_le _, rfl, hm0.congr (fun i _ => by simp [cpyI]), (Below.refl _ _).alloc (Nat.le_refl _) _⟩
  case round =>
    obtain ⟨k, hk, rfl, hrow, hbel⟩ := hrel
    clear hmk hm0 hwb
    by_cases hlt : k < n
    · rcases hr with hr | ⟨b, off, rfl, hc⟩
      · omega
      have hck := hc k hlt
      have hbl : b < w.heap.size := World.block_lt_of_cell? w _ hck
      have cx : wr.cell? ⟨b, off + k, none⟩ = some (.int .i64 (X k)) := (hbel.cell (p := ⟨b, off + k, none⟩) hbl).trans hck
      have cg : wr.cell? ⟨w.heap.size, k, none⟩ = some (cpyI X k k) := hrow.cell hlt
      have fg : wr.frozen? ⟨w.heap.size, k, none⟩ = false := hrow.frozen k
      have hlt' : (k : Int) < (n : Int) := by omega
      have hset := hrow.set k (.int .i64 (X k))
      have Hs := Lib.hid hset
      have Hb := Lib.hid hbel
      clear hset hbel hrow hck hc
      go_wp2
      go_roundw
      case rel => exact ⟨k + 1, by omega, by go_num, Hs.out.congr (fun j _ => by unfold cpyI; by_cases h1 : j = k <;> by_cases h2 : j < k <;> simp [h1, h2, show j < k + 1 ↔ j ≤ k by omega] <;> omega), Hb.out.setCell (Nat.le_refl _) _⟩
      case measure => simp [intOf]; omega
    · have hkn : k = n := by omega
      subst hkn
      have Hs := Lib.hid hrow
      have Hb := Lib.hid hbel
      clear hrow hbel
      go_wp2
      go_ret
      exact ⟨rfl, Hs.out.congr (fun j hj => by simp [cpyI, hj]), Hb.out⟩

/-- a value is within bounds -/
def okV (x : Int) : Prop := inB x (-1000000000000000) 1000000000000000 = true
instance (x : Int) : Decidable (okV x) := by unfold okV; infer_instance
theorem isValue_any (x : Int) (w : World) :
    Calls Tryd.prog 48 #[.int .i64 x] w fun e w' => e = .returned (.bool (inB x (-1000000000000000) 1000000000000000)) ∧ w = w' := by
  go_enter Tryd.func48, Tryd.ntmps48
  go_wp2_with (first | (go_at_call 65; refine (within_any _ _ _ _).mono ?_; rintro e w' ⟨rfl, rfl⟩))
  go_ret
  exact ⟨rfl, rfl⟩
/-- all the first n are values, and there are at most 64 -/
def okL (X : Nat → Int) (n : Nat) : Bool := decide (∀ i, i < n → okV (X i)) && decide (n ≤ 64)
theorem okL_no {X : Nat → Int} {n k : Nat} (hk : k < n) (h : ¬ okV (X k)) : okL X n = false := by
  unfold okL
  rw [Bool.and_eq_false_iff]
  exact .inl (by rw [decide_eq_false_iff_not]; exact fun hh => h (hh k hk))
theorem okL_yes {X : Nat → Int} {n : Nat} (h : ∀ i, i < n → okV (X i)) : okL X n = decide ((n : Int) ≤ 64) := by
  unfold okL
  rw [decide_eq_true h, Bool.true_and]
  exact decide_eq_decide.2 (by omega)
set_option maxHeartbeats 400000 in
theorem areValues_any (g : Nat) (X : Nat → Int) (n c : Nat) (w : World) (h : IRow w g X n) (hn : n ≤ 1048576) :
    Calls Tryd.prog 39 #[.slice (some ⟨g, 0, none⟩) n c] w fun e w' => e = .returned (.bool (okL X n)) ∧ w = w' := by
  have HR := Lib.hid h
  clear h
  go_enter Tryd.func39, Tryd.ntmps39
  go_wp2
  go_loopw [7] (fun ti wx => ∃ j : Nat, j ≤ n ∧ ti = .int .i64 j ∧ (∀ i, i < j → okV (X i)) ∧ wx = w) (fun ti _ => n - (intOf ti).toNat)
  case atStart => exact ⟨0, Nat.zero_le _, rfl, fun i hi => by omega, rfl⟩
  case round =>
    obtain ⟨j, hj, rfl, hok, rfl⟩ := hrel
    have HK := Lib.hid hok
    clear hok
    by_cases hlt : j < n
    · have hlt' : (j : Int) < (n : Int) := by omega
      have cj := HR.out.cell (i := j) hlt
      by_cases ho : okV (X j)
      · have hd : inB (X j) (-1000000000000000) 1000000000000000 = true := ho
        go_wp2_with (first | (go_at_call 48; refine (isValue_any _ _).mono ?_; rw [hd]; rintro e w' ⟨rfl, rfl⟩))
        go_roundw
        case rel => exact ⟨j + 1, by omega, by go_num, fun i hi => by by_cases e : i = j; (· subst e; exact ho); (· exact HK.out i (by omega)), by first | rfl | trivial⟩
        case measure => simp [intOf]; omega
      · have hd : inB (X j) (-1000000000000000) 1000000000000000 = false := Bool.eq_false_iff.2 ho
        go_wp2_with (first | (go_at_call 48; refine (isValue_any _ _).mono ?_; rw [hd]; rintro e w' ⟨rfl, rfl⟩))
        go_ret
        exact ⟨by rw [okL_no hlt ho]; rfl, rfl⟩
    · obtain rfl : j = n := by omega
      have HE := Lib.hid (okL_yes HK.out)
      go_wp2
      go_ret
      exact ⟨by rw [HE.out]; rfl, rfl⟩
set_option maxHeartbeats 400000 in
theorem l01List_any (g : Nat) (X : Nat → Int) (n c : Nat) (w : World) (h : IRow w g X n) (hn : n ≤ 1048576) :
    Calls Tryd.prog 37 #[.slice (some ⟨g, 0, none⟩) n c] w fun e w' => e = .returned (.bool (okL X n)) ∧ w = w' := by
  have HR := Lib.hid h
  clear h
  go_enter Tryd.func37, Tryd.ntmps37
  go_wp2
  go_loopw [3] (fun ti wx => ∃ j : Nat, j ≤ n ∧ ti = .int .i64 j ∧ (∀ i, i < j → okV (X i)) ∧ wx = w) (fun ti _ => n - (intOf ti).toNat)
  case atStart => exact ⟨0, Nat.zero_le _, rfl, fun i hi => by omega, rfl⟩
  case round =>
    obtain ⟨j, hj, rfl, hok, rfl⟩ := hrel
    have HK := Lib.hid hok
    clear hok
    by_cases hlt : j < n
    · have hlt' : (j : Int) < (n : Int) := by omega
      have cj := HR.out.cell (i := j) hlt
      by_cases ho : okV (X j)
      · have hd : inB (X j) (-1000000000000000) 1000000000000000 = true := ho
        go_wp2_with (first | (go_at_call 58; refine (l00In_any _ _ _ _).mono ?_; rw [hd]; rintro e w' ⟨rfl, rfl⟩))
        go_roundw
        case rel => exact ⟨j + 1, by omega, by go_num, fun i hi => by by_cases e : i = j; (· subst e; exact ho); (· exact HK.out i (by omega)), by first | rfl | trivial⟩
        case measure => simp [intOf]; omega
      · have hd : inB (X j) (-1000000000000000) 1000000000000000 = false := Bool.eq_false_iff.2 ho
        go_wp2_with (first | (go_at_call 58; refine (l00In_any _ _ _ _).mono ?_; rw [hd]; rintro e w' ⟨rfl, rfl⟩))
        go_ret
        exact ⟨by rw [okL_no hlt ho]; rfl, rfl⟩
    · obtain rfl : j = n := by omega
      have HE := Lib.hid (okL_yes HK.out)
      go_wp2
      go_ret
      exact ⟨by rw [HE.out]; rfl, rfl⟩
end Go.Proofs.YtmpeogpmlgnmfaaDoor
