/- Slices of int64 that come in, the laws' copy of one; whether all are within bounds. -/
import Derived.Test.YtmpeogpmlgnmfaaGreatDoorOwn
namespace Go.Proofs.YtmpeogpmlgnmfaaGreatDoor
set_option maxRecDepth 100000
open Go.ChangeShapes Go.WideShapes Go.ChangeAt Go.RowKit Go.Deep Flt

/-- a slice that came in reads as the numbers X -/
def RowI (w : World) (a : Option Addr) (X : Nat → Int) (n : Nat) : Prop := n = 0 ∨ ∃ b off, a = some ⟨b, off, none⟩ ∧ ∀ i, i < n → w.cell? ⟨b, off + i, none⟩ = some (.int .i64 (X i))
def In64 (X : Nat → Int) : Prop := ∀ i, -9223372036854775808 ≤ X i ∧ X i ≤ 9223372036854775807
theorem RowI.below {w w' : World} {a : Option Addr} {X : Nat → Int} {n : Nat} (h : RowI w a X n) (hb : Below w.heap.size w w') : RowI w' a X n := by
  rcases h with h | ⟨b, off, e, hc⟩
  · exact .inl h
  · exact .inr ⟨b, off, e, fun i hi => (hb.cell (World.block_lt_of_cell? w _ (hc i hi))).trans (hc i hi)⟩
theorem skolemI {n : Nat} {p : Nat → Int → Prop} (h : ∀ i, i < n → ∃ x, p i x) : ∃ X : Nat → Int, (∀ i, i < n → p i (X i)) ∧ ∀ i, ¬ i < n → X i = 0 :=
  ⟨fun i => if hi : i < n then (h i hi).choose else 0, fun i hi => by simp only [hi, dif_pos]; exact (h i hi).choose_spec, fun i hi => by simp only [hi, dif_neg, not_false_iff]⟩
theorem cells_i64 : Tryz.prog.cellsOf 2 = 1 := by kernel_rfl
theorem slice_opened2 {H : Type} {enc : TypeId × Value → H} {w : World} {base : Nat} {spare : Nat → Bool} {held : Bool} {a : Option Addr} {n c : Nat} {d : DataW H} {p : List MemPlace}
    (h : DataW.Trod enc Tryz.prog w base spare held 98 (.slice a n c) d p) : n ≤ maxLen ∧ ∃ X, RowI w a X n ∧ In64 X := by
  obtain ⟨fuel, hf⟩ := h
  rcases open_slice Tryz.underlying98 hf with ⟨hcs, _⟩ | ⟨a', len, cap, m, k, D, Pl, hcs, _, hl, hm, hmm, _, hi⟩
  · simp [Value.cells] at hcs
    obtain ⟨rfl, rfl, rfl⟩ := hcs
    exact ⟨by omega, fun _ => 0, .inl rfl, fun i => by simp⟩
  · simp [Value.cells] at hcs
    obtain ⟨rfl, rfl, rfl⟩ := hcs
    have key : ∀ i, i < n → ∃ x : Int, w.cell? (a'.add i) = some (.int .i64 x) ∧ -9223372036854775808 ≤ x ∧ x ≤ 9223372036854775807 := by
      intro i hin
      obtain ⟨cs', hc, ht⟩ := hi i (by rw [hmm]; split <;> omega)
      rw [cells_i64] at hc
      obtain ⟨x, rfl, _, wx⟩ := DataW.trod_int Tryz.underlying2 ht
      have wx' : -9223372036854775808 ≤ x ∧ x ≤ 9223372036854775807 := by
        simp [Lit.wf, IntKind.min, IntKind.max, IntKind.signed, IntKind.bits] at wx
        omega
      refine ⟨x, ?_, wx'⟩
      obtain ⟨_, hlen, hat⟩ := World.cells?_some hc
      have := hat (i := 0) (by simp)
      have e0 : ∀ q : Addr, q.add 0 = q := fun _ => if_pos rfl
      rw [Nat.mul_one, e0] at this
      simpa using this
    obtain ⟨X, hX, hX0⟩ := skolemI key
    refine ⟨by omega, X, ?_, fun i => ?_⟩
    · by_cases hn : n = 0
      · exact .inl hn
      · obtain ⟨b, off, spot⟩ := a'
        have h0 := (hX 0 (by omega)).1
        have hs : spot = none := by simpa [Addr.add] using World.cell?_spot h0
        subst hs
        refine .inr ⟨b, off, rfl, fun i hi => ?_⟩
        have := (hX i hi).1
        rwa [add_plain] at this
    · by_cases hi : i < n
      · exact (hX i hi).2
      · rw [hX0 i hi]; omega

/-- the numbers X in a block of n cells -/
def IRow (w : World) (g : Nat) (X : Nat → Int) (n : Nat) : Prop := w.rowIs g 2 n (fun i => .int .i64 (X i))
theorem IRow.below {w w' : World} {g n : Nat} {X : Nat → Int} (h : IRow w g X n) (hb : Below w.heap.size w w') : IRow w' g X n := row_below h hb
theorem IRow.own {w : World} {g n : Nat} {X : Nat → Int} (h : IRow w g X n) : OwnV w 2 (some ⟨g, 0, none⟩) n (fun i => .int .i64 (X i)) g (g + 1) :=
  .inr ⟨g, n, _, rfl, Nat.le_refl _, Nat.lt_succ_self _, h, Nat.le_refl _, fun _ _ => rfl⟩
theorem info_i64 : (Tryz.prog.info? 2).map (fun i => (i.zero, i.size, i.bytes)) = some (some (.int .i64 0), 1, 8) := by kernel_rfl
def cpyI (X : Nat → Int) (k i : Nat) : Value := if i < k then .int .i64 (X i) else .int .i64 0

/-- a value is within bounds -/
def okV (x : Int) : Prop := inB x (-1000000000000000) 1000000000000000 = true
instance (x : Int) : Decidable (okV x) := by unfold okV; infer_instance
/-- all the first n are values, and there are at most 64 -/
def okL (X : Nat → Int) (n : Nat) : Bool := decide (∀ i, i < n → okV (X i)) && decide (n ≤ 64)
theorem okL_no {X : Nat → Int} {n k : Nat} (hk : k < n) (h : ¬ okV (X k)) : okL X n = false := by
  unfold okL
  rw [Bool.and_eq_false_iff]
  exact .inl (by rw [decide_eq_false_iff_not]; exact fun hh => h (hh k hk))
theorem okL_yes {X : Nat → Int} {n : Nat} (h : ∀ i, i < n → okV (X i)) : okL X n = decide ((n : Int) ≤ 64) := by
  unfold okL
  rw [decide_eq_true h, Bool.true_and]
  exact decide_eq_decide.2 (by omega)
end Go.Proofs.YtmpeogpmlgnmfaaGreatDoor
