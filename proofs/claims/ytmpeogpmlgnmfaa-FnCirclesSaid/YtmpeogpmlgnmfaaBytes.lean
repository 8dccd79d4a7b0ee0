/- Slices of bytes that came in, and the laws' own choices among them. -/
import Derived.Test.YtmpeogpmlgnmfaaCells
import Derived.LoopTactic
namespace Go.Proofs.Ytmpeogpmlgnmfaa
open Go.ChangeShapes Go.WideShapes Go.ChangeAt Go.RowKit Go.Deep Flt

/-- a slice of bytes that came in reads as the numbers B -/
def RowB (w : World) (a : Option Addr) (B : Nat → Nat) (n : Nat) : Prop := n = 0 ∨ ∃ b off, a = some ⟨b, off, none⟩ ∧ ∀ i, i < n → w.cell? ⟨b, off + i, none⟩ = some (.int .u8 (B i : Int))
theorem RowB.below {w w' : World} {a : Option Addr} {B : Nat → Nat} {n : Nat} (h : RowB w a B n) (hb : Below w.heap.size w w') : RowB w' a B n := by
  rcases h with h | ⟨b, off, e, hc⟩
  · exact .inl h
  · exact .inr ⟨b, off, e, fun i hi => (hb.cell (World.block_lt_of_cell? w _ (hc i hi))).trans (hc i hi)⟩
theorem RowB.drew {w w' : World} {a : Option Addr} {B : Nat → Nat} {n : Nat} (h : RowB w a B n) (hb : Drew w w') : RowB w' a B n := h.below hb.below
def Lt8 (B : Nat → Nat) (n : Nat) : Prop := ∀ i, i < n → B i < 256
theorem trod_u8 {H : Type} {enc : TypeId × Value → H} {P : Program} {w : World} {base : Nat} {spare : Nat → Bool} {held : Bool} {fuel : Nat} {t : TypeId} {cs : List Value} {x : DataW H × List MemPlace}
    (ht : P.underlying t = some (.int .u8)) (h : DataW.trod enc P w base spare held fuel t cs = some x) : ∃ b : Nat, cs = [.int .u8 (b : Int)] ∧ b < 256 := by
  obtain ⟨k, e, _, wk⟩ := DataW.trod_int ht h
  have hk : 0 ≤ k ∧ k < 256 := by
    have h := wk
    simp [Lit.wf, IntKind.min, IntKind.max, IntKind.signed, IntKind.bits] at h
    omega
  exact ⟨k.toNat, by rw [e, Int.toNat_of_nonneg hk.1], by omega⟩
theorem cells_u8 : Try.prog.cellsOf 5 = 1 := by kernel_rfl
theorem slice_opened5 {H : Type} {enc : TypeId × Value → H} {w : World} {base : Nat} {spare : Nat → Bool} {held : Bool} {a : Option Addr} {n c : Nat} {d : DataW H} {p : List MemPlace}
    (h : DataW.Trod enc Try.prog w base spare held 22 (.slice a n c) d p) : n ≤ maxLen ∧ ∃ X, RowB w a X n ∧ Lt8 X n := by
  obtain ⟨fuel, hf⟩ := h
  rcases open_slice Try.underlying22 hf with ⟨hcs, _⟩ | ⟨a', len, cap, m, k, D, Pl, hcs, _, hl, hm, hmm, _, hi⟩
  · simp [Value.cells] at hcs
    obtain ⟨rfl, rfl, rfl⟩ := hcs
    exact ⟨by omega, fun _ => 0, .inl rfl, fun i hi => by omega⟩
  · simp [Value.cells] at hcs
    obtain ⟨rfl, rfl, rfl⟩ := hcs
    have key : ∀ i, i < n → ∃ x : Nat, w.cell? (a'.add i) = some (.int .u8 (x : Int)) ∧ x < 256 := by
      intro i hin
      obtain ⟨cs', hc, ht⟩ := hi i (by rw [hmm]; split <;> omega)
      rw [cells_u8] at hc
      obtain ⟨x, rfl, wx⟩ := trod_u8 Try.underlying5 ht
      refine ⟨x, ?_, wx⟩
      obtain ⟨_, hlen, hat⟩ := World.cells?_some hc
      have := hat (i := 0) (by simp)
      have e0 : ∀ q : Addr, q.add 0 = q := fun _ => if_pos rfl
      rw [Nat.mul_one, e0] at this
      simpa using this
    obtain ⟨X, hX⟩ := skolem key
    refine ⟨by omega, X, ?_, fun i hi => (hX i hi).2⟩
    by_cases hn : n = 0
    · exact .inl hn
    · obtain ⟨b, off, spot⟩ := a'
      have h0 := (hX 0 (by omega)).1
      have hs : spot = none := by simpa [Addr.add] using World.cell?_spot h0
      subst hs
      refine .inr ⟨b, off, rfl, fun i hin => ?_⟩
      have hh := (hX i hin).1
      rwa [add_plain] at hh
theorem b10Long_any (a : Option Addr) (n c : Nat) (b : Option Addr) (m d : Nat) (w : World) :
    Calls Try.prog 5 #[.slice a n c, .slice b m d] w fun e w' => e = .returned (.bool (decide ((n : Int) > 1048576) || decide ((m : Int) > 1048576))) ∧ w = w' := by
  by_cases h : (n : Int) > 1048576
  · go_enter Try.func5, Try.ntmps5
    go_wp2
    go_ret
    exact ⟨by rw [decide_eq_true h]; rfl, rfl⟩
  · have hd : decide ((n : Int) > 1048576) = false := by simpa using h
    go_enter Try.func5, Try.ntmps5
    go_wp2
    go_ret
    exact ⟨rfl, rfl⟩
/-- a choice: a number below n -/
theorem b10At_any (a : Option Addr) (B : Nat → Nat) (len c : Nat) (i n : Int) (w : World) (hr : RowB w a B len) (hB : Lt8 B len) (hi : 0 ≤ i) (hi2 : i ≤ 1000) (hn : 1 < n) (hn2 : n ≤ 1000) :
    Calls Try.prog 6 #[.slice a len c, .int .i64 i, .int .i64 n] w fun e w' => ∃ k : Nat, (k : Int) < n ∧ e = .returned (.int .i64 (k : Int)) ∧ w = w' := by
  obtain ⟨j, rfl⟩ : ∃ j : Nat, i = (j : Int) := ⟨i.toNat, by omega⟩
  obtain ⟨m, rfl⟩ : ∃ m : Nat, n = (m : Int) := ⟨n.toNat, by omega⟩
  by_cases h : (j : Int) < (len : Int)
  · rcases hr with hr | ⟨b, off, rfl, hc⟩
    · omega
    have cx := hc j (by omega)
    have hb := hB j (by omega)
    clear hc hB
    have key : ∃ k : Nat, (k : Int) < (m : Int) ∧ ((B j : Int) % (m : Int)) = (k : Int) := ⟨B j % m, by have := Nat.mod_lt (B j) (show 0 < m by omega); omega, by rw [Int.natCast_emod]⟩
    have HK := Lib.hid key
    clear key
    have hm0 : ¬ (m : Int) ≤ 1 := by omega
    go_enter Try.func6, Try.ntmps6
    go_wp2
    go_ret
    obtain ⟨k, hk, e⟩ := HK.out
    exact ⟨k, by omega, congrArg (fun x => Ending.returned (.int .i64 x)) e, rfl⟩
  · have hlt : decide ((j : Int) < (len : Int)) = false := by simpa using h
    have key : ∃ k : Nat, (k : Int) < (m : Int) ∧ (((j : Int) * 37 + 11) % (m : Int)) = (k : Int) := ⟨(j * 37 + 11) % m, by have := Nat.mod_lt (j * 37 + 11) (show 0 < m by omega); omega, by rw [Int.natCast_emod]; congr 1⟩
    have HK := Lib.hid key
    clear key hr hB
    go_enter Try.func6, Try.ntmps6
    go_wp2
    go_ret
    obtain ⟨k, hk, e⟩ := HK.out
    exact ⟨k, by omega, congrArg (fun x => Ending.returned (.int .i64 x)) e, rfl⟩
end Go.Proofs.Ytmpeogpmlgnmfaa
