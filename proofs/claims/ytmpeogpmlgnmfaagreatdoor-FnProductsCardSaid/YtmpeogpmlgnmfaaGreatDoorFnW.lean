/- Plain laws: a number widened and narrowed; a flushed number; the text of numbers read back. -/
import Derived.Test.YtmpeogpmlgnmfaaGreatDoorHxI
import Derived.Test.YtmpeogpmlgnmfaaGreatDoorSrcF
import Derived.Test.YtmpeogpmlgnmfaaGreatDoorSinI
import Derived.Test.YtmpeogpmlgnmfaaGreatDoorAngX
import Derived.Test.YtmpeogpmlgnmfaaGreatDoorSum
import Derived.Test.YtmpeogpmlgnmfaaGreatDoorShap
namespace Go.Proofs.YtmpeogpmlgnmfaaGreatDoor
set_option maxRecDepth 100000
open Flt Go.RowKit

theorem rval_form {f : Ieee.Format} (r : Nat) : ∃ K l, K < 2 * f.binade ∧ rval f r = K * 2 ^ l := by
  unfold rval
  by_cases h : r < f.binade
  · exact ⟨r, 0, by omega, by rw [if_pos h]; simp⟩
  · refine ⟨f.binade + r % f.binade, r / f.binade - 1, ?_, by rw [if_neg h]⟩
    have := Nat.mod_lt r (binade_pos (f := f))
    omega
theorem wide_back_rung {b : Nat} (h : rung FloatKind.f32.format b < FloatKind.f32.format.infRung) :
    rungOf FloatKind.f32.format (rval FloatKind.f64.format (rung FloatKind.f64.format (conv .f32 .f64 b))) FloatKind.f64.format.leastPlace = rung FloatKind.f32.format b := by
  obtain ⟨K, l, hK, hv⟩ := rval_form (f := FloatKind.f32.format) (rung FloatKind.f32.format b)
  have hr := rungOf_rval (f := FloatKind.f32.format) (Nat.le_of_lt h)
  rw [hv] at hr
  have hc := conv_rung (s := .f32) (k := .f64) h
  have hfin := noOver_widen b h
  rw [← hc] at hfin
  rw [hv] at hc
  have e1 : rungOf FloatKind.f64.format (K * 2 ^ l) FloatKind.f32.format.leastPlace = rungOf FloatKind.f64.format K (FloatKind.f32.format.leastPlace + l) := by
    have := rungOf_scale (f := FloatKind.f64.format) K l (FloatKind.f32.format.leastPlace + l)
    rw [show FloatKind.f32.format.leastPlace + (l : Int) - l = FloatKind.f32.format.leastPlace by omega] at this
    exact this
  have e2 : rungOf FloatKind.f32.format (K * 2 ^ l) FloatKind.f32.format.leastPlace = rungOf FloatKind.f32.format K (FloatKind.f32.format.leastPlace + l) := by
    have := rungOf_scale (f := FloatKind.f32.format) K l (FloatKind.f32.format.leastPlace + l)
    rw [show FloatKind.f32.format.leastPlace + (l : Int) - l = FloatKind.f32.format.leastPlace by omega] at this
    exact this
  rw [e1] at hc
  rw [e2] at hr
  have h32 : FloatKind.f32.format.leastPlace = -149 := by decide
  have h64 : FloatKind.f64.format.leastPlace = -1074 := by decide
  have hb : 2 * FloatKind.f32.format.binade ≤ 2 * FloatKind.f64.format.binade := by decide +kernel
  have hx := rval_exact (f := FloatKind.f64.format) (m := K) (p := FloatKind.f32.format.leastPlace + l) (by omega) (by omega) (by rw [← hc]; exact hfin)
  rw [hc, hx]
  have e3 := rungOf_scale (f := FloatKind.f32.format) K ((FloatKind.f32.format.leastPlace + (l : Int) - FloatKind.f64.format.leastPlace).toNat) (FloatKind.f32.format.leastPlace + l)
  rw [show FloatKind.f32.format.leastPlace + (l : Int) - (((FloatKind.f32.format.leastPlace + (l : Int) - FloatKind.f64.format.leastPlace).toNat : Nat) : Int) = FloatKind.f64.format.leastPlace by omega] at e3
  rw [e3]
  exact hr
theorem wide_noOver (b : Nat) (h : rung FloatKind.f32.format b ≤ FloatKind.f32.format.infRung) : NoOver .f64 .f32 (conv .f32 .f64 b) := by
  intro h1
  rcases Nat.lt_or_eq_of_le h with h2 | h2
  · rw [wide_back_rung h2]; exact h2
  · have := conv_inf (s := .f32) (k := .f64) h2
    omega
theorem wide_back {b : Nat} (hb : b < 4294967296) (h : rung FloatKind.f32.format b ≤ FloatKind.f32.format.infRung) : conv .f64 .f32 (conv .f32 .f64 b) = b := by
  have hr : rung FloatKind.f32.format (conv .f64 .f32 (conv .f32 .f64 b)) = rung FloatKind.f32.format b := by
    rcases Nat.lt_or_eq_of_le h with h2 | h2
    · have hfin := noOver_widen b h2
      have hc := conv_rung (s := .f32) (k := .f64) h2
      rw [← hc] at hfin
      rw [conv_rung hfin]
      exact wide_back_rung h2
    · rw [h2]
      exact conv_inf (conv_inf h2)
  have hs : sgn FloatKind.f32.format (conv .f64 .f32 (conv .f32 .f64 b)) = sgn FloatKind.f32.format b := by
    rw [conv_sgn (conv_nn h), conv_sgn h]
  have e1 := word_of (f := FloatKind.f32.format) (b := b) hb
  have e2 := word_of (f := FloatKind.f32.format) (b := conv .f64 .f32 (conv .f32 .f64 b)) (conv_lt _ _ _)
  rw [hr, hs, e1] at e2
  exact e2.symm
theorem narrow_wide {b : Nat} (hb : b < 4294967296) : fconv .f64 .f32 (fconv .f32 .f64 (cls .f32 b)) = cls .f32 b := by
  rcases cls_cases .f32 b with ⟨hc, _⟩ | ⟨hc, h1⟩ <;> rw [hc]
  · rfl
  · show some (conv .f64 .f32 (conv .f32 .f64 b)) = some b
    rw [wide_back hb h1]
theorem narrow_noOver (b : Nat) (τ : Tp .f64) : NoOver .f64 .f32 (rep .f64 (fconv .f32 .f64 (cls .f32 b)) τ) := by
  rcases cls_cases .f32 b with ⟨hc, _⟩ | ⟨hc, h1⟩ <;> rw [hc]
  · intro h
    have hτ := τ.2.1
    have : rep .f64 (fconv .f32 .f64 none) τ = τ.1 := rfl
    rw [this] at h
    omega
  · exact wide_noOver b h1
theorem sameB_of {a b : Option Nat} (h : a = b) : sameB a b = true := by unfold sameB; rw [h]; simp
/-- a flushed number is not subnormal -/
theorem flush_no (b : Nat) : (nzB (flushC (cls .f32 b)) && lowB (flushC (cls .f32 b))) = false := by
  rcases cls_cases .f32 b with ⟨hc, _⟩ | ⟨hc, h1⟩ <;> rw [hc]
  · rfl
  · by_cases hl : b % 2147483648 < 8388608
    · have e : flushC (some b) = some (b / 2147483648 * 2147483648) := by simp [flushC, hl]
      rw [e]
      have hz : nzB (some (b / 2147483648 * 2147483648)) = false := by
        have hr : rung FloatKind.f32.format (b / 2147483648 * 2147483648) = 0 := by rw [rung32]; omega
        have hs0 : srung FloatKind.f32.format (b / 2147483648 * 2147483648) = 0 := by unfold srung; rw [hr]; split <;> rfl
        have hc0 : cls .f32 0 = some 0 := by decide +kernel
        unfold nzB
        rw [hc0, ford_some (by rw [hr]; exact Nat.zero_le _) (by decide +kernel), hs0]
        decide +kernel
      rw [hz]
      rfl
    · have e : flushC (some b) = some b := by simp [flushC, hl]
      rw [e]
      have hlow : lowB (some b) = false := by unfold lowB; exact decide_eq_false hl
      rw [hlow, Bool.and_false]
/-- a subnormal number is not what it is flushed to, another is -/
theorem flush_ne (b : Nat) : ((nzB (cls .f32 b) && lowB (cls .f32 b)) == sameB (cls .f32 b) (flushC (cls .f32 b))) = false := by
  cases hs : (nzB (cls .f32 b) && lowB (cls .f32 b))
  · rw [sameB_of (flush_not hs)]
    rfl
  · have hne : sameB (cls .f32 b) (flushC (cls .f32 b)) = false := by
      rcases cls_cases .f32 b with ⟨hc, _⟩ | ⟨hc, h1⟩
      · rw [hc] at hs; simp [lowB] at hs
      · rw [hc] at hs ⊢
        simp only [Bool.and_eq_true] at hs
        have hl : b % 2147483648 < 8388608 := by
          have := hs.2
          unfold lowB at this
          simpa using this
        have e : flushC (some b) = some (b / 2147483648 * 2147483648) := by simp [flushC, hl]
        rw [e]
        unfold sameB
        rw [decide_eq_false_iff_not]
        intro e2
        have e3 : b = b / 2147483648 * 2147483648 := Option.some.inj e2
        have hr : rung FloatKind.f32.format b = 0 := by rw [rung32]; omega
        have hs0 : srung FloatKind.f32.format b = 0 := by unfold srung; rw [hr]; split <;> rfl
        have hc0 : cls .f32 0 = some 0 := by decide +kernel
        have hz := hs.1
        unfold nzB at hz
        rw [hc0, ford_some (by rw [hr]; exact Nat.zero_le _) (by decide +kernel), hs0] at hz
        revert hz
        decide +kernel
    rw [hne]
    rfl
/-- the text of numbers is read back -/
theorem text_back (f : Nat → Nat) (N : Nat) (hN : N ≤ 256) (h32 : ∀ i, f i < 4294967296) :
    nrOk (joinT (hxX f) N) = true ∧ nrN (joinT (hxX f) N) = N ∧ ∀ i, i < N → nrV (joinT (hxX f) N) i = bitsN (f i) := by
  have hp : nPt (joinT (hxX f) N) = N ∧ ∀ i, i < N → pt (joinT (hxX f) N) i = hxX f i := by
    by_cases h0 : N = 0
    · subst h0
      exact ⟨rfl, fun i hi => by omega⟩
    · have hne : txts (hxX f) N ≠ [] := by
        intro e
        have := congrArg List.length e
        simp [txts] at this
        exact h0 this
      have hcut : cutL (joinT (hxX f) N) = txts (hxX f) N := by
        unfold joinT
        rw [if_neg h0]
        refine cutL_join _ hne fun p hp c hc => ?_
        unfold txts at hp
        obtain ⟨i, _, rfl⟩ := List.mem_map.1 hp
        exact hexN_ne 8 _ c hc
      have hnn : ¬ joinT (hxX f) N = [110, 111, 110, 101] := by
        intro e
        rw [e, cutL_end _ (by decide)] at hcut
        have hm : hxX f 0 ∈ txts (hxX f) N := by
          unfold txts
          exact List.mem_map.2 ⟨0, by simp; omega, rfl⟩
        rw [← hcut] at hm
        have h8 := hxX_len f 0
        rw [List.mem_singleton.1 hm] at h8
        exact absurd h8 (by decide)
      have hpts : ptsL (joinT (hxX f) N) = txts (hxX f) N := by unfold ptsL; rw [if_neg hnn, hcut]
      refine ⟨by unfold nPt; rw [hpts]; simp [txts], fun i hi => ?_⟩
      unfold pt
      rw [hpts]
      simp [txts, List.getD, hi]
  obtain ⟨h1, h2⟩ := hp
  have hr : ∀ i, i < N → rn (pt (joinT (hxX f) N) i) = some (bitsN (f i)) := fun i hi => by
    rw [h2 i hi]
    exact rn_hx (h32 i)
  have hok : nrOk (joinT (hxX f) N) = true := nrOk_yes (fun i hi => by rw [hr i (by omega)]; rfl) (by omega)
  exact ⟨hok, by rw [nrN_yes hok, h1], fun i hi => by unfold nrV; rw [hr i hi]; rfl⟩
end Go.Proofs.YtmpeogpmlgnmfaaGreatDoor
/- Contracts that the great laws want besides. -/
namespace Go.Proofs.YtmpeogpmlgnmfaaGreatDoor
set_option maxRecDepth 100000
open Go.ChangeShapes Go.WideShapes Go.ChangeAt Go.RowKit Go.Deep Flt

/-- bytes that came in -/
def RowB (w : World) (a : Option Addr) (X : Nat → Nat) (n : Nat) : Prop := (n = 0 ∨ ∃ b off, a = some ⟨b, off, none⟩ ∧ ∀ i, i < n → w.cell? ⟨b, off + i, none⟩ = some (.int .u8 (X i))) ∧ ∀ i, X i < 256
theorem RowB.below {w w' : World} {a : Option Addr} {X : Nat → Nat} {n : Nat} (h : RowB w a X n) (hb : Below w.heap.size w w') : RowB w' a X n := by
  obtain ⟨h | ⟨b, off, e, hc⟩, hX⟩ := h
  · exact ⟨.inl h, hX⟩
  · exact ⟨.inr ⟨b, off, e, fun i hi => (hb.cell (World.block_lt_of_cell? w _ (hc i hi))).trans (hc i hi)⟩, hX⟩
theorem RowB.code {w : World} {a : Option Addr} {X : Nat → Nat} {n : Nat} (h : RowB w a X n) : CodeB w a n w.heap.size := by
  obtain ⟨h | ⟨b, off, e, hc⟩, hX⟩ := h
  · exact .inl h
  · by_cases h0 : n = 0
    · exact .inl h0
    · exact .inr ⟨b, off, X, e, World.block_lt_of_cell? w _ (hc 0 (by omega)), fun i hi => ⟨hX i, hc i hi⟩⟩
theorem cells_u8 : Tryz.prog.cellsOf 5 = 1 := by kernel_rfl
theorem slice_opened5 {H : Type} {enc : TypeId × Value → H} {w : World} {base : Nat} {spare : Nat → Bool} {held : Bool} {a : Option Addr} {n c : Nat} {d : DataW H} {p : List MemPlace}
    (h : DataW.Trod enc Tryz.prog w base spare held 22 (.slice a n c) d p) : n ≤ maxLen ∧ ∃ X, RowB w a X n := by
  obtain ⟨fuel, hf⟩ := h
  rcases open_slice Tryz.underlying22 hf with ⟨hcs, _⟩ | ⟨a', len, cap, m, k, D, Pl, hcs, _, hl, hm, hmm, _, hi⟩
  · simp [Value.cells] at hcs
    obtain ⟨rfl, rfl, rfl⟩ := hcs
    exact ⟨by omega, fun _ => 0, .inl rfl, fun i => (by show (0 : Nat) < 256; decide)⟩
  · simp [Value.cells] at hcs
    obtain ⟨rfl, rfl, rfl⟩ := hcs
    have key : ∀ i, i < n → ∃ x : Nat, w.cell? (a'.add i) = some (.int .u8 (x : Int)) ∧ x < 256 := by
      intro i hin
      obtain ⟨cs', hc, ht⟩ := hi i (by rw [hmm]; split <;> omega)
      rw [cells_u8] at hc
      obtain ⟨x, rfl, _, wx⟩ := DataW.trod_int Tryz.underlying5 ht
      have wx' : 0 ≤ x ∧ x ≤ 255 := by
        simp [Lit.wf, IntKind.min, IntKind.max, IntKind.signed, IntKind.bits] at wx
        omega
      refine ⟨x.toNat, ?_, by omega⟩
      obtain ⟨_, hlen, hat⟩ := World.cells?_some hc
      have := hat (i := 0) (by simp)
      have e0 : ∀ q : Addr, q.add 0 = q := fun _ => if_pos rfl
      rw [Nat.mul_one, e0] at this
      rw [show ((x.toNat : Nat) : Int) = x by omega]
      simpa using this
    obtain ⟨X, hX⟩ := skolem key
    refine ⟨by omega, fun i => if i < n then X i else 0, ?_, fun i => ?_⟩
    · by_cases hn : n = 0
      · exact .inl hn
      · obtain ⟨b, off, spot⟩ := a'
        have h0 := (hX 0 (by omega)).1
        have hs : spot = none := by simpa [Addr.add] using World.cell?_spot h0
        subst hs
        refine .inr ⟨b, off, rfl, fun i hi => ?_⟩
        have := (hX i hi).1
        simp only [if_pos hi]
        rwa [add_plain] at this
    · by_cases hi : i < n
      · simp only [if_pos hi]; exact (hX i hi).2
      · simp only [if_neg hi]; decide
theorem l01Bits_w (b : Nat) (w : World) (hb : Wfc .f32 (cls .f32 b)) :
    Calls Tryz.prog 69 #[.float .f32 b] w fun e w' => e = .returned (.int .i64 (bitsZ (cls .f32 b))) ∧ w = w' := by
  rcases cls_cases .f32 b with ⟨hc, _⟩ | ⟨hc, h1⟩
  · have ho : ford .f32 none none = none := rfl
    clear hb
    go_enter Tryz.func69, Tryz.ntmps69
    go_wp2
    go_ret
    exact ⟨by rw [hc]; rfl, rfl⟩
  · exact l01Bits_any b w (hb b hc).2
theorem sSame_w (a b : Nat) (w : World) (ha : Wfc .f32 (cls .f32 a)) (hb : Wfc .f32 (cls .f32 b)) :
    Calls Tryz.prog 10 #[.float .f32 a, .float .f32 b] w fun e w' => e = .returned (.bool (sameB (cls .f32 a) (cls .f32 b))) ∧ w = w' := by
  have HA := Lib.hid (fun W => l01Bits_w a W ha)
  have HB := Lib.hid (fun W => l01Bits_w b W hb)
  have HS := Lib.hid (fun W => show Calls Tryz.prog 43 #[.float .f32 a, .float .f32 b] W fun e w' => e = .returned (.bool (sameB (cls .f32 a) (cls .f32 b))) ∧ W = w' by
    go_enter Tryz.func43, Tryz.ntmps43
    go_wp2_with fail
    refine (HA.out _).mono ?_
    rintro e w' ⟨rfl, rfl⟩
    go_wp2_with fail
    refine (HB.out _).mono ?_
    rintro e w' ⟨rfl, rfl⟩
    go_wp2
    go_ret
    exact ⟨congrArg (fun x => Ending.returned (.bool x)) bitsZ_same, rfl⟩)
  clear ha hb
  go_enter Tryz.func10, Tryz.ntmps10
  go_wp2_with fail
  refine (HS.out _).mono ?_
  rintro e w' ⟨rfl, rfl⟩
  go_wp2
  go_ret
  exact ⟨rfl, rfl⟩
/-- two numbers of one class are the same -/
theorem sSame_yes (a b : Nat) (c : Option Nat) (w : World) (hw : Wfc .f32 c) (ha : cls .f32 a = c) (hb : cls .f32 b = c) :
    Calls Tryz.prog 10 #[.float .f32 a, .float .f32 b] w fun e w' => e = .returned (.bool true) ∧ w = w' := by
  have := sSame_w a b w (ha ▸ hw) (hb ▸ hw)
  rw [sameB_of (ha.trans hb.symm)] at this
  exact this
theorem wfc_sumC (f : Nat → Nat) : ∀ n, Wfc .f32 (sumC f n)
  | 0 => wfc_cls (by decide)
  | _ + 1 => wfc_fop _ _ _ _
theorem wfc_angE {o l d : Bool} {q : Option Nat} (hw : Wfc .f64 q) : Wfc .f64 (angE o l d q) := by
  have w1 : Wfc .f64 (if o = true then fop .sub .f64 (cls .f64 4598175219545276416) q else q) := by
    split
    · exact wfc_fop _ _ _ _
    · exact hw
  unfold angE
  simp only
  generalize (if o = true then fop .sub .f64 (cls .f64 4598175219545276416) q else q) = q1 at *
  have w2 : Wfc .f64 (if l = true then fop .sub .f64 (cls .f64 4602678819172646912) q1 else q1) := by
    split
    · exact wfc_fop _ _ _ _
    · exact w1
  split
  · exact wfc_fneg w2
  · exact w2
theorem wfc_angQ (t : Option Nat) : Wfc .f64 (angQ t) := by unfold angQ; exact wfc_fop _ _ _ _
theorem nn_angW (y x : Nat) : Nn .f64 (angW y x) := by unfold angW; exact (wfc_angE (wfc_angQ _)).nn
theorem wfc_angC (a b : Nat) : Wfc .f32 (AngX.angC a b) := by
  have h0 : Wfc .f32 (some 0) := wfc_some (by decide +kernel) (by decide)
  have hn : Wfc .f32 (none : Option Nat) := wfc_none _
  have hc : Wfc .f32 (fconv .f64 .f32 (angW (conv .f32 .f64 a) (conv .f32 .f64 b))) := wfc_fconv' _ _ _ (nn_angW _ _)
  unfold AngX.angC
  repeat' split
  all_goals first | exact h0 | exact hn | exact hc
theorem fromBits_yes (u : Nat) (w : World) (hu : u < 4294967296) :
    Calls Tryz.prog 20 #[.int .i64 (u : Int)] w fun e w' => e = .returned (.tuple #[.float .f32 u, .bool true]) ∧ w = w' := by
  have hin : inB (u : Int) 0 4294967295 = true := by unfold inB; simp; omega
  have hu' : (u : Int) ≤ 4294967295 := by omega
  have HW := Lib.hid (fun W => show Calls Tryz.prog 54 #[.int .i64 (u : Int), .int .i64 0, .int .i64 4294967295] W fun e w' => e = .returned (.bool true) ∧ W = w' by
    have := within_any (u : Int) 0 4294967295 W; rw [hin] at this; exact this)
  clear hin
  go_enter Tryz.func20, Tryz.ntmps20
  go_wp2_with fail
  refine (HW.out _).mono ?_
  rintro e w' ⟨rfl, rfl⟩
  go_wp2
  go_ret2
  exact ⟨rfl, rfl⟩
theorem angleOf_any (re im : Nat) (w : World) :
    Calls Tryz.prog 35 #[.complex .f32 re im] w fun e w' => ∃ r, e = .returned (.float .f32 r) ∧ cls .f32 r = AngX.angC im re ∧ Drew w w' := by
  have HC := Lib.hid (AngX.angI im re w)
  go_enter Tryz.func35, Tryz.ntmps35
  go_wp2_with fail
  refine HC.out.mono ?_
  rintro e w1 ⟨r, rfl, hr, hd⟩
  have HR := Lib.hid hr
  have HD := Lib.hid hd
  clear hr hd
  go_wp2
  go_ret
  exact ⟨_, rfl, HR.out, HD.out⟩
theorem narrowNumber_any (b : Nat) (w : World) (hno : NoOver .f64 .f32 b) :
    Calls Tryz.prog 36 #[.float .f64 b] w fun e w' => ∃ r, e = .returned (.float .f32 r) ∧ cls .f32 r = fconv .f64 .f32 (cls .f64 b) ∧ r < 4294967296 ∧ Drew w w' := by
  go_enter Tryz.func36, Tryz.ntmps36
  go_wp2_with (first | (refine wpList_conv rfl _ _ _ rfl .f64 .f32 _ rfl (by decide) (by kernel_rfl) Tryz.underlying28 hno ?_; intro τ q))
  go_ret
  exact ⟨_, rfl, cls_rep' (nn_fconv _ _ _ (nn_cls _ _)) _, rep_lt (wfc_fconv' _ _ _ (nn_cls _ _)) _, (Drew.refl _).drewN _⟩
theorem sin_quarter : SinI.sinC 1048576000 = some 1065353216 := by decide +kernel
theorem sinQuarter_any (w : World) :
    Calls Tryz.prog 37 #[.float .f32 1048576000] w fun e w' => e = .returned (.float .f32 1065353216) ∧ Drew w w' :=
  (SinI.impl_any 1048576000 w).mono fun e w' ⟨r, he, hc, hd⟩ => ⟨by
    rw [sin_quarter] at hc
    rw [he, ← (cls_some hc).1], hd⟩
theorem sumZero (a : Option Addr) (c : Nat) (X : Nat → Nat) (w : World) :
    Calls Tryz.prog 30 #[.slice a 0 c] w fun e w' => ∃ r, e = .returned (.tuple #[.float .f32 r, .bool true]) ∧ cls .f32 r = sumC X 0 ∧ Drew w w' := by
  go_enter Tryz.func30, Tryz.ntmps30
  go_wp2
  go_loopw [4, 12] (fun v i wr => i = .int .i64 0 ∧ v = .float .f32 0 ∧ wr = w) (fun _ _ _ => 0)
  case atStart => exact ⟨rfl, rfl, rfl⟩
  case round =>
    obtain ⟨rfl, rfl, rfl⟩ := hrel
    go_wp2
    go_ret2
    exact ⟨_, rfl, rfl, Drew.refl _⟩
theorem sumOwn (A : Option Addr) (f : Nat → Nat) (n c lo hi : Nat) (w : World) (h : OwnV w 28 A n (fun i => .float .f32 (f i)) lo hi) (hn : n ≤ 256) :
    Calls Tryz.prog 30 #[.slice A n c] w fun e w' => ∃ r, e = .returned (.tuple #[.float .f32 r, .bool true]) ∧ cls .f32 r = sumC f n ∧ Drew w w' := by
  rcases Nat.eq_zero_or_pos n with rfl | h0
  · exact sumZero A c f w
  · rcases h with h1 | ⟨g, m, q, rfl, _, _, hr, hm, hf⟩
    · omega
    refine (sumI g f n c w (fun i hi => by rw [hr.cell (i := i) (by omega), hf i hi]) (by omega)).mono fun e w' ⟨r, he, hc, hd⟩ => ⟨r, ?_, ?_, hd⟩
    · rw [he]
      have : decide ((n : Int) ≤ 256) = true := decide_eq_true (by omega)
      rw [this]
    · rw [hc]
      unfold sumR
      rw [if_pos hn]
end Go.Proofs.YtmpeogpmlgnmfaaGreatDoor
