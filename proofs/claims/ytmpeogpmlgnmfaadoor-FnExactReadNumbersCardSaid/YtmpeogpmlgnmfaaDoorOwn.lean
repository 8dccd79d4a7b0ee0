/- Slices that a call has made, as the laws hold them: the cells by the index, the blocks between two bounds; what marks them and what finds the marks. -/
import Derived.Test.YtmpeogpmlgnmfaaDoorNum
import Derived.Test.YtmpeogpmlgnmfaaDoorCells
import Derived.LoopTactic
import Derived.Laws.OwnMore
import Derived.Deep.QuietTactic
import Derived.BigQuiet
namespace Go.Proofs.YtmpeogpmlgnmfaaDoor
open Go.RowKit Go.Deep Flt

/-- a slice of n cells f of the call's own, in a block from lo to hi -/
def OwnV (w : World) (T : TypeId) (A : Option Addr) (n : Nat) (f : Nat → Value) (lo hi : Nat) : Prop :=
  n = 0 ∨ ∃ (g m : Nat) (h : Nat → Value), A = some ⟨g, 0, none⟩ ∧ lo ≤ g ∧ g < hi ∧ w.rowIs g T m h ∧ n ≤ m ∧ ∀ i, i < n → h i = f i
/-- only a block from lo to hi has turned, and what is new -/
structure Touched (w w' : World) (lo hi : Nat) : Prop where
  os : w'.os = w.os
  tape : w'.tape = w.tape
  output : w'.output = w.output
  size : w.heap.size ≤ w'.heap.size
  block : ∀ k, k < w.heap.size → (k < lo ∨ hi ≤ k) → w'.heap[k]? = w.heap[k]?
theorem Touched.refl (w : World) (lo hi : Nat) : Touched w w lo hi := ⟨rfl, rfl, rfl, Nat.le_refl _, fun _ _ _ => rfl⟩
theorem Touched.below {w0 w w' : World} {B lo hi : Nat} (h : Touched w w' lo hi) (hb : Below B w0 w) (hlo : B ≤ lo) (hB : B ≤ w.heap.size) : Below B w0 w' :=
  ⟨h.os.trans hb.os, h.tape.trans hb.tape, h.output.trans hb.output, Nat.le_trans hb.size h.size, fun k hk => (h.block k (by omega) (.inl (by omega))).trans (hb.block k hk)⟩
theorem Touched.set {w w' : World} {lo hi g : Nat} (h : Touched w w' lo hi) (h1 : lo ≤ g) (h2 : g < hi) (i : Nat) (v : Value) : Touched w (w'.setCell ⟨g, i, none⟩ v) lo hi :=
  ⟨h.os, h.tape, h.output, by simpa [World.setCell] using h.size, fun k hk hf => (blk_setCell_other _ _ _ _ (by show k ≠ g; omega)).trans (h.block k hk hf)⟩
theorem OwnV.below {w w' : World} {T : TypeId} {A : Option Addr} {n : Nat} {f : Nat → Value} {lo hi : Nat} (h : OwnV w T A n f lo hi) (hb : Below w.heap.size w w') : OwnV w' T A n f lo hi := by
  rcases h with h | ⟨g, m, h, e, h1, h2, hr, hm, hf⟩
  · exact .inl h
  · exact .inr ⟨g, m, h, e, h1, h2, row_below hr hb, hm, hf⟩
theorem OwnV.touch {w w' : World} {T : TypeId} {A : Option Addr} {n : Nat} {f : Nat → Value} {lo hi lo' hi' : Nat} (h : OwnV w T A n f lo hi) (ht : Touched w w' lo' hi') (hd : hi ≤ lo' ∨ hi' ≤ lo) : OwnV w' T A n f lo hi := by
  rcases h with h | ⟨g, m, h, e, h1, h2, hr, hm, hf⟩
  · exact .inl h
  · exact .inr ⟨g, m, h, e, h1, h2, hr.of_block (ht.block _ hr.lt (by omega)), hm, hf⟩
theorem OwnV.more {w : World} {T : TypeId} {A : Option Addr} {n : Nat} {f : Nat → Value} {lo hi lo' hi' : Nat} (h : OwnV w T A n f lo hi) (h1 : lo' ≤ lo) (h2 : hi ≤ hi') : OwnV w T A n f lo' hi' := by
  rcases h with h | ⟨g, m, h, e, h3, h4, hr⟩
  · exact .inl h
  · exact .inr ⟨g, m, h, e, by omega, by omega, hr⟩
theorem OwnV.of_own {w : World} {T : TypeId} {B n : Nat} {v : Value} {xs : List Value} (h : w.ownsRow B T 1 v n xs) : ∃ A c, v = .slice A n c ∧ OwnV w T A n (fun i => xs.getD i undef) B w.heap.size := by
  rcases h.2 with ⟨rfl, rfl⟩ | ⟨g, cap, cur, rfl, hb, hh, hn, _, hs, ht⟩
  · exact ⟨none, 0, rfl, .inl rfl⟩
  · have hlt : g < w.heap.size := by
      rcases Nat.lt_or_ge g w.heap.size with hlt | hge
      · exact hlt
      · rw [Array.getElem?_eq_none hge] at hh; cases hh
    refine ⟨_, cap, rfl, .inr ⟨g, cap, fun i => cur.getD i undef, rfl, hb, hlt, ⟨cur, hh, by omega, fun i hi => ?_⟩, hn, fun i hi => ?_⟩⟩
    · rw [Array.getElem?_eq_getElem (by omega)]
      simp [Array.getD, show i < cur.size by omega]
    · rw [← ht]
      have hi' : i < cur.size := by omega
      simp [Array.getD, hi', List.getD, hi]

theorem OwnV.of_map {w : World} {T : TypeId} {B n : Nat} {v : Value} {f : Nat → Value} (h : w.ownsRow B T 1 v n ((List.range n).map f)) : ∃ A c, v = .slice A n c ∧ OwnV w T A n f B w.heap.size := by
  obtain ⟨A, c, e, ho⟩ := OwnV.of_own h
  refine ⟨A, c, e, ?_⟩
  rcases ho with h0 | ⟨g, m, k, h1, h2, h3, h4, h5, h6⟩
  · exact .inl h0
  · exact .inr ⟨g, m, k, h1, h2, h3, h4, h5, fun i hi => by rw [h6 i hi]; simp [List.getD, hi]⟩
theorem news_cells {w : World} {n : Nat} {vs : List Value} {t : TypeId} (hn : n = w.heap.size) : ∀ j u, vs[j]? = some u → (w.alloc (.cells vs.toArray t)).cell? ((⟨n, 0, none⟩ : Addr).add j) = some u := by
  subst hn
  intro j u h
  rw [add_plain, Nat.zero_add]
  rw [cell_of_row _ _ j vs.toArray t (0, 0) (heap_alloc_new w _)]
  simpa using h

set_option maxHeartbeats 400000 in
theorem markI64_any (A : Option Addr) (n c : Nat) (f : Nat → Value) (lo hi : Nat) (k0 : Nat) (w : World) (h : OwnV w 2 A n f lo hi) (hn : n ≤ 4000000) (hk : k0 ≤ 4000000) :
    Calls Tryd.prog 24 #[.slice A n c, .int .i64 (k0 : Int)] w fun e w' => e = .returned (.int .i64 ((k0 + n : Nat) : Int)) ∧ OwnV w' 2 A n (fun i => .int .i64 ((k0 + i : Nat) : Int)) lo hi ∧ Touched w w' lo hi := by
  rcases h with h0 | ⟨g, m, h, rfl, h1, h2, hr, hm, hf⟩
  · subst h0
    go_enter Tryd.func24, Tryd.ntmps24
    go_wp2
    go_loopw [1, 5] (fun tk ti wx => ti = .int .i64 0 ∧ tk = .int .i64 (k0 : Int) ∧ wx = w) (fun _ _ _ => 0)
    case atStart => exact ⟨rfl, rfl, rfl⟩
    case round =>
      obtain ⟨rfl, rfl, rfl⟩ := hrel
      go_wp2
      go_ret
      exact ⟨rfl, .inl rfl, Touched.refl _ _ _⟩
  · go_enter Tryd.func24, Tryd.ntmps24
    go_wp2
    go_loopw [1, 5] (fun tk ti wx => ∃ j : Nat, j ≤ n ∧ ti = .int .i64 j ∧ tk = .int .i64 ((k0 + j : Nat) : Int) ∧ (∃ h', wx.rowIs g 2 m h' ∧ ∀ i, i < j → h' i = .int .i64 ((k0 + i : Nat) : Int)) ∧ Touched w wx lo hi) (fun _ ti _ => n - (intOf ti).toNat)
    case atStart => exact ⟨0, Nat.zero_le _, rfl, rfl, ⟨h, hr, fun i hi => by omega⟩, Touched.refl _ _ _⟩
    case round =>
      obtain ⟨j, hj, rfl, rfl, ⟨h', hr', hh'⟩, ht⟩ := hrel
      have HT := Lib.hid ht
      have HH := Lib.hid hh'
      by_cases hlt : j < n
      · have hlt' : (j : Int) < (n : Int) := by omega
        have cj := hr'.cell (i := j) (by omega)
        have fj := hr'.frozen j
        have HS := Lib.hid (hr'.set j (.int .i64 ((k0 + j : Nat) : Int)))
        have HG := Lib.hid (ht.set (g := g) (by omega) (by omega) j (.int .i64 ((k0 + j : Nat) : Int)))
        clear hr' hh' ht hr hf
        go_wp2
        go_roundw
        case rel =>
          refine ⟨j + 1, by omega, by go_num, congrArg (Value.int .i64) (by omega), ⟨_, HS.out, fun i hi => ?_⟩, HG.out⟩
          by_cases e : i = j
          · simp [e]
          · simp only [e, if_false]; exact HH.out i (by omega)
        case measure => simp [intOf]; omega
      · obtain rfl : j = n := by omega
        have HR := Lib.hid (show OwnV wr 2 (some ⟨g, 0, none⟩) j (fun i => .int .i64 ((k0 + i : Nat) : Int)) lo hi from .inr ⟨g, m, h', rfl, h1, h2, hr', hm, hh'⟩)
        clear hr' hh' ht hr hf
        go_wp2
        go_ret
        exact ⟨rfl, HR.out, HT.out⟩
set_option maxHeartbeats 400000 in
theorem heldI64_any (A : Option Addr) (n c : Nat) (lo hi : Nat) (k0 : Nat) (w : World) (h : OwnV w 2 A n (fun i => .int .i64 ((k0 + i : Nat) : Int)) lo hi) (hn : n ≤ 4000000) (hk : k0 ≤ 4000000) :
    Calls Tryd.prog 25 #[.slice A n c, .int .i64 (k0 : Int)] w fun e w' => e = .returned (.int .i64 ((k0 + n : Nat) : Int)) ∧ w = w' := by
  go_enter Tryd.func25, Tryd.ntmps25
  go_wp2
  go_loopw [1, 5] (fun tk ti wx => ∃ j : Nat, j ≤ n ∧ ti = .int .i64 j ∧ tk = .int .i64 ((k0 + j : Nat) : Int) ∧ wx = w) (fun _ ti _ => n - (intOf ti).toNat)
  case atStart => exact ⟨0, Nat.zero_le _, rfl, rfl, rfl⟩
  case round =>
    obtain ⟨j, hj, rfl, rfl, rfl⟩ := hrel
    by_cases hlt : j < n
    · have hlt' : (j : Int) < (n : Int) := by omega
      rcases h with h0 | ⟨g, m, h, rfl, h1, h2, hr, hm, hf⟩
      · omega
      have cj := hr.cell (i := j) (by omega)
      rw [hf j hlt] at cj
      have hne : (((k0 + j : Nat) : Int) != ((k0 + j : Nat) : Int)) = false := by simp
      clear hr hf
      go_wp2
      go_roundw
      case rel => exact ⟨j + 1, by omega, by go_num, congrArg (Value.int .i64) (by omega), by first | rfl | trivial⟩
      case measure => simp [intOf]; omega
    · obtain rfl : j = n := by omega
      clear h
      go_wp2
      go_ret
      exact ⟨rfl, rfl⟩
set_option maxHeartbeats 400000 in
theorem eqI64_same (A : Option Addr) (n c : Nat) (B : Option Addr) (d : Nat) (f : Nat → Int) (lo hi lo' hi' : Nat) (w : World) (h : OwnV w 2 A n (fun i => .int .i64 (f i)) lo hi) (k : OwnV w 2 B n (fun i => .int .i64 (f i)) lo' hi') (hn : n ≤ 4000000) :
    Calls Tryd.prog 15 #[.slice A n c, .slice B n d] w fun e w' => e = .returned (.bool true) ∧ Drew w w' := by
  go_enter Tryd.func15, Tryd.ntmps15
  go_wp2
  go_loopw [5] (fun ti wx => ∃ j : Nat, j ≤ n ∧ ti = .int .i64 j ∧ Drew w wx) (fun ti _ => n - (intOf ti).toNat)
  case atStart => exact ⟨0, Nat.zero_le _, rfl, Drew.refl _⟩
  case round =>
    obtain ⟨j, hj, rfl, hd⟩ := hrel
    have HD := Lib.hid hd
    by_cases hlt : j < n
    · have hlt' : (j : Int) < (n : Int) := by omega
      have hj0 : (0 : Int) ≤ (j : Int) := by omega
      rcases h with h0 | ⟨g, m, h, rfl, h1, h2, hr, hm, hf⟩
      · omega
      rcases k with h0 | ⟨g', m', h', rfl, h1', h2', hr', hm', hf'⟩
      · omega
      have cj := (hd.cell _).trans (hr.cell (i := j) (by omega))
      have dj := (hd.cell _).trans (hr'.cell (i := j) (by omega))
      rw [hf j hlt] at cj
      rw [hf' j hlt] at dj
      have hne : (f j != f j) = false := by simp
      clear hr hf hr' hf' hd
      go_wp2
      go_quiet (fail)
      go_wp2
      go_roundw
      case rel => exact ⟨j + 1, by omega, by go_num, by repeat (first | exact HD.out | refine Drew.drewN ?_ _ | refine Drew.drew ?_)⟩
      case measure => simp [intOf]; omega
    · obtain rfl : j = n := by omega
      clear h k hd
      go_wp2
      go_ret
      exact ⟨rfl, HD.out⟩
end Go.Proofs.YtmpeogpmlgnmfaaDoor
