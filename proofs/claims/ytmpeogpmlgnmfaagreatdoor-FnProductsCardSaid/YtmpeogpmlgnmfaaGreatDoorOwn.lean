/- Slices that a call has made, as the laws hold them: the cells by the index, the blocks between two bounds; what marks them and what finds the marks. -/
import Derived.Test.YtmpeogpmlgnmfaaGreatDoorNum
import Derived.Test.YtmpeogpmlgnmfaaGreatDoorCells
import Derived.LoopTactic
import Derived.Laws.OwnMore
import Derived.Deep.QuietTactic
import Derived.BigQuiet
namespace Go.Proofs.YtmpeogpmlgnmfaaGreatDoor
set_option maxRecDepth 100000
open Go.RowKit Go.Deep Flt

/-- a slice of n cells f of the call's own, in a block from lo to hi -/
def OwnV (w : World) (T : TypeId) (A : Option Addr) (n : Nat) (f : Nat → Value) (lo hi : Nat) : Prop :=
  n = 0 ∨ ∃ (g m : Nat) (h : Nat → Value), A = some ⟨g, 0, none⟩ ∧ lo ≤ g ∧ g < hi ∧ w.rowIs g T m h ∧ n ≤ m ∧ ∀ i, i < n → h i = f i
/-- only a block from lo to hi has turned, and what is new -/
structure Touched (w w' : World) (lo hi : Nat) : Prop where
  os : w'.os = w.os
  tape : w'.tape = w.tape
  output : w'.output = w.output
  size : w.heap.size ≤ w'.heap.size
  block : ∀ k, k < w.heap.size → (k < lo ∨ hi ≤ k) → w'.heap[k]? = w.heap[k]?
theorem Touched.refl (w : World) (lo hi : Nat) : Touched w w lo hi := ⟨rfl, rfl, rfl, Nat.le_refl _, fun _ _ _ => rfl⟩
theorem Touched.below {w0 w w' : World} {B lo hi : Nat} (h : Touched w w' lo hi) (hb : Below B w0 w) (hlo : B ≤ lo) (hB : B ≤ w.heap.size) : Below B w0 w' :=
  ⟨h.os.trans hb.os, h.tape.trans hb.tape, h.output.trans hb.output, Nat.le_trans hb.size h.size, fun k hk => (h.block k (by omega) (.inl (by omega))).trans (hb.block k hk)⟩
theorem Touched.set {w w' : World} {lo hi g : Nat} (h : Touched w w' lo hi) (h1 : lo ≤ g) (h2 : g < hi) (i : Nat) (v : Value) : Touched w (w'.setCell ⟨g, i, none⟩ v) lo hi :=
  ⟨h.os, h.tape, h.output, by simpa [World.setCell] using h.size, fun k hk hf => (blk_setCell_other _ _ _ _ (by show k ≠ g; omega)).trans (h.block k hk hf)⟩
theorem OwnV.below {w w' : World} {T : TypeId} {A : Option Addr} {n : Nat} {f : Nat → Value} {lo hi : Nat} (h : OwnV w T A n f lo hi) (hb : Below w.heap.size w w') : OwnV w' T A n f lo hi := by
  rcases h with h | ⟨g, m, h, e, h1, h2, hr, hm, hf⟩
  · exact .inl h
  · exact .inr ⟨g, m, h, e, h1, h2, row_below hr hb, hm, hf⟩
theorem OwnV.touch {w w' : World} {T : TypeId} {A : Option Addr} {n : Nat} {f : Nat → Value} {lo hi lo' hi' : Nat} (h : OwnV w T A n f lo hi) (ht : Touched w w' lo' hi') (hd : hi ≤ lo' ∨ hi' ≤ lo) : OwnV w' T A n f lo hi := by
  rcases h with h | ⟨g, m, h, e, h1, h2, hr, hm, hf⟩
  · exact .inl h
  · exact .inr ⟨g, m, h, e, h1, h2, hr.of_block (ht.block _ hr.lt (by omega)), hm, hf⟩
theorem OwnV.more {w : World} {T : TypeId} {A : Option Addr} {n : Nat} {f : Nat → Value} {lo hi lo' hi' : Nat} (h : OwnV w T A n f lo hi) (h1 : lo' ≤ lo) (h2 : hi ≤ hi') : OwnV w T A n f lo' hi' := by
  rcases h with h | ⟨g, m, h, e, h3, h4, hr⟩
  · exact .inl h
  · exact .inr ⟨g, m, h, e, by omega, by omega, hr⟩
theorem OwnV.of_own {w : World} {T : TypeId} {B n : Nat} {v : Value} {xs : List Value} (h : w.ownsRow B T 1 v n xs) : ∃ A c, v = .slice A n c ∧ OwnV w T A n (fun i => xs.getD i undef) B w.heap.size := by
  rcases h.2 with ⟨rfl, rfl⟩ | ⟨g, cap, cur, rfl, hb, hh, hn, _, hs, ht⟩
  · exact ⟨none, 0, rfl, .inl rfl⟩
  · have hlt : g < w.heap.size := by
      rcases Nat.lt_or_ge g w.heap.size with hlt | hge
      · exact hlt
      · rw [Array.getElem?_eq_none hge] at hh; cases hh
    refine ⟨_, cap, rfl, .inr ⟨g, cap, fun i => cur.getD i undef, rfl, hb, hlt, ⟨cur, hh, by omega, fun i hi => ?_⟩, hn, fun i hi => ?_⟩⟩
    · rw [Array.getElem?_eq_getElem (by omega)]
      simp [Array.getD, show i < cur.size by omega]
    · rw [← ht]
      have hi' : i < cur.size := by omega
      simp [Array.getD, hi', List.getD, hi]

theorem OwnV.of_map {w : World} {T : TypeId} {B n : Nat} {v : Value} {f : Nat → Value} (h : w.ownsRow B T 1 v n ((List.range n).map f)) : ∃ A c, v = .slice A n c ∧ OwnV w T A n f B w.heap.size := by
  obtain ⟨A, c, e, ho⟩ := OwnV.of_own h
  refine ⟨A, c, e, ?_⟩
  rcases ho with h0 | ⟨g, m, k, h1, h2, h3, h4, h5, h6⟩
  · exact .inl h0
  · exact .inr ⟨g, m, k, h1, h2, h3, h4, h5, fun i hi => by rw [h6 i hi]; simp [List.getD, hi]⟩
theorem news_cells {w : World} {n : Nat} {vs : List Value} {t : TypeId} (hn : n = w.heap.size) : ∀ j u, vs[j]? = some u → (w.alloc (.cells vs.toArray t)).cell? ((⟨n, 0, none⟩ : Addr).add j) = some u := by
  subst hn
  intro j u h
  rw [add_plain, Nat.zero_add]
  rw [cell_of_row _ _ j vs.toArray t (0, 0) (heap_alloc_new w _)]
  simpa using h

end Go.Proofs.YtmpeogpmlgnmfaaGreatDoor
