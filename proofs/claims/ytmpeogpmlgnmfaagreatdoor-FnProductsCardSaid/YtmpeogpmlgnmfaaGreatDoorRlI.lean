/- The program's reading of a list: the library's Split, each piece read; both texts' ReadList. -/
import Derived.Test.YtmpeogpmlgnmfaaGreatDoorRlS
import Derived.Test.YtmpeogpmlgnmfaaGreatDoorShSplit
namespace Go.Proofs.YtmpeogpmlgnmfaaGreatDoor
set_option maxRecDepth 100000
open Go.RowKit Go.Deep Flt

/-- the library's number in its variable -/
def Maxi (w : World) : Prop := ∃ m, w.cell? ⟨4, 0, none⟩ = some (.int .i64 m)
theorem Maxi.below {w w' : World} (h : Maxi w) (hb : Below w.heap.size w w') : Maxi w' := by
  obtain ⟨m, h⟩ := h
  exact ⟨m, (hb.cell (World.block_lt_of_cell? w _ h)).trans h⟩
theorem maxi_of_shaped {w : World} (h : w.ShapedOpen Tryz.prog) : Maxi w := Tryz.laysM146.s1_3 w h
theorem split_pieces (s : ByteArray) : (Lib.splitB ⟨#[44]⟩ 0 (Lib.countB s ⟨#[44]⟩) s).map (·.data.toList) = cutL s.data.toList := by
  rw [Lib.splitB_data]
  exact split_cut s.data.toList
set_option maxRecDepth 100000 in
theorem split_any (s : ByteArray) (w : World) (hs : s.size ≤ 1048576) (hn : ¬ noneB s) (hm : Maxi w) :
    Calls Tryz.prog 75 #[.string s, .string ⟨#[44]⟩] w fun e w' => (∃ g cap cur, e = .returned (.slice (some ⟨g, 0, none⟩) (nPt s.data.toList) cap) ∧ SBlk w' g cur ∧ ∀ i, i < nPt s.data.toList → w'.cell? ⟨g, i, none⟩ = some (.string ⟨(pt s.data.toList i).toArray⟩)) ∧ Below w.heap.size w w' := by
  obtain ⟨m, hm⟩ := hm
  have hi9 : (Tryz.prog.info? 9).map (fun i => (i.zero, i.size, i.bytes)) = some (some (.string ByteArray.empty), 1, 16) := str_info
  have key := Any.strings_Split { Tryz.laysM146 with } hi9 s ⟨#[44]⟩ m w (by omega) hm (by decide)
  refine (show Calls Tryz.prog 75 #[.string s, .string ⟨#[44]⟩] w fun e w' => e = .returned (.slice (some ⟨w.heap.size, 0, none⟩) (Lib.countB s ⟨#[44]⟩ + 1) (Lib.countB s ⟨#[44]⟩ + 1)) ∧ w' = w.alloc (.cells ((Lib.splitB ⟨#[44]⟩ 0 (Lib.countB s ⟨#[44]⟩) s).map Value.string).toArray 9) from key).mono ?_
  rintro e w' ⟨rfl, rfl⟩
  have hp := split_pieces s
  have hlen := Lib.splitB_all ⟨#[44]⟩ (by decide) 0 _ s rfl
  generalize Lib.splitB ⟨#[44]⟩ 0 (Lib.countB s ⟨#[44]⟩) s = L at *
  obtain ⟨h1, h2⟩ := nPt_some hn
  have hl : nPt s.data.toList = L.length := by rw [h1, ← hp]; simp
  rw [← hlen, ← hl]
  refine ⟨⟨_, _, _, rfl, ⟨_, heap_alloc_new w _⟩, fun i hi => ?_⟩, (Below.refl _ _).alloc (Nat.le_refl _) _⟩
  rw [cell_of_row _ _ i (L.map Value.string).toArray 9 (0, 0) (heap_alloc_new w _)]
  have hiL : i < L.length := by omega
  have e1 : pt s.data.toList i = L[i].data.toList := by
    rw [h2 i]
    unfold cutP
    rw [← hp, List.getD_eq_getElem?_getD]
    simp [hiL]
  rw [e1, byteArray_eta]
  simp [hiL]
/-- the pieces: none where the text is 'none' -/
theorem pieces_any (s : ByteArray) (w : World) (hs : s.size ≤ 1048576) (hm : Maxi w) :
    Calls Tryz.prog 49 #[.string s] w fun e w' => ((nPt s.data.toList = 0 ∧ e = .returned (.slice none 0 0)) ∨ ∃ g cap cur, e = .returned (.slice (some ⟨g, 0, none⟩) (nPt s.data.toList) cap) ∧ SBlk w' g cur ∧ ∀ i, i < nPt s.data.toList → w'.cell? ⟨g, i, none⟩ = some (.string ⟨(pt s.data.toList i).toArray⟩)) ∧ Below w.heap.size w w' := by
  by_cases hn : noneB s
  · obtain ⟨q1, q2⟩ := none_yes hn
    have H0 := Lib.hid (nPt_none hn)
    clear hn
    go_enter Tryz.func49, Tryz.ntmps49
    go_wp2
    go_ret
    exact ⟨.inl ⟨H0.out, rfl⟩, Below.refl _ _⟩
  · obtain ⟨q1, q2⟩ := none_no hn
    have HC := Lib.hid (split_any s w hs hn hm)
    clear hn hm
    go_enter Tryz.func49, Tryz.ntmps49
    go_wp2_with fail
    refine HC.out.mono ?_
    rintro e w1 ⟨⟨g, cap, cur, rfl, hblk, hcell⟩, hb⟩
    have HS := Lib.hid hblk
    have HV := Lib.hid hcell
    have HB := Lib.hid hb
    clear hblk hcell hb HC
    go_wp2
    go_ret
    exact ⟨.inr ⟨g, cap, cur, rfl, HS.out, HV.out⟩, HB.out⟩
/-- all the texts are values' decimals -/
def allV (l : List UInt8) : Bool := decide (∀ i, i < nPt l → (rdR (pt l i)).isSome = true)
theorem allV_bad {l : List UInt8} {k : Nat} (hk : k < nPt l) (h : rdR (pt l k) = none) : allV l = false := by
  unfold allV
  rw [decide_eq_false_iff_not]
  exact fun hh => by have := hh k hk; rw [h] at this; cases this
theorem lrOk_all (l : List UInt8) : lrOk l = (allV l && decide (nPt l ≤ 64)) := rfl
end Go.Proofs.YtmpeogpmlgnmfaaGreatDoor
