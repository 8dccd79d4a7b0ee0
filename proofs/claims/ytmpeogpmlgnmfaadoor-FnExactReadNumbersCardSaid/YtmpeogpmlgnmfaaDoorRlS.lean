/- The reference's reading of a list: the text cut at its commas, each piece read. -/
import Derived.Test.YtmpeogpmlgnmfaaDoorCut
import Derived.Test.YtmpeogpmlgnmfaaDoorRdS
import Derived.Test.YtmpeogpmlgnmfaaDoorLt
import Derived.Laws.Strings2
import Derived.Laws.DeepStrings4
namespace Go.Proofs.YtmpeogpmlgnmfaaDoor
open Go.RowKit Go.Deep Flt

/-- the pieces of a text in a slice of strings -/
def PartsAt (w : World) (v : Value) (l : List UInt8) : Prop :=
  (nPt l = 0 ∧ v = .slice none 0 0) ∨ ∃ g cap, v = .slice (some ⟨g, 0, none⟩) (nPt l) cap ∧ ∀ i, i < nPt l → w.cell? ⟨g, i, none⟩ = some (.string ⟨(pt l i).toArray⟩)
/-- where the cutting stands: k pieces laid, the next begins at st, the place is i -/
def CutInv (l : List UInt8) (k st i : Nat) : Prop :=
  k ≤ st ∧ ((st ≤ i ∧ i ≤ l.length ∧ (cutL l).drop k = cutL (l.drop st) ∧ ∀ c ∈ (l.drop st).take (i - st), c ≠ 44) ∨ (i = l.length + 1 ∧ st ≤ l.length + 1 ∧ k = (cutL l).length))
def cutP (l : List UInt8) (j : Nat) : List UInt8 := (cutL l).getD j []
theorem drop_getD {α : Type} (d : α) {a : α} {xs ys : List α} {k : Nat} (h : xs.drop k = a :: ys) : xs.getD k d = a ∧ xs.drop (k + 1) = ys ∧ k < xs.length := by
  have hk : k < xs.length := by
    rcases Nat.lt_or_ge k xs.length with h1 | h1
    · exact h1
    · rw [List.drop_eq_nil_of_le h1] at h; cases h
  rw [List.drop_eq_getElem_cons hk] at h
  injection h with h1 h2
  refine ⟨?_, h2, hk⟩
  rw [List.getD_eq_getElem?_getD, List.getElem?_eq_getElem hk]
  exact h1
theorem CutInv.last {l : List UInt8} {k st : Nat} (h : CutInv l k st l.length) : CutInv l (k + 1) (l.length + 1) (l.length + 1) ∧ cutP l k = (l.drop st).take (l.length - st) ∧ st ≤ l.length := by
  obtain ⟨hk, ⟨h1, _, h3, h4⟩ | ⟨h1, _⟩⟩ := h
  · have e : (l.drop st).take (l.length - st) = l.drop st := List.take_of_length_le (by simp)
    rw [e] at h4 ⊢
    rw [cutL_end _ h4] at h3
    obtain ⟨a1, a2, a3⟩ := drop_getD [] h3
    refine ⟨⟨by omega, .inr ⟨rfl, Nat.le_refl _, ?_⟩⟩, a1, h1⟩
    have := congrArg List.length a2
    simp at this
    omega
  · omega
theorem CutInv.hit {l : List UInt8} {k st i : Nat} (h : CutInv l k st i) (hi : i < l.length) (hc : l[i] = 44) : CutInv l (k + 1) (i + 1) (i + 1) ∧ cutP l k = (l.drop st).take (i - st) ∧ st ≤ i := by
  obtain ⟨hk, ⟨h1, _, h3, h4⟩ | ⟨h1, _⟩⟩ := h
  · have e : l.drop st = (l.drop st).take (i - st) ++ 44 :: l.drop (i + 1) := by
      have e1 : (l.drop st).drop (i - st) = l.drop i := by rw [List.drop_drop]; congr 1; omega
      have e2 : l.drop i = 44 :: l.drop (i + 1) := by rw [List.drop_eq_getElem_cons hi, hc]
      rw [← e2, ← e1, List.take_append_drop]
    rw [e, cutL_hit _ _ h4] at h3
    obtain ⟨a1, a2, a3⟩ := drop_getD [] h3
    refine ⟨⟨by omega, .inl ⟨Nat.le_refl _, by omega, a2, by simp⟩⟩, a1, h1⟩
  · omega
theorem CutInv.miss {l : List UInt8} {k st i : Nat} (h : CutInv l k st i) (hi : i < l.length) (hc : l[i] ≠ 44) : CutInv l k st (i + 1) := by
  obtain ⟨hk, ⟨h1, _, h3, h4⟩ | ⟨h1, _⟩⟩ := h
  · refine ⟨hk, .inl ⟨by omega, by omega, h3, ?_⟩⟩
    have e : i + 1 - st = (i - st) + 1 := by omega
    have hlt : i - st < (l.drop st).length := by simp; omega
    rw [e, List.take_succ_eq_append_getElem hlt]
    intro c hm
    rcases List.mem_append.1 hm with h5 | h5
    · exact h4 c h5
    · obtain rfl : c = (l.drop st)[i - st] := by simpa using h5
      have e2 : (l.drop st)[i - st] = l[i] := by
        rw [List.getElem_drop]
        congr 1
        omega
      rw [e2]
      exact hc
  · omega
theorem extract_piece (s : ByteArray) (a b : Nat) : s.extract a b = ⟨((s.data.toList.drop a).take (b - a)).toArray⟩ := by
  have e : s = ⟨s.data.toList.toArray⟩ := (byteArray_eta s).symm
  rw [e, ByteArray.extract_mk]

set_option maxRecDepth 100000 in
set_option maxHeartbeats 2000000 in
theorem l01Cut_any (s : ByteArray) (w : World) (hs : s.size ≤ 1048576) :
    Calls Tryd.prog 66 #[.string s, .int .u8 44] w fun e w' => ∃ v, e = .returned v ∧ SOwn w' w.heap.size v (cutP s.data.toList) (cutL s.data.toList).length ∧ Below w.heap.size w w' := by
  obtain ⟨i0, hi0, hz0, hz1, hz2⟩ := info_parts str_info
  have HL := Lib.hid (show s.data.toList.length = s.size by simp)
  go_enter Tryd.func66, Tryd.ntmps66
  go_wp2
  go_loopw [5, 6, 7] (fun tv ts ti wx => ∃ (v : Value) (k st i : Nat), v = tv ∧ ts = .int .i64 st ∧ ti = .int .i64 i ∧ i ≤ s.size + 1 ∧ st ≤ s.size + 1 ∧ SOwn wx w.heap.size v (cutP s.data.toList) k ∧ CutInv s.data.toList k st i ∧ Below w.heap.size w wx) (fun _ _ ti _ => s.size + 1 - (intOf ti).toNat)
  case atStart => exact ⟨_, 0, 0, 0, rfl, rfl, rfl, by omega, by omega, World.ownsRow_lit w #[] 0 (Nat.le_refl _) (by decide) rfl, ⟨Nat.le_refl _, .inl ⟨Nat.le_refl _, Nat.zero_le _, rfl, by simp⟩⟩, (Below.refl _ _).alloc (Nat.le_refl _) _⟩
  case round =>
    obtain ⟨v, k, st, i, rfl, rfl, rfl, hi, hst, hown, hinv, hbel⟩ := hrel
    have HN := Lib.hid hown
    have HC := Lib.hid hinv
    have HB := Lib.hid hbel
    have hk : k ≤ st := hinv.1
    clear hown hinv hbel
    by_cases hle : i ≤ s.size
    · have hle' : (i : Int) ≤ (s.size : Int) := by omega
      by_cases heq : i = s.size
      · subst heq
        have HCC := Lib.hid (CutInv.last (l := s.data.toList) (k := k) (st := st) (by rw [HL.out]; exact HC.out))
        have hsi : st ≤ s.size := by have := HCC.out.2.2; rw [HL.out] at this; exact this
        have hsi' : (st : Int) ≤ (s.size : Int) := by omega
        have hst0 : (0 : Int) ≤ (st : Int) := by omega
        obtain ⟨x, hx⟩ : ∃ x, x = s.extract st s.size := ⟨_, rfl⟩
        have HX := Lib.hid hx
        go_wp2_with (first | (at_builtin; refine wpList_append_own _ rfl _ _ 53 rfl w.heap.size 9 i0 (.string ByteArray.empty) 1 16 Tryd.underlying53 hi0 hz0 hz1 hz2 rfl (by decide) _ _ _ rfl (HN.out.alloc _) ⟨wr.heap.size, 0, none⟩ 1 1 [.string (s.extract st s.size)] rfl rfl ?c1 ?c2 ?c3 ?c4 ?c5 ?_))
        case c1 => exact news_cells rfl
        case c2 => intro u hu; simp at hu; rcases hu with rfl; rfl
        case c3 => unfold maxLen; omega
        case c4 => omega
        case c5 => have := HB.out.size; simp <;> omega
        intro v' w3 hown1 hgrow _
        rw [extract_piece, show (s.data.toList.drop st).take (s.size - st) = cutP s.data.toList k from by rw [HCC.out.2.1, HL.out]] at hown1
        have HN1 := Lib.hid (SOwn.more hown1)
        have HB1 := Lib.hid ((HB.out.alloc HB.out.size _).grown hgrow (by have := HB.out.size; simp; omega) (fun k hk => (HN.out.lt k hk).1))
        have HC1 := Lib.hid (show CutInv s.data.toList (k + 1) (s.size + 1) (s.size + 1) by have := HCC.out.1; rw [HL.out] at this; exact this)
        clear hown1 hgrow hx HX
        go_wp2
        go_roundw
        case rel => exact ⟨_, k + 1, s.size + 1, s.size + 1, rfl, by go_num, by go_num, by omega, by omega, HN1.out, HC1.out, HB1.out⟩
        case measure => simp [intOf]
      · have hlt : i < s.size := by omega
        have hlt' : (i : Int) < (s.size : Int) := by omega
        have hne : ((i : Int) == (s.size : Int)) = false := by simp; omega
        have hli : i < s.data.toList.length := by rw [HL.out]; exact hlt
        have hch : s.data.toList[i] = s[i] := rfl
        by_cases hc : (s[i].toNat : Int) = 44
        · have hc' : ((s[i].toNat : Int) == 44) = true := by rw [hc]; rfl
          have HCC := Lib.hid (CutInv.hit HC.out hli (by rw [hch]; exact UInt8.toNat_inj.1 (show s[i].toNat = 44 by omega)))
          have hsi : st ≤ i := HCC.out.2.2
          have hsi' : (st : Int) ≤ (i : Int) := by omega
          have hst0 : (0 : Int) ≤ (st : Int) := by omega
          clear hch
          go_wp2_with (first | (at_builtin; refine wpList_append_own _ rfl _ _ 53 rfl w.heap.size 9 i0 (.string ByteArray.empty) 1 16 Tryd.underlying53 hi0 hz0 hz1 hz2 rfl (by decide) _ _ _ rfl (HN.out.alloc _) ⟨wr.heap.size, 0, none⟩ 1 1 [.string (s.extract st i)] rfl rfl ?c1 ?c2 ?c3 ?c4 ?c5 ?_))
          case c1 => exact news_cells rfl
          case c2 => intro u hu; simp at hu; rcases hu with rfl; rfl
          case c3 => unfold maxLen; omega
          case c4 => omega
          case c5 => have := HB.out.size; simp <;> omega
          intro v' w3 hown1 hgrow _
          rw [extract_piece, ← HCC.out.2.1] at hown1
          have HN1 := Lib.hid (SOwn.more hown1)
          have HB1 := Lib.hid ((HB.out.alloc HB.out.size _).grown hgrow (by have := HB.out.size; simp; omega) (fun k hk => (HN.out.lt k hk).1))
          clear hown1 hgrow
          go_wp2
          go_roundw
          case rel => exact ⟨_, k + 1, i + 1, i + 1, rfl, by go_num, by go_num, by omega, by omega, HN1.out, HCC.out.1, HB1.out⟩
          case measure => simp [intOf]; omega
        · have hc' : ((s[i].toNat : Int) == 44) = false := by simpa using hc
          have HCC := Lib.hid (CutInv.miss HC.out hli (by rw [hch]; intro e; rw [e] at hc; exact hc rfl))
          clear hch
          go_wp2
          go_roundw
          case rel => exact ⟨_, k, st, i + 1, rfl, rfl, by go_num, by omega, by omega, HN.out, HCC.out, HB.out⟩
          case measure => simp [intOf]; omega
    · have hke : k = (cutL s.data.toList).length := by
        obtain ⟨_, ⟨_, h2, _⟩ | ⟨_, _, h3⟩⟩ := HC.out
        · rw [HL.out] at h2; omega
        · exact h3
      have HK := Lib.hid hke
      clear hke
      have hgt : ¬ (i : Int) ≤ (s.size : Int) := by omega
      go_wp2
      go_ret
      exact ⟨_, rfl, by rw [← HK.out]; exact HN.out, HB.out⟩
/-- none -/
def noneB (s : ByteArray) : Prop := s.data.toList = [110, 111, 110, 101]
theorem none_yes {s : ByteArray} (h : noneB s) : (s.toList == (⟨#[110, 111, 110, 101]⟩ : ByteArray).toList) = true ∧ (s.toList == [110, 111, 110, 101]) = true := by
  unfold noneB at h
  have e : (⟨#[110, 111, 110, 101]⟩ : ByteArray) = ⟨[(110 : UInt8), 111, 110, 101].toArray⟩ := rfl
  rw [e, ByteArray.toList_mk, ByteArray.toList_eq, h]
  exact ⟨by simp, by simp⟩
theorem none_no {s : ByteArray} (h : ¬ noneB s) : (s.toList == (⟨#[110, 111, 110, 101]⟩ : ByteArray).toList) = false ∧ (s.toList == [110, 111, 110, 101]) = false := by
  unfold noneB at h
  have e : (⟨#[110, 111, 110, 101]⟩ : ByteArray) = ⟨[(110 : UInt8), 111, 110, 101].toArray⟩ := rfl
  rw [e, ByteArray.toList_mk, ByteArray.toList_eq]
  exact ⟨by simpa using h, by simpa using h⟩
theorem nPt_none {s : ByteArray} (h : noneB s) : nPt s.data.toList = 0 := by
  unfold nPt ptsL
  rw [if_pos (show s.data.toList = _ from h)]
  rfl
theorem nPt_some {s : ByteArray} (h : ¬ noneB s) : nPt s.data.toList = (cutL s.data.toList).length ∧ ∀ i, pt s.data.toList i = cutP s.data.toList i := by
  unfold nPt pt ptsL cutP
  rw [if_neg (show ¬ s.data.toList = _ from h)]
  exact ⟨rfl, fun _ => rfl⟩
theorem lrOk_none {s : ByteArray} (h : noneB s) : lrOk s.data.toList = true ∧ lrN s.data.toList = 0 := by
  have h0 := nPt_none h
  have h1 : lrOk s.data.toList = true := lrOk_yes (by intro i hi; omega) (by omega)
  refine ⟨h1, ?_⟩
  unfold lrN
  rw [if_pos h1, h0]
/-- a block of strings -/
def SBlk (w : World) (g : Nat) (cur : Array Value) : Prop := ∃ fz, w.heap[g]? = some (.cells cur 9 fz)
theorem SBlk.of_eq {w w' : World} {g : Nat} {cur : Array Value} (h : SBlk w g cur) (e : w'.heap[g]? = w.heap[g]?) : SBlk w' g cur := by
  obtain ⟨fz, h⟩ := h
  exact ⟨fz, e.trans h⟩
theorem SBlk.lt {w : World} {g : Nat} {cur : Array Value} (h : SBlk w g cur) : g < w.heap.size := by
  obtain ⟨fz, h⟩ := h
  exact heap_lt' h
theorem SBlk.below {w w' : World} {g : Nat} {cur : Array Value} (h : SBlk w g cur) (hb : Below w.heap.size w w') : SBlk w' g cur := h.of_eq (hb.block _ h.lt)
theorem SBlk.not_own {w : World} {g B k : Nat} {cur : Array Value} {v : Value} {xs : List Value} (h : SBlk w g cur) (ho : w.ownsRow B 2 1 v k xs) : some g ≠ v.ownBlock := by
  obtain ⟨fz, h⟩ := h
  rcases ho.2 with ⟨rfl, _⟩ | ⟨g', cap, cur', rfl, _, hh, _⟩
  · intro e; cases e
  · intro e
    obtain rfl : g = g' := by simpa [Value.ownBlock] using e
    rw [h] at hh
    cases hh
theorem SBlk.grown {w w' : World} {g B k : Nat} {cur : Array Value} {v : Value} {xs : List Value} {o : Obj} (h : SBlk w g cur) (ho : w.ownsRow B 2 1 v k xs) (hg : (w.alloc o).grownBy w' v.ownBlock) : SBlk w' g cur := by
  have hl := h.lt
  refine h.of_eq ((hg.block g (by simp; omega) (h.not_own ho)).trans (blk_alloc_lt _ _ _ hl))
theorem parts_of_own {w : World} {B : Nat} {v : Value} {s : ByteArray} (hn : ¬ noneB s) (h : SOwn w B v (cutP s.data.toList) (cutL s.data.toList).length) :
    ∃ g cap cur, v = .slice (some ⟨g, 0, none⟩) (nPt s.data.toList) cap ∧ SBlk w g cur ∧ ∀ i, i < nPt s.data.toList → w.cell? ⟨g, i, none⟩ = some (.string ⟨(pt s.data.toList i).toArray⟩) := by
  obtain ⟨h1, h2⟩ := nPt_some hn
  rw [h1]
  rcases h.2 with ⟨rfl, h0⟩ | ⟨g, cap, cur, rfl, _, hh, _⟩
  · obtain ⟨p, ps, e⟩ := cutL_ne s.data.toList
    rw [e] at h0
    simp at h0
  · refine ⟨g, cap, cur, rfl, ⟨_, hh⟩, fun i hi => ?_⟩
    rw [World.ownsRow.cellAt h i (by omega), h2 i]
    simp [hi, strV]
theorem i64_info : (Tryd.prog.info? 2).map (fun i => (i.zero, i.size, i.bytes)) = some (some (.int .i64 0), 1, 8) := by kernel_rfl
/-- a slice of int64 of the call's own: the first k of the values read -/
def VOwn (w : World) (B : Nat) (v : Value) (l : List UInt8) (k : Nat) : Prop := w.ownsRow B 2 1 v k ((List.range k).map fun i => .int .i64 (lrV l i))
theorem VOwn.more {w : World} {B : Nat} {v : Value} {l : List UInt8} {k : Nat} {x : Int} (hx : x = lrV l k) (h : w.ownsRow B 2 1 v (k + 1) (((List.range k).map fun i => .int .i64 (lrV l i)) ++ [.int .i64 x])) : VOwn w B v l (k + 1) := by
  subst hx
  unfold VOwn
  rw [List.range_succ, List.map_append]
  exact h
/-- what both readings of a list give -/
def GaveL (w w' : World) (e : Ending) (s : ByteArray) : Prop :=
  ∃ A c, e = .returned (.tuple #[.slice A (lrN s.data.toList) c, .bool (lrOk s.data.toList)]) ∧ OwnV w' 2 A (lrN s.data.toList) (fun i => .int .i64 (lrV s.data.toList i)) w.heap.size w'.heap.size ∧ Below w.heap.size w w'
set_option maxRecDepth 100000 in
set_option maxHeartbeats 2000000 in
theorem l01Numbers_any (s : ByteArray) (w : World) (hs : s.size ≤ 1048576) :
    Calls Tryd.prog 49 #[.string s] w fun e w' => GaveL w w' e s := by
  obtain ⟨i0, hi0, hz0, hz1, hz2⟩ := info_parts i64_info
  unfold GaveL
  by_cases hn : noneB s
  · obtain ⟨q1, q2⟩ := none_yes hn
    obtain ⟨e1, e2⟩ := lrOk_none hn
    have E1 := Lib.hid e1
    have E2 := Lib.hid e2
    clear e1 e2
    go_enter Tryd.func49, Tryd.ntmps49
    go_wp2
    go_ret2
    exact ⟨_, _, by rw [E1.out, E2.out]; rfl, by rw [E2.out]; exact .inl rfl, (Below.refl _ _).alloc (Nat.le_refl _) _⟩
  obtain ⟨q1, q2⟩ := none_no hn
  have HNN := Lib.hid hn
  have HLL := Lib.hid (show s.data.toList.length = s.size by simp)
  have HCut := Lib.hid (fun W => l01Cut_any s W hs)
  have HVal := Lib.hid (fun (i : Nat) (W : World) => show Calls Tryd.prog 46 #[.string ⟨(pt s.data.toList i).toArray⟩] W fun e w' => e = .returned (rdT (rdR (pt s.data.toList i))) ∧ Below W.heap.size W w' from
    l01Value_any ⟨(pt s.data.toList i).toArray⟩ W (by have := pt_len s.data.toList i; have e := HLL.out; simp [ByteArray.size]; omega))
  have HM := Lib.hid (fun h => lrOk_many (l := s.data.toList) h)
  have hnp : nPt s.data.toList ≤ s.size + 1 := by
    rw [(nPt_some hn).1, ← HLL.out]
    exact cutL_count _
  have HPW := Lib.hid (fun w B v h => parts_of_own (w := w) (B := B) (v := v) hn h)
  clear hn
  go_enter Tryd.func49, Tryd.ntmps49
  go_wp2_with fail
  refine (HCut.out _).mono ?_
  rintro e w1 ⟨v, rfl, hown, hb⟩
  obtain ⟨g, cap, cur, rfl, hblk, hcell⟩ := HPW.out _ _ _ hown
  have HS1 := Lib.hid hblk
  have HC := Lib.hid hcell
  have HB1 := Lib.hid (((Below.refl w.heap.size w).alloc (Nat.le_refl _) _).trans (hb.mono (by simp)))
  have HO1 := Lib.hid (owns_below (World.ownsRow_lit (base := w.heap.size) (e := 2) (size := 1) w #[] 0 (Nat.le_refl _) (by decide) rfl) hb)
  clear hown hb hcell hblk
  by_cases hmany : (nPt s.data.toList : Int) > 64
  · have hko : lrOk s.data.toList = false := HM.out (by omega)
    have hkn : lrN s.data.toList = 0 := by unfold lrN; rw [hko]; rfl
    have E1 := Lib.hid hko
    have E2 := Lib.hid hkn
    clear hko hkn
    go_wp2
    go_ret2
    exact ⟨_, _, by rw [E1.out, E2.out]; rfl, by rw [E2.out]; exact .inl rfl, HB1.out⟩
  go_wp2
  go_loopw [4, 6] (fun tv ti wx => ∃ (v : Value) (k : Nat), v = tv ∧ ti = .int .i64 k ∧ k ≤ nPt s.data.toList ∧ VOwn wx w.heap.size v s.data.toList k ∧ (∀ j, j < k → (rdR (pt s.data.toList j)).isSome = true) ∧ Below w.heap.size w wx ∧ wx.heap[g]? = w1.heap[g]?) (fun _ ti _ => nPt s.data.toList - (intOf ti).toNat)
  case atStart => exact ⟨_, 0, rfl, rfl, Nat.zero_le _, HO1.out, fun j hj => by omega, HB1.out, rfl⟩
  case round =>
    obtain ⟨v, k, rfl, rfl, hk, hown, hok, hbel, hbel1⟩ := hrel
    have HN := Lib.hid hown
    have HK := Lib.hid hok
    have HB := Lib.hid hbel
    have HBB := Lib.hid hbel1
    have hcell : ∀ i, i < nPt s.data.toList → wr.cell? ⟨g, i, none⟩ = some (.string ⟨(pt s.data.toList i).toArray⟩) := fun i hi => (World.cell?_of_block (w := w1) hbel1).trans (HC.out i hi)
    clear hown hok hbel hbel1
    by_cases hlt : k < nPt s.data.toList
    · have hlt' : (k : Int) < (nPt s.data.toList : Int) := by omega
      have ck := hcell k hlt
      clear hcell
      have HV := Lib.hid (HVal.out k wr)
      cases hr : rdR (pt s.data.toList k) with
      | none =>
        rw [hr] at HV
        unfold rdT at HV
        have hko := lrOk_bad hlt hr
        have hkn : lrN s.data.toList = 0 := by unfold lrN; rw [hko]; rfl
        have E1 := Lib.hid hko
        have E2 := Lib.hid hkn
        clear hko hkn hr
        go_wp2_with fail
        refine HV.out.mono ?_
        rintro e w2 ⟨rfl, hb2⟩
        have HB2 := Lib.hid (HB.out.trans (hb2.mono HB.out.size))
        clear hb2
        go_wp2
        go_ret2
        exact ⟨_, _, by rw [E1.out, E2.out]; rfl, by rw [E2.out]; exact .inl rfl, HB2.out⟩
      | some x =>
        have hx : x = lrV s.data.toList k := by unfold lrV; rw [hr]; rfl
        have hsome : (rdR (pt s.data.toList k)).isSome = true := by rw [hr]; rfl
        rw [hr] at HV
        unfold rdT at HV
        have HX := Lib.hid hx
        have HS := Lib.hid hsome
        clear hx hsome hr
        go_wp2_with fail
        refine HV.out.mono ?_
        rintro e w2 ⟨rfl, hb2⟩
        have HN2 := Lib.hid (show w2.ownsRow w.heap.size 2 1 v k ((List.range k).map fun i => .int .i64 (lrV s.data.toList i)) from owns_below HN.out hb2)
        have HB2 := Lib.hid (HB.out.trans (hb2.mono HB.out.size))
        have HBB2 := Lib.hid (show w2.heap[g]? = w1.heap[g]? from (hb2.block g (HS1.out.of_eq HBB.out).lt).trans HBB.out)
        clear hb2
        go_wp2_with (first | (at_builtin; refine wpList_append_own _ rfl _ _ 24 rfl w.heap.size 2 i0 (.int .i64 0) 1 8 Tryd.underlying24 hi0 hz0 hz1 hz2 rfl (by decide) _ _ _ rfl (HN2.out.alloc _) ⟨w2.heap.size, 0, none⟩ 1 1 [.int .i64 x] rfl rfl ?c1 ?c2 ?c3 ?c4 ?c5 ?_))
        case c1 => exact news_cells rfl
        case c2 => intro u hu; simp at hu; rcases hu with rfl; rfl
        case c3 => unfold maxLen; omega
        case c4 => omega
        case c5 => have := HB2.out.size; simp <;> omega
        intro v' w3 hown1 hgrow _
        have HN3 := Lib.hid (VOwn.more HX.out hown1)
        have HB3 := Lib.hid ((HB2.out.alloc HB2.out.size _).grown hgrow (by have := HB2.out.size; simp; omega) (fun k hk => (HN2.out.lt k hk).1))
        have hs2 := HS1.out.of_eq HBB2.out
        have HBB3 := Lib.hid (show w3.heap[g]? = w1.heap[g]? from ((hgrow.block g (by have := hs2.lt; simp; omega) (hs2.not_own HN2.out)).trans (blk_alloc_lt _ _ _ hs2.lt)).trans HBB2.out)
        clear hs2
        clear hown1 hgrow
        go_wp2
        go_roundw
        case rel => exact ⟨_, k + 1, rfl, by go_num, by omega, HN3.out, fun j hj => by by_cases e : j = k; (· subst e; exact HS.out); (· exact HK.out j (by omega)), HB3.out, HBB3.out⟩
        case measure => simp [intOf]; omega
    · have hke : k = nPt s.data.toList := by omega
      have hko := lrOk_yes (l := s.data.toList) (fun j hj => HK.out j (by omega)) (by omega)
      have hkn : lrN s.data.toList = k := by unfold lrN; rw [hko, hke]; rfl
      obtain ⟨A, cA, rfl, ho⟩ := OwnV.of_map HN.out
      have E1 := Lib.hid hko
      have E2 := Lib.hid hkn
      have E3 := Lib.hid ho
      have hnl : ¬ (k : Int) < (nPt s.data.toList : Int) := by omega
      clear hko hkn ho hcell hke
      go_wp2
      go_ret2
      exact ⟨A, ⟨cA, by rw [E1.out, E2.out]; rfl⟩, by rw [E2.out]; exact E3.out, HB.out⟩
end Go.Proofs.YtmpeogpmlgnmfaaDoor
