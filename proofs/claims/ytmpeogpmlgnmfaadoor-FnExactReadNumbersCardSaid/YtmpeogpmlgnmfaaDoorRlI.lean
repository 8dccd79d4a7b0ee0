/- The program's reading of a list: the library's Split, each piece read; both texts' ReadList. -/
import Derived.Test.YtmpeogpmlgnmfaaDoorRlS
import Derived.Test.YtmpeogpmlgnmfaaDoorRdI
import Derived.Test.YtmpeogpmlgnmfaaDoorShSplit
namespace Go.Proofs.YtmpeogpmlgnmfaaDoor
open Go.RowKit Go.Deep Flt

theorem readListS (s : ByteArray) (w : World) (hs : s.size ≤ 1048576) :
    Calls Tryd.prog 22 #[.string s] w fun e w' => GaveL w w' e s := by
  have HC := Lib.hid (l01Numbers_any s w hs)
  unfold GaveL at HC ⊢
  generalize lrN s.data.toList = n at *
  generalize lrOk s.data.toList = ok at *
  go_enter Tryd.func22, Tryd.ntmps22
  go_wp2_with fail
  refine HC.out.mono ?_
  rintro e w1 ⟨A, c, rfl, ho, hb⟩
  have HO := Lib.hid ho
  have HB := Lib.hid hb
  clear ho hb
  go_wp2
  go_ret2
  first
    | exact ⟨A, ⟨c, rfl⟩, HO.out, HB.out⟩
    | exact ⟨A, c, rfl, HO.out, HB.out⟩
/-- the library's number in its variable -/
def Maxi (w : World) : Prop := ∃ m, w.cell? ⟨6, 0, none⟩ = some (.int .i64 m)
theorem Maxi.below {w w' : World} (h : Maxi w) (hb : Below w.heap.size w w') : Maxi w' := by
  obtain ⟨m, h⟩ := h
  exact ⟨m, (hb.cell (World.block_lt_of_cell? w _ h)).trans h⟩
theorem maxi_of_shaped {w : World} (h : w.ShapedOpen Tryd.prog) : Maxi w := Tryd.laysM146.s1_3 w h
theorem split_pieces (s : ByteArray) : (Lib.splitB ⟨#[44]⟩ 0 (Lib.countB s ⟨#[44]⟩) s).map (·.data.toList) = cutL s.data.toList := by
  rw [Lib.splitB_data]
  exact split_cut s.data.toList
set_option maxRecDepth 100000 in
theorem split_any (s : ByteArray) (w : World) (hs : s.size ≤ 1048576) (hn : ¬ noneB s) (hm : Maxi w) :
    Calls Tryd.prog 69 #[.string s, .string ⟨#[44]⟩] w fun e w' => (∃ g cap cur, e = .returned (.slice (some ⟨g, 0, none⟩) (nPt s.data.toList) cap) ∧ SBlk w' g cur ∧ ∀ i, i < nPt s.data.toList → w'.cell? ⟨g, i, none⟩ = some (.string ⟨(pt s.data.toList i).toArray⟩)) ∧ Below w.heap.size w w' := by
  obtain ⟨m, hm⟩ := hm
  have hi9 : (Tryd.prog.info? 9).map (fun i => (i.zero, i.size, i.bytes)) = some (some (.string ByteArray.empty), 1, 16) := str_info
  have key := Any.strings_Split { Tryd.laysM146 with } hi9 s ⟨#[44]⟩ m w (by omega) hm (by decide)
  refine (show Calls Tryd.prog 69 #[.string s, .string ⟨#[44]⟩] w fun e w' => e = .returned (.slice (some ⟨w.heap.size, 0, none⟩) (Lib.countB s ⟨#[44]⟩ + 1) (Lib.countB s ⟨#[44]⟩ + 1)) ∧ w' = w.alloc (.cells ((Lib.splitB ⟨#[44]⟩ 0 (Lib.countB s ⟨#[44]⟩) s).map Value.string).toArray 9) from key).mono ?_
  rintro e w' ⟨rfl, rfl⟩
  have hp := split_pieces s
  have hlen := Lib.splitB_all ⟨#[44]⟩ (by decide) 0 _ s rfl
  generalize Lib.splitB ⟨#[44]⟩ 0 (Lib.countB s ⟨#[44]⟩) s = L at *
  obtain ⟨h1, h2⟩ := nPt_some hn
  have hl : nPt s.data.toList = L.length := by rw [h1, ← hp]; simp
  rw [← hlen, ← hl]
  refine ⟨⟨_, _, _, rfl, ⟨_, heap_alloc_new w _⟩, fun i hi => ?_⟩, (Below.refl _ _).alloc (Nat.le_refl _) _⟩
  rw [cell_of_row _ _ i (L.map Value.string).toArray 9 (0, 0) (heap_alloc_new w _)]
  have hiL : i < L.length := by omega
  have e1 : pt s.data.toList i = L[i].data.toList := by
    rw [h2 i]
    unfold cutP
    rw [← hp, List.getD_eq_getElem?_getD]
    simp [hiL]
  rw [e1, byteArray_eta]
  simp [hiL]
/-- the pieces: none where the text is 'none' -/
theorem pieces_any (s : ByteArray) (w : World) (hs : s.size ≤ 1048576) (hm : Maxi w) :
    Calls Tryd.prog 52 #[.string s] w fun e w' => ((nPt s.data.toList = 0 ∧ e = .returned (.slice none 0 0)) ∨ ∃ g cap cur, e = .returned (.slice (some ⟨g, 0, none⟩) (nPt s.data.toList) cap) ∧ SBlk w' g cur ∧ ∀ i, i < nPt s.data.toList → w'.cell? ⟨g, i, none⟩ = some (.string ⟨(pt s.data.toList i).toArray⟩)) ∧ Below w.heap.size w w' := by
  by_cases hn : noneB s
  · obtain ⟨q1, q2⟩ := none_yes hn
    have H0 := Lib.hid (nPt_none hn)
    clear hn
    go_enter Tryd.func52, Tryd.ntmps52
    go_wp2
    go_ret
    exact ⟨.inl ⟨H0.out, rfl⟩, Below.refl _ _⟩
  · obtain ⟨q1, q2⟩ := none_no hn
    have HC := Lib.hid (split_any s w hs hn hm)
    clear hn hm
    go_enter Tryd.func52, Tryd.ntmps52
    go_wp2_with fail
    refine HC.out.mono ?_
    rintro e w1 ⟨⟨g, cap, cur, rfl, hblk, hcell⟩, hb⟩
    have HS := Lib.hid hblk
    have HV := Lib.hid hcell
    have HB := Lib.hid hb
    clear hblk hcell hb HC
    go_wp2
    go_ret
    exact ⟨.inr ⟨g, cap, cur, rfl, HS.out, HV.out⟩, HB.out⟩
/-- all the texts are values' decimals -/
def allV (l : List UInt8) : Bool := decide (∀ i, i < nPt l → (rdR (pt l i)).isSome = true)
theorem allV_bad {l : List UInt8} {k : Nat} (hk : k < nPt l) (h : rdR (pt l k) = none) : allV l = false := by
  unfold allV
  rw [decide_eq_false_iff_not]
  exact fun hh => by have := hh k hk; rw [h] at this; cases this
theorem lrOk_all (l : List UInt8) : lrOk l = (allV l && decide (nPt l ≤ 64)) := rfl
set_option maxRecDepth 100000 in
set_option maxHeartbeats 2000000 in
theorem readList_any (s : ByteArray) (w : World) (hs : s.size ≤ 1048576) (hm : Maxi w) (hp : Pow w) (he : Errs w) :
    Calls Tryd.prog 50 #[.string s] w fun e w' => (allV s.data.toList = false ∧ e = .returned (.tuple #[.slice none 0 0, .bool false]) ∨
      allV s.data.toList = true ∧ ∃ A c, e = .returned (.tuple #[.slice A (nPt s.data.toList) c, .bool true]) ∧ OwnV w' 2 A (nPt s.data.toList) (fun i => .int .i64 (lrV s.data.toList i)) w.heap.size w'.heap.size) ∧ Below w.heap.size w w' := by
  obtain ⟨i0, hi0, hz0, hz1, hz2⟩ := info_parts i64_info
  have HM := Lib.hid hm
  have HP := Lib.hid hp
  have HE := Lib.hid he
  have HLL := Lib.hid (show s.data.toList.length = s.size by simp)
  have HCut := Lib.hid (fun W h => pieces_any s W hs h)
  have HVal := Lib.hid (fun (i : Nat) (W : World) (h1 : Pow W) (h2 : Errs W) => show Calls Tryd.prog 21 #[.string ⟨(pt s.data.toList i).toArray⟩] W fun e w' => e = .returned (rdT (rdR (pt s.data.toList i))) ∧ Below W.heap.size W w' from
    readDecI ⟨(pt s.data.toList i).toArray⟩ W (by have := pt_len s.data.toList i; have e := HLL.out; simp [ByteArray.size]; omega) h1 h2)
  have hnp : nPt s.data.toList ≤ s.size + 1 := by
    by_cases hn : noneB s
    · rw [nPt_none hn]; omega
    · rw [(nPt_some hn).1, ← HLL.out]
      exact cutL_count _
  clear hm hp he
  go_enter Tryd.func50, Tryd.ntmps50
  go_wp2_with fail
  refine (HCut.out _ (HM.out.below ((Below.refl _ _).alloc (Nat.le_refl _) _))).mono ?_
  rintro e w1 ⟨hparts, hb⟩
  have HB1 := Lib.hid (((Below.refl w.heap.size w).alloc (Nat.le_refl _) _).trans (hb.mono (by simp)))
  have HO1 := Lib.hid (owns_below (World.ownsRow_lit (base := w.heap.size) (e := 2) (size := 1) w #[] 0 (Nat.le_refl _) (by decide) rfl) hb)
  clear hb
  rcases hparts with ⟨h0, rfl⟩ | ⟨g, cap, cur, rfl, hblk, hcell⟩
  · have hall : allV s.data.toList = true := by
      unfold allV
      exact decide_eq_true (fun i hi => by omega)
    have HA := Lib.hid hall
    have H0 := Lib.hid h0
    clear hall h0
    go_wp2
    go_loopw [4, 13] (fun tv ti wx => tv = .slice (some ⟨w.heap.size, 0, none⟩) 0 0 ∧ ti = .int .i64 0 ∧ wx = w1) (fun _ _ _ => 0)
    case atStart => exact ⟨rfl, rfl, rfl⟩
    case round =>
      obtain ⟨rfl, rfl, rfl⟩ := hrel
      go_wp2
      go_ret2
      first
        | exact ⟨.inr ⟨HA.out, _, _, by rw [H0.out]; rfl, by rw [H0.out]; exact .inl rfl⟩, HB1.out⟩
        | exact ⟨.inr ⟨HA.out, _, ⟨_, by rw [H0.out]; rfl⟩, by rw [H0.out]; exact .inl rfl⟩, HB1.out⟩
  · have HC := Lib.hid hcell
    have HS1 := Lib.hid hblk
    clear hcell hblk
    go_wp2
    go_loopw [4, 13] (fun tv ti wx => ∃ (v : Value) (k : Nat), v = tv ∧ ti = .int .i64 k ∧ k ≤ nPt s.data.toList ∧ VOwn wx w.heap.size v s.data.toList k ∧ (∀ j, j < k → (rdR (pt s.data.toList j)).isSome = true) ∧ Below w.heap.size w wx ∧ wx.heap[g]? = w1.heap[g]?) (fun _ ti _ => nPt s.data.toList - (intOf ti).toNat)
    case atStart => exact ⟨_, 0, rfl, rfl, Nat.zero_le _, HO1.out, fun j hj => by omega, HB1.out, rfl⟩
    case round =>
      obtain ⟨v, k, rfl, rfl, hk, hown, hok, hbel, hbel1⟩ := hrel
      have HN := Lib.hid hown
      have HK := Lib.hid hok
      have HB := Lib.hid hbel
      have HBB := Lib.hid hbel1
      have hcell : ∀ i, i < nPt s.data.toList → wr.cell? ⟨g, i, none⟩ = some (.string ⟨(pt s.data.toList i).toArray⟩) := fun i hi => (World.cell?_of_block (w := w1) hbel1).trans (HC.out i hi)
      clear hown hok hbel hbel1
      by_cases hlt : k < nPt s.data.toList
      · have hlt' : (k : Int) < (nPt s.data.toList : Int) := by omega
        have ck := hcell k hlt
        clear hcell
        have HV := Lib.hid (HVal.out k wr (HP.out.below HB.out) (HE.out.below HB.out))
        cases hr : rdR (pt s.data.toList k) with
        | none =>
          rw [hr] at HV
          unfold rdT at HV
          have E1 := Lib.hid (allV_bad hlt hr)
          clear hr
          go_wp2_with fail
          refine HV.out.mono ?_
          rintro e w2 ⟨rfl, hb2⟩
          have HB2 := Lib.hid (HB.out.trans (hb2.mono HB.out.size))
          clear hb2
          go_wp2
          go_ret2
          exact ⟨.inl ⟨E1.out, rfl⟩, HB2.out⟩
        | some x =>
          have hx : x = lrV s.data.toList k := by unfold lrV; rw [hr]; rfl
          have hsome : (rdR (pt s.data.toList k)).isSome = true := by rw [hr]; rfl
          rw [hr] at HV
          unfold rdT at HV
          have HX := Lib.hid hx
          have HS := Lib.hid hsome
          clear hx hsome hr
          go_wp2_with fail
          refine HV.out.mono ?_
          rintro e w2 ⟨rfl, hb2⟩
          have HN2 := Lib.hid (show w2.ownsRow w.heap.size 2 1 v k ((List.range k).map fun i => .int .i64 (lrV s.data.toList i)) from owns_below HN.out hb2)
          have HB2 := Lib.hid (HB.out.trans (hb2.mono HB.out.size))
          have HBB2 := Lib.hid (show w2.heap[g]? = w1.heap[g]? from (hb2.block g (HS1.out.of_eq HBB.out).lt).trans HBB.out)
          clear hb2
          go_wp2_with (first | (at_builtin; refine wpList_append_own _ rfl _ _ 24 rfl w.heap.size 2 i0 (.int .i64 0) 1 8 Tryd.underlying24 hi0 hz0 hz1 hz2 rfl (by decide) _ _ _ rfl (HN2.out.alloc _) ⟨w2.heap.size, 0, none⟩ 1 1 [.int .i64 x] rfl rfl ?c1 ?c2 ?c3 ?c4 ?c5 ?_))
          case c1 => exact news_cells rfl
          case c2 => intro u hu; simp at hu; rcases hu with rfl; rfl
          case c3 => unfold maxLen; omega
          case c4 => omega
          case c5 => have := HB2.out.size; simp <;> omega
          intro v' w3 hown1 hgrow _
          have HN3 := Lib.hid (VOwn.more HX.out hown1)
          have HB3 := Lib.hid ((HB2.out.alloc HB2.out.size _).grown hgrow (by have := HB2.out.size; simp; omega) (fun k hk => (HN2.out.lt k hk).1))
          have hs2 := HS1.out.of_eq HBB2.out
          have HBB3 := Lib.hid (show w3.heap[g]? = w1.heap[g]? from ((hgrow.block g (by have := hs2.lt; simp; omega) (hs2.not_own HN2.out)).trans (blk_alloc_lt _ _ _ hs2.lt)).trans HBB2.out)
          clear hs2
          clear hown1 hgrow
          go_wp2
          go_roundw
          case rel => exact ⟨_, k + 1, rfl, by go_num, by omega, HN3.out, fun j hj => by by_cases e : j = k; (· subst e; exact HS.out); (· exact HK.out j (by omega)), HB3.out, HBB3.out⟩
          case measure => simp [intOf]; omega
      · have hke : k = nPt s.data.toList := by omega
        have hall : allV s.data.toList = true := by
          unfold allV
          exact decide_eq_true (fun i hi => HK.out i (by omega))
        obtain ⟨A, cA, rfl, ho⟩ := OwnV.of_map HN.out
        have E1 := Lib.hid hall
        have E2 := Lib.hid hke.symm
        have E3 := Lib.hid ho
        have hnl : ¬ (k : Int) < (nPt s.data.toList : Int) := by omega
        clear hall ho hcell hke
        go_wp2
        go_ret2
        first
          | exact ⟨.inr ⟨E1.out, A, cA, by rw [E2.out]; rfl, by rw [E2.out]; exact E3.out⟩, HB.out⟩
          | exact ⟨.inr ⟨E1.out, A, ⟨cA, by rw [E2.out]; rfl⟩, by rw [E2.out]; exact E3.out⟩, HB.out⟩
set_option maxHeartbeats 1000000 in
theorem readListI (s : ByteArray) (w : World) (hs : s.size ≤ 1048576) (hm : Maxi w) (hp : Pow w) (he : Errs w) :
    Calls Tryd.prog 23 #[.string s] w fun e w' => GaveL w w' e s := by
  have HC := Lib.hid (readList_any s w hs hm hp he)
  have HO := Lib.hid (lrOk_all s.data.toList)
  have HN := Lib.hid (show lrN s.data.toList = if lrOk s.data.toList then nPt s.data.toList else 0 from rfl)
  clear hm hp he
  unfold GaveL
  generalize lrN s.data.toList = ln at *
  generalize lrOk s.data.toList = lo at *
  generalize nPt s.data.toList = n at *
  generalize allV s.data.toList = av at *
  go_enter Tryd.func23, Tryd.ntmps23
  go_wp2_with fail
  refine HC.out.mono ?_
  rintro e w1 ⟨⟨rfl, rfl⟩ | ⟨rfl, A, c, rfl, ho⟩, hb⟩
  · have HB := Lib.hid hb
    have e1 : lo = false := by rw [HO.out]; rfl
    have e2 : ln = 0 := by rw [HN.out, e1]; rfl
    clear hb HC HO HN
    subst e1 e2
    go_wp2
    go_ret2
    first
      | exact ⟨_, _, rfl, .inl rfl, HB.out⟩
      | exact ⟨_, ⟨_, rfl⟩, .inl rfl, HB.out⟩
  · have HB := Lib.hid hb
    have HW := Lib.hid ho
    by_cases hgt : (n : Int) > 64
    · have e1 : lo = false := by rw [HO.out, Bool.true_and]; simp; omega
      have e2 : ln = 0 := by rw [HN.out, e1]; rfl
      clear hb ho HC HO HN
      subst e1 e2
      go_wp2
      go_ret2
      first
        | exact ⟨_, _, rfl, .inl rfl, HB.out⟩
        | exact ⟨_, ⟨_, rfl⟩, .inl rfl, HB.out⟩
    · have e1 : lo = true := by rw [HO.out, Bool.true_and]; simp; omega
      have e2 : ln = n := by rw [HN.out, e1]; rfl
      clear hb ho HC HO HN
      subst e1 e2
      go_wp2
      go_ret2
      first
        | exact ⟨A, c, rfl, HW.out, HB.out⟩
        | exact ⟨A, ⟨c, rfl⟩, HW.out, HB.out⟩
end Go.Proofs.YtmpeogpmlgnmfaaDoor
