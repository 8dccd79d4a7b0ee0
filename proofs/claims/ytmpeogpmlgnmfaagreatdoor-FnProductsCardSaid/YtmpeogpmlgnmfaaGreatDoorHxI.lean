/- The program's reading of a list of numbers: each piece read, the text of what was read held against the text. -/
import Derived.Test.YtmpeogpmlgnmfaaGreatDoorHxS
import Derived.Test.YtmpeogpmlgnmfaaGreatDoorPu16
import Derived.Test.YtmpeogpmlgnmfaaGreatDoorNt
import Derived.Test.YtmpeogpmlgnmfaaGreatDoorRlI
namespace Go.Proofs.YtmpeogpmlgnmfaaGreatDoor
set_option maxRecDepth 100000
open Go.RowKit Go.Deep Flt

theorem hexD_ne (d : Nat) (h : d < 16) : hexD d ≠ 44 := by
  have key : ∀ d : Fin 16, hexD d.val ≠ 44 := by decide
  exact key ⟨d, h⟩
theorem hexN_ne : ∀ (k u : Nat), ∀ c ∈ hexN k u, c ≠ 44
  | 0, _, c, h => by cases h
  | k + 1, u, c, h => by
    rw [hexN] at h
    rcases List.mem_append.1 h with h1 | h1
    · exact hexN_ne k _ c h1
    · obtain rfl : c = hexD (u % 16) := by simpa using h1
      exact hexD_ne _ (Nat.mod_lt _ (by omega))
theorem cutL_join : ∀ (L : List (List UInt8)), L ≠ [] → (∀ p ∈ L, ∀ c ∈ p, c ≠ 44) → cutL (Lib.join L [44]) = L
  | [], h, _ => absurd rfl h
  | [x], _, h => by rw [Lib.join_one]; exact cutL_end x (h x (by simp))
  | x :: y :: r, _, h => by
    have e : Lib.join (x :: y :: r) [44] = x ++ 44 :: Lib.join (y :: r) [44] := by
      rw [Lib.join_cons, Lib.join_cons]
      simp [Lib.joinTail]
    rw [e, cutL_hit _ x (h x (by simp)), cutL_join (y :: r) (by simp) fun p hp => h p (by simp [hp])]
theorem join_cutL : ∀ (l : List UInt8), Lib.join (cutL l) [44] = l
  | [] => by simp [cutL, Lib.join_one]
  | c :: r => by
    have ih := join_cutL r
    obtain ⟨p, ps, e⟩ := cutL_ne r
    by_cases hc : c = 44
    · subst hc
      rw [cutL_yes, e, Lib.join_cons]
      rw [e, Lib.join_cons] at ih
      rw [← ih]
      simp [Lib.joinTail]
    · rw [cutL_no hc e, Lib.join_cons]
      rw [e, Lib.join_cons] at ih
      rw [List.cons_append, ih]
/-- the text of what was read is the text: each piece is what its number's digits are -/
theorem text_same (s : ByteArray) (F : Nat → List UInt8) (hF : ∀ i, ∀ c ∈ F i, c ≠ 44) : joinT F (nPt s.data.toList) = s.data.toList ↔ ∀ i, i < nPt s.data.toList → F i = pt s.data.toList i := by
  by_cases hn : noneB s
  · rw [nPt_none hn]
    exact ⟨fun _ i hi => by omega, fun _ => (show joinT F 0 = none4 from rfl).trans (show s.data.toList = _ from hn).symm⟩
  · obtain ⟨h1, h2⟩ := nPt_some hn
    have hpos : (cutL s.data.toList).length ≠ 0 := by
      obtain ⟨p, ps, e⟩ := cutL_ne s.data.toList
      rw [e]; simp
    have hx : txts F (cutL s.data.toList).length = cutL s.data.toList ↔ ∀ i, i < (cutL s.data.toList).length → F i = cutP s.data.toList i := by
      constructor
      · intro e i hi
        unfold cutP
        rw [← e]
        simp [txts, List.getD, hi]
      · intro e
        apply List.ext_getElem
        · simp [txts]
        · intro i a1 a2
          have := e i a2
          unfold cutP at this
          simp [txts, this, List.getD, a2]
    rw [h1]
    unfold joinT
    rw [if_neg hpos]
    constructor
    · intro e i hi
      rw [h2 i]
      refine hx.1 ?_ i hi
      rw [← cutL_join (txts F (cutL s.data.toList).length) ?_ ?_, e]
      · intro e0
        have := congrArg List.length e0
        simp [txts] at this
        exact hpos (by rw [this]; rfl)
      · intro p hp c hcp
        unfold txts at hp
        obtain ⟨i, _, rfl⟩ := List.mem_map.1 hp
        exact hF i c hcp
    · intro e
      rw [hx.2 fun i hi => by rw [← h2 i]; exact e i hi]
      exact join_cutL _
/-- the number read stands to its piece -/
def Rd1 (p : List UInt8) (x : Nat) : Prop := p.length = 8 ∧ ∀ v, hv p = some v → x = v
theorem read_yes {l : List UInt8} {f : Nat → Nat} (h32 : ∀ j, f j < 4294967296) (hr : ∀ j, j < nPt l → Rd1 (pt l j) (f j)) (hn : nPt l ≤ 256) (e : ∀ i, i < nPt l → hxX f i = pt l i) : nrOk l = true ∧ ∀ i, i < nPt l → f i = nrV l i := by
  have h1 : ∀ i, i < nPt l → rn (pt l i) = some (f i) := fun i hi => (rn_ask (h32 i) (hr i hi).2).1 (e i hi)
  exact ⟨nrOk_yes (fun i hi => by rw [h1 i hi]; rfl) hn, fun i hi => by unfold nrV; rw [h1 i hi]; rfl⟩
theorem read_no {l : List UInt8} {f : Nat → Nat} (h32 : ∀ j, f j < 4294967296) (hr : ∀ j, j < nPt l → Rd1 (pt l j) (f j)) (e : ¬ ∀ i, i < nPt l → hxX f i = pt l i) : nrOk l = false := by
  cases ho : nrOk l with
  | false => rfl
  | true =>
    exfalso
    apply e
    intro i hi
    unfold nrOk nrAll at ho
    simp only [Bool.and_eq_true, decide_eq_true_eq] at ho
    have hs := ho.1 i hi
    cases h1 : rn (pt l i) with
    | none => rw [h1] at hs; cases hs
    | some v =>
      have h2 := rn_some h1
      have hv' := (hr i hi).2 v h2.2.1
      exact (rn_ask (h32 i) (hr i hi).2).2 (by rw [h1, hv'])
theorem OwnV.rowF {w : World} {A : Option Addr} {n lo hi : Nat} {f : Nat → Nat} (h : OwnV w 28 A n (fun i => .float .f32 (f i)) lo hi) : RowF w A f n := by
  rcases h with h0 | ⟨g, m, k, rfl, _, _, hr, hm, hf⟩
  · exact .inl h0
  · exact .inr ⟨g, 0, rfl, fun i hi => by rw [Nat.zero_add, hr.cell (i := i) (by omega), hf i hi]⟩
theorem OwnV.congr {w : World} {T : TypeId} {A : Option Addr} {n lo hi : Nat} {f g : Nat → Value} (h : OwnV w T A n f lo hi) (e : ∀ i, i < n → f i = g i) : OwnV w T A n g lo hi := by
  rcases h with h0 | ⟨b, m, k, h1, h2, h3, h4, h5, h6⟩
  · exact .inl h0
  · exact .inr ⟨b, m, k, h1, h2, h3, h4, h5, fun i hi => (h6 i hi).trans (e i hi)⟩
def updF (f : Nat → Nat) (k x : Nat) (j : Nat) : Nat := if j = k then x else f j
theorem updF_at (f : Nat → Nat) (k x : Nat) : updF f k x k = x := if_pos rfl
theorem updF_lt (f : Nat → Nat) {k x j : Nat} (h : j < k) : updF f k x j = f j := if_neg (by omega)
set_option maxRecDepth 100000 in
set_option maxHeartbeats 8000000 in
theorem readNumbersI (s : ByteArray) (w : World) (hs : s.size ≤ 1048576) (hm : Maxi w) (hp : Tz w) (he : Errs w) :
    Calls Tryz.prog 32 #[.string s] w fun e w' => GaveN w w' e s := by
  obtain ⟨i0, hi0, hz0, hz1, hz2⟩ := info_parts info_f32
  have HM := Lib.hid hm
  have HP := Lib.hid hp
  have HE := Lib.hid he
  have HLL := Lib.hid (show s.data.toList.length = s.size by simp)
  have HCut := Lib.hid (fun W h => pieces_any s W hs h)
  have HTS := Lib.hid (fun F h => text_same s F h)
  have HSE := Lib.hid (fun x h => And.intro (str_eq s x h) (str_eq' s x h))
  have HSN := Lib.hid (fun x h => And.intro (str_ne s x h) (str_ne' s x h))
  have hnp : nPt s.data.toList ≤ s.size + 1 := by
    by_cases hn : noneB s
    · rw [nPt_none hn]; omega
    · rw [(nPt_some hn).1, ← HLL.out]
      exact cutL_count _
  clear hm hp he
  go_enter Tryz.func32, Tryz.ntmps32
  go_wp2_with fail
  refine (HCut.out _ (HM.out.below ((Below.refl _ _).alloc (Nat.le_refl _) _))).mono ?_
  rintro e w1 ⟨hparts, hb⟩
  have HB1 := Lib.hid (((Below.refl w.heap.size w).alloc (Nat.le_refl _) _).trans (hb.mono (by simp)))
  have HO1 := Lib.hid (owns_below (World.ownsRow_lit (base := w.heap.size) (e := 28) (size := 1) w #[] 0 (Nat.le_refl _) (by decide) rfl) hb)
  clear hb
  obtain ⟨A0, c0, HA0, HPA⟩ : ∃ A0 c0, Hid (e = .returned (.slice A0 (nPt s.data.toList) c0)) ∧ Hid (nPt s.data.toList = 0 ∨ ∃ g cur, A0 = some ⟨g, 0, none⟩ ∧ SBlk w1 g cur ∧ ∀ i, i < nPt s.data.toList → w1.cell? ⟨g, i, none⟩ = some (.string ⟨(pt s.data.toList i).toArray⟩)) := by
    rcases hparts with ⟨h0, rfl⟩ | ⟨g, cap, cur, rfl, hblk, hcell⟩
    · exact ⟨none, 0, Lib.hid (by rw [h0]), Lib.hid (.inl h0)⟩
    · exact ⟨_, _, Lib.hid rfl, Lib.hid (.inr ⟨g, cur, rfl, hblk, hcell⟩)⟩
  clear hparts
  obtain rfl := HA0.out
  clear HA0
  go_wp2
  go_loopw [4, 13] (fun tv ti wx => ∃ (v : Value) (k : Nat) (f : Nat → Nat), v = tv ∧ ti = .int .i64 k ∧ k ≤ nPt s.data.toList ∧ k ≤ 256 ∧ FOwn wx w.heap.size v f k ∧ Hid ((∀ j, f j < 4294967296) ∧ ∀ j, j < k → Rd1 (pt s.data.toList j) (f j)) ∧ Below w.heap.size w wx ∧ Hid (∀ g cur, SBlk w1 g cur → wx.heap[g]? = w1.heap[g]?)) (fun _ ti _ => nPt s.data.toList - (intOf ti).toNat)
  case atStart => exact ⟨_, 0, fun _ => 0, rfl, rfl, Nat.zero_le _, Nat.zero_le _, HO1.out, Lib.hid ⟨fun _ => (by show (0 : Nat) < 4294967296; decide), fun j hj => by omega⟩, HB1.out, Lib.hid fun _ _ _ => rfl⟩
  case round =>
    obtain ⟨v, k, f, rfl, rfl, hk, hk256, hown, HF, hbel, HBB⟩ := hrel
    have HN := Lib.hid hown
    have HB := Lib.hid hbel
    clear hown hbel
    by_cases hlt : k < nPt s.data.toList
    · have hlt' : (k : Int) < (nPt s.data.toList : Int) := by omega
      rcases HPA.out with h0 | ⟨g, cur, rfl, hblk, hcell⟩
      · omega
      have ck : wr.cell? ⟨g, k, none⟩ = some (.string ⟨(pt s.data.toList k).toArray⟩) := (World.cell?_of_block (w := w1) (HBB.out g cur hblk)).trans (hcell k hlt)
      have HS1 := Lib.hid hblk
      clear hcell hblk
      have HBad := Lib.hid (fun h => nrOk_bad hlt h)
      have HPL := Lib.hid (pt_len s.data.toList k)
      generalize hpt : pt s.data.toList k = q at ck HBad HPL
      have HPT := Lib.hid hpt
      clear hpt
      obtain ⟨Q, hQ⟩ : ∃ Q : ByteArray, Q = ⟨q.toArray⟩ := ⟨_, rfl⟩
      have hQs : Q.size = q.length := by rw [hQ]; simp [ByteArray.size]
      have hQd : Q.data.toList = q := by rw [hQ]
      rw [← hQ] at ck
      clear hQ
      obtain ⟨A1, c1, hv1⟩ : ∃ A1 c1, v = .slice A1 k c1 := by
        obtain ⟨A, c, e, _⟩ := OwnV.of_map HN.out
        exact ⟨A, c, e⟩
      by_cases h8 : q.length = 8
      · by_cases hfull : k = 256
        · have h8' : ((Q.size : Int) != 8) = false := by rw [hQs, h8]; rfl
          have hko := nrOk_many (l := s.data.toList) (by omega)
          have E1 := Lib.hid hko
          have E2 := Lib.hid (nrN_no hko)
          have hfk : ((k : Int) == 256) = true := by rw [hfull]; rfl
          subst hv1
          clear hko hfull h8 hQs hQd
          go_wp2
          go_ret2
          exact ⟨_, _, by rw [E1.out, E2.out]; rfl, by rw [E2.out]; exact .inl rfl, HB.out⟩
        · have h8' : ((Q.size : Int) != 8) = false := by rw [hQs, h8]; rfl
          have hfk : ((k : Int) == 256) = false := by simp; omega
          have HR := Lib.hid (fun W (h : Errs W) => show Calls Tryz.prog 50 #[.string Q] W fun e w' => RhO q e ∧ Below W.heap.size W w' by
            have := readHex_any Q (by omega) W h; rw [hQd] at this; exact this)
          have H8 := Lib.hid h8
          have HV1 := Lib.hid (HN.out)
          subst hv1
          clear h8 hQs hQd
          go_wp2_with fail
          refine (HR.out _ (HE.out.below HB.out)).mono ?_
          rintro e w2 ⟨⟨x, hx, hxv, rfl⟩, hb2⟩
          have HX := Lib.hid hxv
          have HN2 := Lib.hid (show w2.ownsRow w.heap.size 28 1 (.slice A1 k c1) k ((List.range k).map fun i => .float .f32 (f i)) from owns_below HN.out hb2)
          have HB2 := Lib.hid (HB.out.trans (hb2.mono HB.out.size))
          have HBB2 := Lib.hid (show ∀ g cur, SBlk w1 g cur → w2.heap[g]? = w1.heap[g]? from fun g cur h => (hb2.block g (h.of_eq (HBB.out g cur h)).lt).trans (HBB.out g cur h))
          clear hb2 hxv
          go_wp2_with (first | (at_builtin; refine wpList_append_own _ rfl _ _ 52 rfl w.heap.size 28 i0 (.float .f32 0) 1 4 Tryz.underlying52 hi0 hz0 hz1 hz2 rfl (by decide) _ _ _ rfl (HN2.out.alloc _) ⟨w2.heap.size, 0, none⟩ 1 1 [.float .f32 x] rfl rfl ?c1 ?c2 ?c3 ?c4 ?c5 ?_))
          case c1 => exact news_cells rfl
          case c2 => intro u hu; simp at hu; rcases hu with rfl; rfl
          case c3 => unfold maxLen; omega
          case c4 => omega
          case c5 => have := HB2.out.size; simp <;> omega
          intro v' w3 hown1 hgrow _
          have HN3 := Lib.hid (show FOwn w3 w.heap.size v' (updF f k x) (k + 1) by
            refine FOwn.more (updF_at f k x).symm ?_
            have e : ((List.range k).map fun i => Value.float .f32 (f i)) = (List.range k).map fun i => Value.float .f32 (updF f k x i) := List.map_congr_left fun i hi => by rw [updF_lt f (by simpa using hi)]
            rw [← e]
            exact hown1)
          have HB3 := Lib.hid ((HB2.out.alloc HB2.out.size _).grown hgrow (by have := HB2.out.size; simp; omega) (fun k hk => (HN2.out.lt k hk).1))
          have HBB3 := Lib.hid (show ∀ g cur, SBlk w1 g cur → w3.heap[g]? = w1.heap[g]? from fun g cur h => by
            have hs2 := h.of_eq (HBB2.out g cur h)
            exact ((hgrow.block g (by have := hs2.lt; simp; omega) (hs2.not_ownF (by decide) HN2.out)).trans (blk_alloc_lt _ _ _ hs2.lt)).trans (HBB2.out g cur h))
          have HF3 := Lib.hid (show (∀ j, updF f k x j < 4294967296) ∧ ∀ j, j < k + 1 → Rd1 (pt s.data.toList j) (updF f k x j) from
            ⟨fun j => by unfold updF; split; (· exact hx); (· exact HF.out.1 j), fun j hj => by
              by_cases e : j = k
              · subst e
                rw [updF_at, HPT.out]
                exact ⟨H8.out, HX.out⟩
              · rw [updF_lt f (by omega)]
                exact HF.out.2 j (by omega)⟩)
          clear hown1 hgrow
          go_wp2
          go_roundw
          case rel => exact ⟨_, k + 1, updF f k x, rfl, by go_num, by omega, by omega, HN3.out, HF3, HB3.out, HBB3⟩
          case measure => simp [intOf]; omega
      · have h8' : ((Q.size : Int) != 8) = true := by simp; omega
        have hko := HBad.out (rn_short h8)
        have E1 := Lib.hid hko
        have E2 := Lib.hid (nrN_no hko)
        clear hko h8 hQs hQd
        go_wp2
        go_ret2
        exact ⟨_, _, by rw [E1.out, E2.out]; rfl, by rw [E2.out]; exact .inl rfl, HB.out⟩
    · have hke : k = nPt s.data.toList := by omega
      obtain ⟨A, cA, rfl, ho⟩ := OwnV.of_map HN.out
      have HO := Lib.hid ho
      have HT := Lib.hid (numbersTextI A f k cA wr ho.rowF HF.out.1 (HP.out.below HB.out) (by omega))
      have hok : okN k = true := by unfold okN; simpa using hk256
      have hnt : ntT f k = joinT (hxX f) k := by unfold ntT; rw [if_pos hok]
      rw [hok, hnt] at HT
      have HK := Lib.hid hke
      have hnl : ¬ (k : Int) < (nPt s.data.toList : Int) := by omega
      clear ho hok hnt hlt hke
      by_cases hsame : ∀ i, i < nPt s.data.toList → hxX f i = pt s.data.toList i
      · obtain ⟨hko, hvs⟩ := read_yes (l := s.data.toList) HF.out.1 (fun j hj => HF.out.2 j (by have := HK.out; omega)) (by have := HK.out; omega) hsame
        have E1 := Lib.hid hko
        have E2 := Lib.hid ((nrN_yes hko).trans HK.out.symm)
        have E3 := Lib.hid (HO.out.congr (g := fun i => .float .f32 (nrV s.data.toList i)) fun i hi => by rw [hvs i (by have := HK.out; omega)])
        have hj : joinT (hxX f) k = s.data.toList := by rw [HK.out]; exact (HTS.out (hxX f) fun i => hexN_ne 8 _).2 hsame
        obtain ⟨q1, q2⟩ := HSE.out _ hj
        clear hko hvs hj hsame
        generalize joinT (hxX f) k = t at *
        unfold strV at HT
        go_wp2_with fail
        refine HT.out.mono ?_
        rintro e w2 ⟨rfl, hb2⟩
        have HB2 := Lib.hid (HB.out.trans (hb2.mono HB.out.size))
        have E4 := Lib.hid ((E3.out.below hb2).more (Nat.le_refl _) hb2.size)
        clear hb2
        go_wp2
        go_ret2
        exact ⟨A, cA, by rw [E1.out, E2.out]; rfl, by rw [E2.out]; exact E4.out, HB2.out⟩
      · have hko := read_no (l := s.data.toList) HF.out.1 (fun j hj => HF.out.2 j (by have := HK.out; omega)) hsame
        have E1 := Lib.hid hko
        have E2 := Lib.hid (nrN_no hko)
        have hj : ¬ joinT (hxX f) k = s.data.toList := by rw [HK.out]; exact fun h => hsame ((HTS.out (hxX f) fun i => hexN_ne 8 _).1 h)
        obtain ⟨q1, q2⟩ := HSN.out _ hj
        clear hko hj hsame
        generalize joinT (hxX f) k = t at *
        unfold strV at HT
        go_wp2_with fail
        refine HT.out.mono ?_
        rintro e w2 ⟨rfl, hb2⟩
        have HB2 := Lib.hid (HB.out.trans (hb2.mono HB.out.size))
        clear hb2
        go_wp2
        go_ret2
        exact ⟨_, _, by rw [E1.out, E2.out]; rfl, by rw [E2.out]; exact .inl rfl, HB2.out⟩
end Go.Proofs.YtmpeogpmlgnmfaaGreatDoor
