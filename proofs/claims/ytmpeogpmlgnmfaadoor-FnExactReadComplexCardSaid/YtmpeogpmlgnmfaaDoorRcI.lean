/- The program's reading of a list of complex numbers; both texts' ReadComplex. -/
import Derived.Test.YtmpeogpmlgnmfaaDoorRcS
import Derived.Deep.RegionLaw
namespace Go.Proofs.YtmpeogpmlgnmfaaDoor
open Go.RowKit Go.Deep Flt

/-- append to a slice of the call's own, as one step of a region that draws its order -/
theorem step_append_own {P : Program} {ops : Array Oper} {o : Oper} {a : Act} {w : World} {K : Act → World → Prop} {Q : Exit → Act → World → Prop} {E : Prop}
    (hg : o.guard = none) (s x : Operand) (t : TypeId) (ho : o.op = .call { callee := .builtin .append, args := #[s, x], argTypes := #[t, t] })
    (base : Nat) (e : TypeId) (i : TypeInfo) (z : Value) (size bytes : Nat) (ht : P.underlying t = some (.slice e)) (hi : P.info? e = some i) (hz : i.zero = some z)
    (hsize : i.size = size) (hby : i.bytes = bytes) (hzs : z.cells.size = size) (hsz : 0 < size)
    (v : Value) (n : Nat) (xs : List Value) (hs : a.eval s = v) (hown : w.ownsRow base e size v n xs)
    (ad : Addr) (m c : Nat) (news : List Value) (hx : a.eval x = .slice (some ad) m c) (hl : news.length = m * size) (hnews : ∀ j u, news[j]? = some u → w.cell? (ad.add j) = some u) (h1 : ∀ u ∈ news, u.oneCell' = true)
    (h63 : n + m ≤ maxLen) (hbytes : (n + m) * bytes ≤ 140737488355328) (hbase : base ≤ w.heap.size)
    (h : ∀ v' w', w'.ownsRow base e size v' (n + m) (xs ++ news) → w.grownBy w' v.ownBlock → (v' = .slice none 0 0 ↔ v = .slice none 0 0 ∧ m = 0) → K (a.put o.dst v') w') :
    if Region.wanted o (yielded ops a.tmps) = true then Oper.wp P o a w K Q else E := by
  have hw : Region.wanted o (yielded ops a.tmps) = true := by simp [Region.wanted, hg]
  rw [if_pos hw]
  exact wp_append_own w s x t ho base e i z size bytes ht hi hz hsize hby hzs hsz v n xs hs hown ad m c news hx hl hnews h1 h63 hbytes hbase h
theorem hcX_ne (f g : Nat → Nat) (i : Nat) : ∀ c ∈ hcX f g i, c ≠ 44 := fun c h => by
  rcases List.mem_append.1 h with h1 | h1
  · exact hexN_ne 8 _ c h1
  · exact hexN_ne 8 _ c h1
set_option maxRecDepth 100000 in
set_option maxHeartbeats 2000000 in
theorem readComplexI (s : ByteArray) (w : World) (hs : s.size ≤ 1048576) (hm : Maxi w) (hp : Tz w) (he : Errs w) :
    Calls Tryd.prog 31 #[.string s] w fun e w' => GaveC w w' e s := by
  obtain ⟨i0, hi0, hz0, hz1, hz2⟩ := info_parts info_c64
  have HM := Lib.hid hm
  have HP := Lib.hid hp
  have HE := Lib.hid he
  have HLL := Lib.hid (show s.data.toList.length = s.size by simp)
  have HCut := Lib.hid (fun W h => pieces_any s W hs h)
  have HTS := Lib.hid (fun F h => text_same s F h)
  have HSE := Lib.hid (fun x h => And.intro (str_eq s x h) (str_eq' s x h))
  have HSN := Lib.hid (fun x h => And.intro (str_ne s x h) (str_ne' s x h))
  have hnp : nPt s.data.toList ≤ s.size + 1 := by
    by_cases hn : noneB s
    · rw [nPt_none hn]; omega
    · rw [(nPt_some hn).1, ← HLL.out]
      exact cutL_count _
  clear hm hp he
  go_enter Tryd.func31, Tryd.ntmps31
  go_wp2_with fail
  refine (HCut.out _ (HM.out.below ((Below.refl _ _).alloc (Nat.le_refl _) _))).mono ?_
  rintro e w1 ⟨hparts, hb⟩
  have HB1 := Lib.hid (((Below.refl w.heap.size w).alloc (Nat.le_refl _) _).trans (hb.mono (by simp)))
  have HO1 := Lib.hid (owns_below (World.ownsRow_lit (base := w.heap.size) (e := 64) (size := 1) w #[] 0 (Nat.le_refl _) (by decide) rfl) hb)
  clear hb
  obtain ⟨A0, c0, HA0, HPA⟩ : ∃ A0 c0, Hid (e = .returned (.slice A0 (nPt s.data.toList) c0)) ∧ Hid (nPt s.data.toList = 0 ∨ ∃ g cur, A0 = some ⟨g, 0, none⟩ ∧ SBlk w1 g cur ∧ ∀ i, i < nPt s.data.toList → w1.cell? ⟨g, i, none⟩ = some (.string ⟨(pt s.data.toList i).toArray⟩)) := by
    rcases hparts with ⟨h0, rfl⟩ | ⟨g, cap, cur, rfl, hblk, hcell⟩
    · exact ⟨none, 0, Lib.hid (by rw [h0]), Lib.hid (.inl h0)⟩
    · exact ⟨_, _, Lib.hid rfl, Lib.hid (.inr ⟨g, cur, rfl, hblk, hcell⟩)⟩
  clear hparts
  obtain rfl := HA0.out
  clear HA0
  go_wp2
  go_loopw [4, 13] (fun tv ti wx => ∃ (v : Value) (k : Nat) (f g : Nat → Nat), v = tv ∧ ti = .int .i64 k ∧ k ≤ nPt s.data.toList ∧ k ≤ 256 ∧ COwn wx w.heap.size v f g k ∧ Hid ((∀ j, f j < 4294967296 ∧ g j < 4294967296) ∧ ∀ j, j < k → Rd2 (pt s.data.toList j) (f j) (g j)) ∧ Below w.heap.size w wx ∧ Hid (∀ g cur, SBlk w1 g cur → wx.heap[g]? = w1.heap[g]?)) (fun _ ti _ => nPt s.data.toList - (intOf ti).toNat)
  case atStart => exact ⟨_, 0, fun _ => 0, fun _ => 0, rfl, rfl, Nat.zero_le _, Nat.zero_le _, HO1.out, Lib.hid ⟨fun _ => (by show (0 : Nat) < 4294967296 ∧ (0 : Nat) < 4294967296; decide), fun j hj => by omega⟩, HB1.out, Lib.hid fun _ _ _ => rfl⟩
  case round =>
    obtain ⟨v, k, f, g2, rfl, rfl, hk, hk256, hown, HF, hbel, HBB⟩ := hrel
    have HN := Lib.hid hown
    have HB := Lib.hid hbel
    clear hown hbel
    by_cases hlt : k < nPt s.data.toList
    · have hlt' : (k : Int) < (nPt s.data.toList : Int) := by omega
      rcases HPA.out with h0 | ⟨g, cur, rfl, hblk, hcell⟩
      · omega
      have ck : wr.cell? ⟨g, k, none⟩ = some (.string ⟨(pt s.data.toList k).toArray⟩) := (World.cell?_of_block (w := w1) (HBB.out g cur hblk)).trans (hcell k hlt)
      have HS1 := Lib.hid hblk
      clear hcell hblk
      have HBad := Lib.hid (fun h => crOk_bad hlt h)
      generalize hpt : pt s.data.toList k = q at ck HBad
      have HPT := Lib.hid hpt
      clear hpt
      obtain ⟨Q, hQ⟩ : ∃ Q : ByteArray, Q = ⟨q.toArray⟩ := ⟨_, rfl⟩
      have hQs : Q.size = q.length := by rw [hQ]; simp [ByteArray.size]
      have hQd : Q.data.toList = q := by rw [hQ]
      rw [← hQ] at ck
      clear hQ
      obtain ⟨A1, c1, hv1⟩ : ∃ A1 c1, v = .slice A1 k c1 := by
        obtain ⟨A, c, e, _⟩ := OwnV.of_map HN.out
        exact ⟨A, c, e⟩
      by_cases h16 : q.length = 16
      · have hs16 : Q.size = 16 := by omega
        have h16' : ((Q.size : Int) != 16) = false := by rw [hs16]; rfl
        have h8a : (8 : Int) ≤ (Q.size : Int) := by rw [hs16]; decide
        by_cases hfull : k = 256
        · have hko := crOk_many (l := s.data.toList) (by omega)
          have E1 := Lib.hid hko
          have E2 := Lib.hid (crN_no hko)
          have hfk : ((k : Int) == 256) = true := by rw [hfull]; rfl
          subst hv1
          clear hko hfull h16 hQs hQd hs16 h8a
          go_wp2
          go_ret2
          exact ⟨_, _, by rw [E1.out, E2.out]; rfl, by rw [E2.out]; exact .inl rfl, HB.out⟩
        · have hfk : ((k : Int) == 256) = false := by simp; omega
          have hd1 : (Q.extract 0 8).data.toList = q.take 8 := by rw [head8, hQd]
          have hd2 : (Q.extract 8 16).data.toList = q.drop 8 := by rw [tail8 Q hs16, hQd]
          have HR1 := Lib.hid (fun W (h : Errs W) => show Calls Tryd.prog 53 #[.string (Q.extract 0 8)] W fun e w' => RhO (q.take 8) e ∧ Below W.heap.size W w' by
            have := readHex_any (Q.extract 0 8) (head8_size Q hs16) W h; rw [hd1] at this; exact this)
          have HR2 := Lib.hid (fun W (h : Errs W) => show Calls Tryd.prog 53 #[.string (Q.extract 8 Q.size)] W fun e w' => RhO (q.drop 8) e ∧ Below W.heap.size W w' by
            have := readHex_any (Q.extract 8 16) (tail8_size Q hs16) W h; rw [hd2] at this; rw [hs16]; exact this)
          have H16 := Lib.hid h16
          subst hv1
          have HBD := Lib.hid (HB.out.trans ((below_drewN' wr 1).mono HB.out.size))
          have HND := Lib.hid (show wr.drew.ownsRow w.heap.size 64 1 (.slice A1 k c1) k ((List.range k).map fun i => .complex .f32 (f i) (g2 i)) from owns_below HN.out (below_drewN' wr 1))
          have HBBD := Lib.hid (show ∀ g cur, SBlk w1 g cur → wr.drew.heap[g]? = w1.heap[g]? from fun g cur h => HBB.out g cur h)
          have HED := Lib.hid (show Errs wr.drew from HE.out.below HBD.out)
          clear h16 hQs hQd hd1 hd2 hs16
          go_wp2
          go_region_law (first
            | ((refine step_append_own rfl (.tmp 25) (.tmp 33) 44 rfl w.heap.size 64 i0 (.complex .f32 0 0) 1 8 Tryd.underlying44 hi0 hz0 hz1 hz2 rfl (by decide) _ k ((List.range k).map fun i => .complex .f32 (f i) (g2 i)) rfl (World.ownsRow.alloc HN3.out _) ⟨w3.heap.size, 0, none⟩ 1 1 [.complex .f32 x y] rfl rfl (news_cells rfl) (by intro u hu; simp at hu; rcases hu with rfl; rfl) (by unfold maxLen; omega) (by omega) (by have := HB3.out.size; simp <;> omega) ?_); intro v' w4 hown1 hgrow _; have HV4 := Lib.hid hown1; have HG4 := Lib.hid hgrow; clear hown1 hgrow)
            | (go_simp; go_at_call 53; (with_reducible refine (HR1.out _ HED.out).mono ?_); rintro e w2 ⟨⟨x, hx, hxv, rfl⟩, hb2⟩; have HX := Lib.hid hxv; have HN2 := Lib.hid (owns_below HND.out hb2); have HB2 := Lib.hid (HBD.out.trans (hb2.mono HBD.out.size)); have HBB2 := Lib.hid (show ∀ g cur, SBlk w1 g cur → w2.heap[g]? = w1.heap[g]? from fun g cur h => (hb2.block g (h.of_eq (HBBD.out g cur h)).lt).trans (HBBD.out g cur h)); clear hb2 hxv)
            | (go_simp; go_at_call 53; (with_reducible refine (HR2.out _ (HE.out.below HB2.out)).mono ?_); rintro e w3 ⟨⟨y, hy, hyv, rfl⟩, hb3⟩; have HY := Lib.hid hyv; have HN3 := Lib.hid (owns_below HN2.out hb3); have HB3 := Lib.hid (HB2.out.trans (hb3.mono HB2.out.size)); have HBB3 := Lib.hid (show ∀ g cur, SBlk w1 g cur → w3.heap[g]? = w1.heap[g]? from fun g cur h => (hb3.block g (h.of_eq (HBB2.out g cur h)).lt).trans (HBB2.out g cur h)); clear hb3 hyv))
          all_goals
            have HN5 := Lib.hid (show COwn w4 w.heap.size v' (updF f k x) (updF g2 k y) (k + 1) by
              refine COwn.more (updF_at f k x).symm (updF_at g2 k y).symm ?_
              have e : ((List.range k).map fun i => Value.complex .f32 (f i) (g2 i)) = (List.range k).map fun i => Value.complex .f32 (updF f k x i) (updF g2 k y i) := List.map_congr_left fun i hi => by rw [updF_lt f (by simpa using hi), updF_lt g2 (by simpa using hi)]
              rw [← e]
              exact HV4.out)
            have HB5 := Lib.hid ((HB3.out.alloc HB3.out.size _).grown HG4.out (by have := HB3.out.size; simp; omega) (fun k hk => (HN3.out.lt k hk).1))
            have HBB5 := Lib.hid (show ∀ g cur, SBlk w1 g cur → w4.heap[g]? = w1.heap[g]? from fun g cur h => by
              have hs2 := h.of_eq (HBB3.out g cur h)
              exact ((HG4.out.block g (by have := hs2.lt; simp; omega) (hs2.not_ownF (by decide) HN3.out)).trans (blk_alloc_lt _ _ _ hs2.lt)).trans (HBB3.out g cur h))
            have HF5 := Lib.hid (show (∀ j, updF f k x j < 4294967296 ∧ updF g2 k y j < 4294967296) ∧ ∀ j, j < k + 1 → Rd2 (pt s.data.toList j) (updF f k x j) (updF g2 k y j) from
              ⟨fun j => by unfold updF; split; (· exact ⟨hx, hy⟩); (· exact HF.out.1 j), fun j hj => by
                by_cases e : j = k
                · subst e
                  rw [updF_at, updF_at, HPT.out]
                  exact ⟨H16.out, HX.out, HY.out⟩
                · rw [updF_lt f (by omega), updF_lt g2 (by omega)]
                  exact HF.out.2 j (by omega)⟩)
            clear HV4 HG4
            go_wp2
            go_roundw
            case rel => exact ⟨_, k + 1, updF f k x, updF g2 k y, rfl, by go_num, by omega, by omega, HN5.out, HF5, HB5.out, HBB5⟩
            case measure => simp [intOf]; omega
      · have h16' : ((Q.size : Int) != 16) = true := by simp; omega
        have hko := HBad.out (rc_short h16)
        have E1 := Lib.hid hko
        have E2 := Lib.hid (crN_no hko)
        clear hko h16 hQs hQd
        go_wp2
        go_ret2
        exact ⟨_, _, by rw [E1.out, E2.out]; rfl, by rw [E2.out]; exact .inl rfl, HB.out⟩
    · have hke : k = nPt s.data.toList := by omega
      obtain ⟨A, cA, rfl, ho⟩ := OwnV.of_map HN.out
      have HO := Lib.hid ho
      have HT := Lib.hid (complexText_yes A f g2 k cA wr ho.rowC HF.out.1 (HP.out.below HB.out) hk256)
      have HK := Lib.hid hke
      have hnl : ¬ (k : Int) < (nPt s.data.toList : Int) := by omega
      clear ho hlt hke
      by_cases hsame : ∀ i, i < nPt s.data.toList → hcX f g2 i = pt s.data.toList i
      · obtain ⟨hko, hvs⟩ := readC_yes (l := s.data.toList) HF.out.1 (fun j hj => HF.out.2 j (by have := HK.out; omega)) (by have := HK.out; omega) hsame
        have E1 := Lib.hid hko
        have E2 := Lib.hid ((crN_yes hko).trans HK.out.symm)
        have E3 := Lib.hid (HO.out.congr (g := fun i => .complex .f32 (crA s.data.toList i) (crB s.data.toList i)) fun i hi => by rw [(hvs i (by have := HK.out; omega)).1, (hvs i (by have := HK.out; omega)).2])
        have hj : joinT (hcX f g2) k = s.data.toList := by rw [HK.out]; exact (HTS.out (hcX f g2) fun i => hcX_ne f g2 i).2 hsame
        obtain ⟨q1, q2⟩ := HSE.out _ hj
        clear hko hvs hj hsame
        generalize joinT (hcX f g2) k = t at *
        unfold strV at HT
        go_wp2_with fail
        refine HT.out.mono ?_
        rintro e w2 ⟨rfl, hb2⟩
        have HB2 := Lib.hid (HB.out.trans (hb2.mono HB.out.size))
        have E4 := Lib.hid ((E3.out.below hb2).more (Nat.le_refl _) hb2.size)
        clear hb2
        go_wp2
        go_ret2
        exact ⟨A, cA, by rw [E1.out, E2.out]; rfl, by rw [E2.out]; exact E4.out, HB2.out⟩
      · have hko := readC_no (l := s.data.toList) HF.out.1 (fun j hj => HF.out.2 j (by have := HK.out; omega)) hsame
        have E1 := Lib.hid hko
        have E2 := Lib.hid (crN_no hko)
        have hj : ¬ joinT (hcX f g2) k = s.data.toList := by rw [HK.out]; exact fun h => hsame ((HTS.out (hcX f g2) fun i => hcX_ne f g2 i).1 h)
        obtain ⟨q1, q2⟩ := HSN.out _ hj
        clear hko hj hsame
        generalize joinT (hcX f g2) k = t at *
        unfold strV at HT
        go_wp2_with fail
        refine HT.out.mono ?_
        rintro e w2 ⟨rfl, hb2⟩
        have HB2 := Lib.hid (HB.out.trans (hb2.mono HB.out.size))
        clear hb2
        go_wp2
        go_ret2
        exact ⟨_, _, by rw [E1.out, E2.out]; rfl, by rw [E2.out]; exact .inl rfl, HB2.out⟩
theorem readComplexS (s : ByteArray) (w : World) (hs : s.size ≤ 1048576) :
    Calls Tryd.prog 30 #[.string s] w fun e w' => GaveC w w' e s := by
  have HC := Lib.hid (l01CRead_any s w hs)
  unfold GaveC at HC ⊢
  generalize crN s.data.toList = n at *
  generalize crOk s.data.toList = ok at *
  go_enter Tryd.func30, Tryd.ntmps30
  go_wp2_with fail
  refine HC.out.mono ?_
  rintro e w1 ⟨A, c, rfl, ho, hb⟩
  have HO := Lib.hid ho
  have HB := Lib.hid hb
  clear ho hb
  go_wp2
  go_ret2
  first
    | exact ⟨A, ⟨c, rfl⟩, HO.out, HB.out⟩
    | exact ⟨A, c, rfl, HO.out, HB.out⟩
end Go.Proofs.YtmpeogpmlgnmfaaDoor
