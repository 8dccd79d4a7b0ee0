/- The reference's reading of eight digits and of a list of complex numbers. -/
import Derived.Test.YtmpeogpmlgnmfaaDoorRcL
namespace Go.Proofs.YtmpeogpmlgnmfaaDoor
open Go.RowKit Go.Deep Flt

/-- what eight digits give: the number, or none -/
def dgV (q : List UInt8) : Value := .tuple #[.float .f32 ((rn q).getD 0), .bool (rn q).isSome]
set_option maxRecDepth 100000 in
set_option maxHeartbeats 4000000 in
theorem l01Digits_any (Q : ByteArray) (h8 : Q.size = 8) (w : World) :
    Calls Tryd.prog 72 #[.string Q] w fun e w' => e = .returned (dgV Q.data.toList) ∧ w = w' := by
  have HBits := Lib.hid (fun (n : Nat) (W : World) (h : n < 4294967296) => show Calls Tryd.prog 68 #[.float .f32 n] W fun e w' => e = .returned (.int .i64 (bitsN n : Int)) ∧ W = w' by
    have := l01Bits_any n W h; rw [bitsZ_nat] at this; exact this)
  have HFrom := Lib.hid (fun (n : Nat) (W : World) (h : n < 4294967296) => show Calls Tryd.prog 67 #[.int .i64 (n : Int)] W fun e w' => e = .returned (.float .f32 n) ∧ W = w' from l01From_any (n : Int) W (by omega) (by omega))
  obtain ⟨q, hq⟩ : ∃ q, q = Q.data.toList := ⟨_, rfl⟩
  have hQd : ∀ (j : Nat) (h1 : j < Q.size) (h2 : j < q.length), Q[j] = q[j] := by subst hq; intro j h1 h2; rfl
  have hlen : q.length = 8 := by rw [hq, ← Lib.size_eq]; exact h8
  rw [← hq]
  have H8 := Lib.hid hlen
  have HQ8 := Lib.hid h8
  have HQ := Lib.hid hQd
  have HV0 := Lib.hid (fun h => rn_none (p := q) h)
  clear hq hQd hlen h8
  go_enter Tryd.func72, Tryd.ntmps72
  go_wp2
  go_loop [4, 5] (fun tn tj => ∃ (j n : Nat), j ≤ 8 ∧ tj = .int .i64 j ∧ tn = .int .i64 n ∧ Hid (RdInv q j n)) (fun _ tj => 8 - (intOf tj).toNat)
  case atStart => exact ⟨0, 0, by omega, rfl, rfl, Lib.hid ⟨rfl, by decide⟩⟩
  case round =>
    obtain ⟨j, n, hj, rfl, rfl, hinv⟩ := hrel
    by_cases hj8 : j < 8
    · have hjq : j < q.length := by rw [H8.out]; exact hj8
      have hjQ : j < Q.size := by rw [HQ8.out]; exact hj8
      have hn28 : n < 268435456 := Nat.lt_of_lt_of_le hinv.out.2 (Nat.pow_le_pow_right (n := 16) (by omega) (show j ≤ 7 by omega))
      have HY := Lib.hid (fun d h => RdInv.yes (d := d) hinv.out hjq h)
      have HZ := Lib.hid (fun h => RdInv.no hinv.out hjq h)
      rw [← HQ.out j hjQ hjq] at HY HZ
      have hc256 : Q[j].toNat < 256 := Q[j].toNat_lt
      have hjI : (j : Int) < (Q.size : Int) := by omega
      clear hjq
      by_cases hdig : 48 ≤ Q[j].toNat ∧ Q[j].toNat ≤ 57
      · have HL := Lib.hid (show lowD Q[j] = some (Q[j].toNat - 48) by unfold lowD; rw [if_pos hdig])
        obtain ⟨hd0, hd1⟩ := hdig
        have HR := Lib.hid (show 16 * (n : Int) + ((Q[j].toNat : Int) - 48) = ((16 * n + (Q[j].toNat - 48) : Nat) : Int) by omega)
        go_wp2
        go_round
        case rel => exact ⟨j + 1, 16 * n + (Q[j].toNat - 48), by omega, by go_num, by rw [← HR.out], Lib.hid (HY.out _ HL.out)⟩
        case measure => simp [intOf]; omega
      · by_cases hlow : 97 ≤ Q[j].toNat ∧ Q[j].toNat ≤ 102
        · have HL := Lib.hid (show lowD Q[j] = some (Q[j].toNat - 87) by unfold lowD; rw [if_neg hdig, if_pos hlow])
          obtain ⟨hd0, hd1⟩ := hlow
          have HR := Lib.hid (show 16 * (n : Int) + ((Q[j].toNat : Int) - 97 + 10) = ((16 * n + (Q[j].toNat - 87) : Nat) : Int) by omega)
          have hdd : ¬ (Q[j].toNat : Int) ≤ 57 := by omega
          clear hdig
          go_wp2
          go_round
          case rel => exact ⟨j + 1, 16 * n + (Q[j].toNat - 87), by omega, by go_num, by rw [← HR.out], Lib.hid (HY.out _ HL.out)⟩
          case measure => simp [intOf]; omega
        · have HL := Lib.hid (show lowD Q[j] = none by unfold lowD; rw [if_neg hdig, if_neg hlow])
          have HE := Lib.hid (HV0.out (HZ.out HL.out))
          rcases (show Q[j].toNat < 48 ∨ (57 < Q[j].toNat ∧ Q[j].toNat < 97) ∨ 102 < Q[j].toNat by omega) with hz | ⟨hz, hz2⟩ | hz
          all_goals
            clear hdig hlow
            go_wp2
            go_ret2
            exact ⟨by unfold dgV; rw [HE.out]; rfl, rfl⟩
    · obtain rfl : j = 8 := by omega
      have hT : q.take 8 = q := List.take_of_length_le (by rw [H8.out]; exact Nat.le_refl _)
      have hhv : hv q = some n := by have := hinv.out.1; rwa [hT] at this
      have hn32 : n < 4294967296 := hinv.out.2
      have hnl : ¬ (8 : Int) < (Q.size : Int) := by have := HQ8.out; omega
      have HV := Lib.hid hhv
      clear hT hhv hj8 hj
      by_cases hbn : bitsN n = n
      · have HE := Lib.hid (rn_yes H8.out HV.out hbn)
        have hbq : ((bitsN n : Int) != (n : Int)) = false := by rw [hbn]; simp
        clear hbn
        go_wp2_with fail
        refine (HFrom.out n _ hn32).mono ?_
        rintro e w' ⟨rfl, rfl⟩
        go_wp2_with fail
        refine (HBits.out n _ hn32).mono ?_
        rintro e w' ⟨rfl, rfl⟩
        go_wp2
        go_ret2
        exact ⟨by unfold dgV; rw [HE.out]; rfl, rfl⟩
      · have HE := Lib.hid (rn_no HV.out hbn)
        have hbq : ((bitsN n : Int) != (n : Int)) = true := by simp; omega
        clear hbn
        go_wp2_with fail
        refine (HFrom.out n _ hn32).mono ?_
        rintro e w' ⟨rfl, rfl⟩
        go_wp2_with fail
        refine (HBits.out n _ hn32).mono ?_
        rintro e w' ⟨rfl, rfl⟩
        go_wp2
        go_ret2
        exact ⟨by unfold dgV; rw [HE.out]; rfl, rfl⟩
theorem head8 (Q : ByteArray) : Q.extract 0 8 = ⟨(Q.data.toList.take 8).toArray⟩ := by rw [extract_piece]; simp
theorem tail8 (Q : ByteArray) (h : Q.size = 16) : Q.extract 8 16 = ⟨(Q.data.toList.drop 8).toArray⟩ := by
  rw [extract_piece]
  have : (Q.data.toList.drop 8).length ≤ 16 - 8 := by rw [List.length_drop, ← Lib.size_eq, h]; omega
  rw [List.take_of_length_le this]
theorem head8_size (Q : ByteArray) (h : Q.size = 16) : (Q.extract 0 8).size = 8 := by rw [ByteArray.size_extract, h]; rfl
theorem tail8_size (Q : ByteArray) (h : Q.size = 16) : (Q.extract 8 16).size = 8 := by rw [ByteArray.size_extract, h]; rfl
set_option maxRecDepth 100000 in
set_option maxHeartbeats 8000000 in
theorem l01CRead_any (s : ByteArray) (w : World) (hs : s.size ≤ 1048576) :
    Calls Tryd.prog 54 #[.string s] w fun e w' => GaveC w w' e s := by
  obtain ⟨i0, hi0, hz0, hz1, hz2⟩ := info_parts info_c64
  by_cases hn : noneB s
  · obtain ⟨q1, q2⟩ := none_yes hn
    obtain ⟨e1, e2⟩ := crOk_none hn
    have E1 := Lib.hid e1
    have E2 := Lib.hid e2
    clear e1 e2
    go_enter Tryd.func54, Tryd.ntmps54
    go_wp2
    go_ret2
    exact ⟨_, _, by rw [E1.out, E2.out]; rfl, by rw [E2.out]; exact .inl rfl, (Below.refl _ _).alloc (Nat.le_refl _) _⟩
  obtain ⟨q1, q2⟩ := none_no hn
  have HLL := Lib.hid (show s.data.toList.length = s.size by simp)
  have HCut := Lib.hid (fun W => l01Cut_any s W hs)
  have HM := Lib.hid (fun h => crOk_many (l := s.data.toList) h)
  have hnp : nPt s.data.toList ≤ s.size + 1 := by
    rw [(nPt_some hn).1, ← HLL.out]
    exact cutL_count _
  have HPW := Lib.hid (fun w B v h => parts_of_own (w := w) (B := B) (v := v) hn h)
  clear hn
  go_enter Tryd.func54, Tryd.ntmps54
  go_wp2_with fail
  refine (HCut.out _).mono ?_
  rintro e w1 ⟨v, rfl, hown, hb⟩
  obtain ⟨g, cap, cur, rfl, hblk, hcell⟩ := HPW.out _ _ _ hown
  have HS1 := Lib.hid hblk
  have HC := Lib.hid hcell
  have HB1 := Lib.hid (((Below.refl w.heap.size w).alloc (Nat.le_refl _) _).trans (hb.mono (by simp)))
  have HO1 := Lib.hid (owns_below (World.ownsRow_lit (base := w.heap.size) (e := 64) (size := 1) w #[] 0 (Nat.le_refl _) (by decide) rfl) hb)
  clear hown hb hcell hblk
  by_cases hmany : (nPt s.data.toList : Int) > 256
  · have hko : crOk s.data.toList = false := HM.out (by omega)
    have E1 := Lib.hid hko
    have E2 := Lib.hid (crN_no hko)
    clear hko
    go_wp2
    go_ret2
    exact ⟨_, _, by rw [E1.out, E2.out]; rfl, by rw [E2.out]; exact .inl rfl, HB1.out⟩
  go_wp2
  go_loopw [4, 6] (fun tv ti wx => ∃ (v : Value) (k : Nat), v = tv ∧ ti = .int .i64 k ∧ k ≤ nPt s.data.toList ∧ COwn wx w.heap.size v (crA s.data.toList) (crB s.data.toList) k ∧ (∀ j, j < k → (rc (pt s.data.toList j)).isSome = true) ∧ Below w.heap.size w wx ∧ wx.heap[g]? = w1.heap[g]?) (fun _ ti _ => nPt s.data.toList - (intOf ti).toNat)
  case atStart => exact ⟨_, 0, rfl, rfl, Nat.zero_le _, HO1.out, fun j hj => by omega, HB1.out, rfl⟩
  case round =>
    obtain ⟨v, k, rfl, rfl, hk, hown, hok, hbel, hbel1⟩ := hrel
    have HN := Lib.hid hown
    have HK := Lib.hid hok
    have HB := Lib.hid hbel
    have HBB := Lib.hid hbel1
    have hcell : ∀ i, i < nPt s.data.toList → wr.cell? ⟨g, i, none⟩ = some (.string ⟨(pt s.data.toList i).toArray⟩) := fun i hi => (World.cell?_of_block (w := w1) hbel1).trans (HC.out i hi)
    clear hown hok hbel hbel1
    by_cases hlt : k < nPt s.data.toList
    · have hlt' : (k : Int) < (nPt s.data.toList : Int) := by omega
      have ck := hcell k hlt
      clear hcell
      have HBad := Lib.hid (fun h => crOk_bad hlt h)
      have HCR := Lib.hid (fun a b h => cr_of (k := k) (l := s.data.toList) (a := a) (b := b) h)
      generalize hpt : pt s.data.toList k = q at ck HBad HCR
      have HPT := Lib.hid hpt
      clear hpt
      obtain ⟨Q, hQ⟩ : ∃ Q : ByteArray, Q = ⟨q.toArray⟩ := ⟨_, rfl⟩
      have hQs : Q.size = q.length := by rw [hQ]; simp [ByteArray.size]
      have hQd : Q.data.toList = q := by rw [hQ]
      rw [← hQ] at ck
      clear hQ
      by_cases h16 : q.length = 16
      · have hs16 : Q.size = 16 := by omega
        have h16' : ((Q.size : Int) != 16) = false := by rw [hs16]; rfl
        have h8a : (8 : Int) ≤ (Q.size : Int) := by rw [hs16]; decide
        have hd1 : (Q.extract 0 8).data.toList = q.take 8 := by rw [head8, hQd]
        have hd2 : (Q.extract 8 16).data.toList = q.drop 8 := by rw [tail8 Q hs16, hQd]
        have HD1 := Lib.hid (fun W => show Calls Tryd.prog 72 #[.string (Q.extract 0 8)] W fun e w' => e = .returned (.tuple #[.float .f32 ((rn (q.take 8)).getD 0), .bool (rn (q.take 8)).isSome]) ∧ W = w' by
          have := l01Digits_any (Q.extract 0 8) (head8_size Q hs16) W
          rw [hd1] at this
          exact this)
        have HD2 := Lib.hid (fun W => show Calls Tryd.prog 72 #[.string (Q.extract 8 Q.size)] W fun e w' => e = .returned (.tuple #[.float .f32 ((rn (q.drop 8)).getD 0), .bool (rn (q.drop 8)).isSome]) ∧ W = w' by
          have := l01Digits_any (Q.extract 8 16) (tail8_size Q hs16) W
          rw [hd2] at this
          rw [hs16]
          exact this)
        have HS16 := Lib.hid hs16
        clear hQs hQd h16 hd1 hd2 hs16
        cases hr1 : rn (q.take 8) with
        | none =>
          rw [hr1] at HD1
          have hko := HBad.out (rc_no1 hr1)
          have E1 := Lib.hid hko
          have E2 := Lib.hid (crN_no hko)
          generalize (rn (q.drop 8)).getD 0 = y at *
          generalize (rn (q.drop 8)).isSome = ob at *
          clear hko hr1
          go_wp2_with fail
          refine (HD1.out _).mono ?_
          rintro e w' ⟨rfl, rfl⟩
          go_wp2_with fail
          refine (HD2.out _).mono ?_
          rintro e w' ⟨rfl, rfl⟩
          go_wp2
          go_ret2
          exact ⟨_, _, by rw [E1.out, E2.out]; rfl, by rw [E2.out]; exact .inl rfl, HB.out⟩
        | some x =>
          cases hr2 : rn (q.drop 8) with
          | none =>
            rw [hr1] at HD1
            rw [hr2] at HD2
            have hko := HBad.out (rc_no2 hr2)
            have E1 := Lib.hid hko
            have E2 := Lib.hid (crN_no hko)
            clear hko hr1 hr2
            go_wp2_with fail
            refine (HD1.out _).mono ?_
            rintro e w' ⟨rfl, rfl⟩
            go_wp2_with fail
            refine (HD2.out _).mono ?_
            rintro e w' ⟨rfl, rfl⟩
            go_wp2
            go_ret2
            exact ⟨_, _, by rw [E1.out, E2.out]; rfl, by rw [E2.out]; exact .inl rfl, HB.out⟩
          | some y =>
            rw [hr1] at HD1
            rw [hr2] at HD2
            have hrc := rc_yes hr1 hr2
            have HX := Lib.hid (HCR.out x y hrc)
            have HS := Lib.hid (show (rc (pt s.data.toList k)).isSome = true by rw [HPT.out, hrc]; rfl)
            clear hrc hr1 hr2
            go_wp2_with fail
            refine (HD1.out _).mono ?_
            rintro e w' ⟨rfl, rfl⟩
            go_wp2_with fail
            refine (HD2.out _).mono ?_
            rintro e w' ⟨rfl, rfl⟩
            go_wp2_with (first | (at_builtin; refine wpList_append_own _ rfl (.tmp 56) (.tmp 60) 44 rfl w.heap.size 64 i0 (.complex .f32 0 0) 1 8 Tryd.underlying44 hi0 hz0 hz1 hz2 rfl (by decide) _ _ _ rfl (HN.out.alloc _) ⟨wr.heap.size, 0, none⟩ 1 1 [.complex .f32 x y] rfl rfl ?c1 ?c2 ?c3 ?c4 ?c5 ?_))
            case c1 => exact news_cells rfl
            case c2 => intro u hu; simp at hu; rcases hu with rfl; rfl
            case c3 => unfold maxLen; omega
            case c4 => omega
            case c5 => have := HB.out.size; simp <;> omega
            intro v' w3 hown1 hgrow _
            have HN3 := Lib.hid (COwn.more HX.out.1.symm HX.out.2.symm hown1)
            have HB3 := Lib.hid ((HB.out.alloc HB.out.size _).grown hgrow (by have := HB.out.size; simp; omega) (fun k hk => (HN.out.lt k hk).1))
            have hs2 := HS1.out.of_eq HBB.out
            have HBB3 := Lib.hid (show w3.heap[g]? = w1.heap[g]? from ((hgrow.block g (by have := hs2.lt; simp; omega) (hs2.not_ownF (by decide) HN.out)).trans (blk_alloc_lt _ _ _ hs2.lt)).trans HBB.out)
            clear hs2
            clear hown1 hgrow
            go_wp2
            go_roundw
            case rel => exact ⟨_, k + 1, rfl, by go_num, by omega, HN3.out, fun j hj => by by_cases e : j = k; (· subst e; exact HS.out); (· exact HK.out j (by omega)), HB3.out, HBB3.out⟩
            case measure => simp [intOf]; omega
      · have h16' : ((Q.size : Int) != 16) = true := by simp; omega
        have hko := HBad.out (rc_short h16)
        have E1 := Lib.hid hko
        have E2 := Lib.hid (crN_no hko)
        clear hko h16 hQs hQd
        go_wp2
        go_ret2
        exact ⟨_, _, by rw [E1.out, E2.out]; rfl, by rw [E2.out]; exact .inl rfl, HB.out⟩
    · have hke : k = nPt s.data.toList := by omega
      have hko := crOk_yes (l := s.data.toList) (fun j hj => HK.out j (by omega)) (by omega)
      have hkn : crN s.data.toList = k := by rw [crN_yes hko, hke]
      obtain ⟨A, cA, rfl, ho⟩ := OwnV.of_map HN.out
      have E1 := Lib.hid hko
      have E2 := Lib.hid hkn
      have E3 := Lib.hid ho
      have hnl : ¬ (k : Int) < (nPt s.data.toList : Int) := by omega
      clear hko hkn ho hcell hke
      go_wp2
      go_ret2
      exact ⟨A, cA, by rw [E1.out, E2.out]; rfl, by rw [E2.out]; exact E3.out, HB.out⟩
end Go.Proofs.YtmpeogpmlgnmfaaDoor
