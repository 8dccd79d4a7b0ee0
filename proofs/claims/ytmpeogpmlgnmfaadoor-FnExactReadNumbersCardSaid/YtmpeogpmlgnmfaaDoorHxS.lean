/- The reference's reading of a list of numbers: the text cut at its commas, eight digits each. -/
import Derived.Test.YtmpeogpmlgnmfaaDoorHxL
import Derived.Test.YtmpeogpmlgnmfaaDoorRlS
import Derived.Test.YtmpeogpmlgnmfaaDoorOwnF
namespace Go.Proofs.YtmpeogpmlgnmfaaDoor
open Go.RowKit Go.Deep Flt

/-- each of the texts is a number's, and there are few -/
def nrAll (l : List UInt8) : Bool := decide (∀ i, i < nPt l → (rn (pt l i)).isSome = true)
def nrOk (l : List UInt8) : Bool := nrAll l && decide (nPt l ≤ 256)
def nrV (l : List UInt8) (i : Nat) : Nat := (rn (pt l i)).getD 0
def nrN (l : List UInt8) : Nat := if nrOk l then nPt l else 0
theorem nrOk_bad {l : List UInt8} {k : Nat} (hk : k < nPt l) (h : rn (pt l k) = none) : nrOk l = false := by
  unfold nrOk nrAll
  rw [Bool.and_eq_false_iff]
  exact .inl (by rw [decide_eq_false_iff_not]; exact fun hh => by have := hh k hk; rw [h] at this; cases this)
theorem nrOk_many {l : List UInt8} (h : 256 < nPt l) : nrOk l = false := by
  unfold nrOk
  rw [Bool.and_eq_false_iff]
  exact .inr (by rw [decide_eq_false_iff_not]; omega)
theorem nrOk_yes {l : List UInt8} (h : ∀ i, i < nPt l → (rn (pt l i)).isSome = true) (h2 : nPt l ≤ 256) : nrOk l = true := by
  unfold nrOk nrAll
  rw [decide_eq_true h, decide_eq_true h2]
  rfl
theorem nrN_le (l : List UInt8) : nrN l ≤ 256 := by
  unfold nrN
  split
  · rename_i h
    unfold nrOk at h
    simp at h
    omega
  · omega
theorem nrN_no {l : List UInt8} (h : nrOk l = false) : nrN l = 0 := by unfold nrN; rw [h]; rfl
theorem nrN_yes {l : List UInt8} (h : nrOk l = true) : nrN l = nPt l := by unfold nrN; rw [h]; rfl
theorem nrV_lt (l : List UInt8) (i : Nat) : nrV l i < 4294967296 := by
  unfold nrV
  cases h : rn (pt l i) with
  | none => decide
  | some v => exact (rn_some h).2.2.1
theorem nrOk_none {s : ByteArray} (h : noneB s) : nrOk s.data.toList = true ∧ nrN s.data.toList = 0 := by
  have h0 := nPt_none h
  have h1 : nrOk s.data.toList = true := nrOk_yes (by intro i hi; omega) (by omega)
  exact ⟨h1, by rw [nrN_yes h1, h0]⟩
theorem SBlk.not_ownF {w : World} {g B k : Nat} {cur : Array Value} {v : Value} {xs : List Value} {T : TypeId} (hT : T ≠ 9) (h : SBlk w g cur) (ho : w.ownsRow B T 1 v k xs) : some g ≠ v.ownBlock := by
  obtain ⟨fz, h⟩ := h
  rcases ho.2 with ⟨rfl, _⟩ | ⟨g', cap, cur', rfl, _, hh, _⟩
  · intro e; cases e
  · intro e
    obtain rfl : g = g' := by simpa [Value.ownBlock] using e
    rw [h] at hh
    cases hh
    exact hT rfl
/-- a slice of float32 of the call's own: the first k of the numbers f -/
def FOwn (w : World) (B : Nat) (v : Value) (f : Nat → Nat) (k : Nat) : Prop := w.ownsRow B 52 1 v k ((List.range k).map fun i => .float .f32 (f i))
theorem FOwn.more {w : World} {B : Nat} {v : Value} {f : Nat → Nat} {k : Nat} {x : Nat} (hx : x = f k) (h : w.ownsRow B 52 1 v (k + 1) (((List.range k).map fun i => .float .f32 (f i)) ++ [.float .f32 x])) : FOwn w B v f (k + 1) := by
  subst hx
  unfold FOwn
  rw [List.range_succ, List.map_append]
  exact h
/-- what both readings give -/
def GaveN (w w' : World) (e : Ending) (s : ByteArray) : Prop :=
  ∃ A c, e = .returned (.tuple #[.slice A (nrN s.data.toList) c, .bool (nrOk s.data.toList)]) ∧ OwnV w' 52 A (nrN s.data.toList) (fun i => .float .f32 (nrV s.data.toList i)) w.heap.size w'.heap.size ∧ Below w.heap.size w w'
theorem FOwn.ext {w : World} {B : Nat} {v : Value} {f g : Nat → Nat} {k : Nat} (h : FOwn w B v f k) (e : ∀ j, j < k → f j = g j) : FOwn w B v g k := by
  unfold FOwn at *
  have : ((List.range k).map fun i => Value.float .f32 (f i)) = (List.range k).map fun i => Value.float .f32 (g i) := List.map_congr_left fun i hi => by rw [e i (by simpa using hi)]
  rw [← this]
  exact h
/-- where the reading of one number stands -/
def RdInv (q : List UInt8) (k n : Nat) : Prop := hv (q.take k) = some n ∧ n < 16 ^ k
theorem RdInv.yes {q : List UInt8} {k n d : Nat} (h : RdInv q k n) (hk : k < q.length) (hd : lowD q[k] = some d) : RdInv q (k + 1) (16 * n + d) := by
  have hlt := lowD_lt hd
  refine ⟨?_, by have := h.2; rw [Nat.pow_succ]; omega⟩
  rw [List.take_succ_eq_append_getElem hk, hv_snoc, h.1]
  unfold hvS
  rw [Option.bind_some, hd]
  rfl
theorem RdInv.no {q : List UInt8} {k n : Nat} (_h : RdInv q k n) (hk : k < q.length) (hd : lowD q[k] = none) : hv q = none := by
  have h1 : hv (q.take (k + 1)) = none := by
    rw [List.take_succ_eq_append_getElem hk, hv_snoc]
    unfold hvS
    rw [hd]
    cases hv (q.take k) <;> rfl
  have := hv_none_app (q.drop (k + 1)) h1
  rwa [List.take_append_drop] at this
set_option maxRecDepth 100000 in
set_option maxHeartbeats 8000000 in
theorem l01NRead_any (s : ByteArray) (w : World) (hs : s.size ≤ 1048576) :
    Calls Tryd.prog 51 #[.string s] w fun e w' => GaveN w w' e s := by
  obtain ⟨i0, hi0, hz0, hz1, hz2⟩ := info_parts info_f32
  by_cases hn : noneB s
  · obtain ⟨q1, q2⟩ := none_yes hn
    obtain ⟨e1, e2⟩ := nrOk_none hn
    have E1 := Lib.hid e1
    have E2 := Lib.hid e2
    clear e1 e2
    go_enter Tryd.func51, Tryd.ntmps51
    go_wp2
    go_ret2
    exact ⟨_, _, by rw [E1.out, E2.out]; rfl, by rw [E2.out]; exact .inl rfl, (Below.refl _ _).alloc (Nat.le_refl _) _⟩
  obtain ⟨q1, q2⟩ := none_no hn
  have HLL := Lib.hid (show s.data.toList.length = s.size by simp)
  have HCut := Lib.hid (fun W => l01Cut_any s W hs)
  have HBits := Lib.hid (fun (n : Nat) (W : World) (h : n < 4294967296) => show Calls Tryd.prog 68 #[.float .f32 n] W fun e w' => e = .returned (.int .i64 (bitsN n : Int)) ∧ W = w' by
    have := l01Bits_any n W h; rw [bitsZ_nat] at this; exact this)
  have HFrom := Lib.hid (fun (n : Nat) (W : World) (h : n < 4294967296) => show Calls Tryd.prog 67 #[.int .i64 (n : Int)] W fun e w' => e = .returned (.float .f32 n) ∧ W = w' from l01From_any (n : Int) W (by omega) (by omega))
  have HM := Lib.hid (fun h => nrOk_many (l := s.data.toList) h)
  have hnp : nPt s.data.toList ≤ s.size + 1 := by
    rw [(nPt_some hn).1, ← HLL.out]
    exact cutL_count _
  have HPW := Lib.hid (fun w B v h => parts_of_own (w := w) (B := B) (v := v) hn h)
  clear hn
  go_enter Tryd.func51, Tryd.ntmps51
  go_wp2_with fail
  refine (HCut.out _).mono ?_
  rintro e w1 ⟨v, rfl, hown, hb⟩
  obtain ⟨g, cap, cur, rfl, hblk, hcell⟩ := HPW.out _ _ _ hown
  have HS1 := Lib.hid hblk
  have HC := Lib.hid hcell
  have HB1 := Lib.hid (((Below.refl w.heap.size w).alloc (Nat.le_refl _) _).trans (hb.mono (by simp)))
  have HO1 := Lib.hid (owns_below (World.ownsRow_lit (base := w.heap.size) (e := 52) (size := 1) w #[] 0 (Nat.le_refl _) (by decide) rfl) hb)
  clear hown hb hcell hblk
  by_cases hmany : (nPt s.data.toList : Int) > 256
  · have hko : nrOk s.data.toList = false := HM.out (by omega)
    have E1 := Lib.hid hko
    have E2 := Lib.hid (nrN_no hko)
    clear hko
    go_wp2
    go_ret2
    exact ⟨_, _, by rw [E1.out, E2.out]; rfl, by rw [E2.out]; exact .inl rfl, HB1.out⟩
  go_wp2
  go_loopw [4, 6] (fun tv ti wx => ∃ (v : Value) (k : Nat), v = tv ∧ ti = .int .i64 k ∧ k ≤ nPt s.data.toList ∧ FOwn wx w.heap.size v (nrV s.data.toList) k ∧ (∀ j, j < k → (rn (pt s.data.toList j)).isSome = true) ∧ Below w.heap.size w wx ∧ wx.heap[g]? = w1.heap[g]?) (fun _ ti _ => nPt s.data.toList - (intOf ti).toNat)
  case atStart => exact ⟨_, 0, rfl, rfl, Nat.zero_le _, HO1.out, fun j hj => by omega, HB1.out, rfl⟩
  case round =>
    obtain ⟨v, k, rfl, rfl, hk, hown, hok, hbel, hbel1⟩ := hrel
    have HN := Lib.hid hown
    have HK := Lib.hid hok
    have HB := Lib.hid hbel
    have HBB := Lib.hid hbel1
    have hcell : ∀ i, i < nPt s.data.toList → wr.cell? ⟨g, i, none⟩ = some (.string ⟨(pt s.data.toList i).toArray⟩) := fun i hi => (World.cell?_of_block (w := w1) hbel1).trans (HC.out i hi)
    clear hown hok hbel hbel1
    by_cases hlt : k < nPt s.data.toList
    · have hlt' : (k : Int) < (nPt s.data.toList : Int) := by omega
      have ck := hcell k hlt
      clear hcell
      have HBad := Lib.hid (fun h => nrOk_bad hlt h)
      have HVk := Lib.hid (show nrV s.data.toList k = (rn (pt s.data.toList k)).getD 0 from rfl)
      generalize hpt : pt s.data.toList k = q at ck HBad HVk
      have HPT := Lib.hid hpt
      clear hpt
      obtain ⟨Q, hQ⟩ : ∃ Q : ByteArray, Q = ⟨q.toArray⟩ := ⟨_, rfl⟩
      have hQs : Q.size = q.length := by rw [hQ]; simp [ByteArray.size]
      have hQd : ∀ (j : Nat) (h1 : j < Q.size) (h2 : j < q.length), Q[j] = q[j] := by subst hQ; intro j h1 h2; rfl
      rw [← hQ] at ck
      clear hQ
      by_cases h8 : q.length = 8
      · have h8' : ((Q.size : Int) != 8) = false := by rw [hQs, h8]; rfl
        have HQ := Lib.hid (And.intro hQs hQd)
        have H8 := Lib.hid h8
        clear hQs hQd h8
        obtain ⟨wo, rfl⟩ : ∃ wo : World, wo = wr := ⟨_, rfl⟩
        go_wp2
        go_loop [7, 8] (fun tn tj => ∃ (j n : Nat), j ≤ 8 ∧ tj = .int .i64 j ∧ tn = .int .i64 n ∧ Hid (RdInv q j n)) (fun _ tj => 8 - (intOf tj).toNat)
        case atStart => exact ⟨0, 0, by omega, rfl, rfl, Lib.hid ⟨rfl, by decide⟩⟩
        case round =>
          obtain ⟨j, n, hj, rfl, rfl, hinv⟩ := hrel
          by_cases hj8 : j < 8
          · have hjq : j < q.length := by rw [H8.out]; exact hj8
            have hjQ : j < Q.size := by rw [HQ.out.1]; exact hjq
            have hn28 : n < 268435456 := Nat.lt_of_lt_of_le hinv.out.2 (Nat.pow_le_pow_right (n := 16) (by omega) (show j ≤ 7 by omega))
            have HY := Lib.hid (fun d h => RdInv.yes (d := d) hinv.out hjq h)
            have HZ := Lib.hid (fun h => RdInv.no hinv.out hjq h)
            rw [← HQ.out.2 j hjQ hjq] at HY HZ
            have hc256 : Q[j].toNat < 256 := Q[j].toNat_lt
            have hjI : (j : Int) < (Q.size : Int) := by omega
            have hjI8 : (j : Int) < 8 := by omega
            clear hjq
            by_cases hdig : 48 ≤ Q[j].toNat ∧ Q[j].toNat ≤ 57
            · have HL := Lib.hid (show lowD Q[j] = some (Q[j].toNat - 48) by unfold lowD; rw [if_pos hdig])
              obtain ⟨hd0, hd1⟩ := hdig
              have HR := Lib.hid (show 16 * (n : Int) + ((Q[j].toNat : Int) - 48) = ((16 * n + (Q[j].toNat - 48) : Nat) : Int) by omega)
              go_wp2
              go_round
              case rel => exact ⟨j + 1, 16 * n + (Q[j].toNat - 48), by omega, by go_num, by rw [← HR.out], Lib.hid (HY.out _ HL.out)⟩
              case measure => simp [intOf]; omega
            · by_cases hlow : 97 ≤ Q[j].toNat ∧ Q[j].toNat ≤ 102
              · have HL := Lib.hid (show lowD Q[j] = some (Q[j].toNat - 87) by unfold lowD; rw [if_neg hdig, if_pos hlow])
                obtain ⟨hd0, hd1⟩ := hlow
                have HR := Lib.hid (show 16 * (n : Int) + ((Q[j].toNat : Int) - 97 + 10) = ((16 * n + (Q[j].toNat - 87) : Nat) : Int) by omega)
                have hdd : ¬ (Q[j].toNat : Int) ≤ 57 := by omega
                clear hdig
                go_wp2
                go_round
                case rel => exact ⟨j + 1, 16 * n + (Q[j].toNat - 87), by omega, by go_num, by rw [← HR.out], Lib.hid (HY.out _ HL.out)⟩
                case measure => simp [intOf]; omega
              · have HL := Lib.hid (show lowD Q[j] = none by unfold lowD; rw [if_neg hdig, if_neg hlow])
                have hko := HBad.out (rn_none (HZ.out HL.out))
                have E1 := Lib.hid hko
                have E2 := Lib.hid (nrN_no hko)
                clear hko
                rcases (show Q[j].toNat < 48 ∨ (57 < Q[j].toNat ∧ Q[j].toNat < 97) ∨ 102 < Q[j].toNat by omega) with hz | ⟨hz, hz2⟩ | hz
                all_goals
                  clear hdig hlow
                  go_wp2
                  go_ret2
                  exact ⟨_, _, by rw [E1.out, E2.out]; rfl, by rw [E2.out]; exact .inl rfl, HB.out⟩
          · obtain rfl : j = 8 := by omega
            have hT : q.take 8 = q := List.take_of_length_le (by rw [H8.out]; exact Nat.le_refl _)
            have hhv : hv q = some n := by have := hinv.out.1; rwa [hT] at this
            have hn32 : n < 4294967296 := hinv.out.2
            have HV := Lib.hid hhv
            clear hT hhv
            by_cases hbn : bitsN n = n
            · have hrn := rn_yes H8.out HV.out hbn
              have HX := Lib.hid (show n = nrV s.data.toList k by rw [HVk.out, hrn]; rfl)
              have HS := Lib.hid (show (rn (pt s.data.toList k)).isSome = true by rw [HPT.out, hrn]; rfl)
              have hbq : ((bitsN n : Int) != (n : Int)) = false := by rw [hbn]; simp
              clear hbn hrn
              go_wp2_with fail
              refine (HFrom.out n _ hn32).mono ?_
              rintro e w' ⟨rfl, rfl⟩
              go_wp2_with fail
              refine (HBits.out n _ hn32).mono ?_
              rintro e w' ⟨rfl, rfl⟩
              go_wp2_with (first | (at_builtin; refine wpList_append_own _ rfl _ _ 30 rfl w.heap.size 52 i0 (.float .f32 0) 1 4 Tryd.underlying30 hi0 hz0 hz1 hz2 rfl (by decide) _ _ _ rfl (HN.out.alloc _) ⟨wo.heap.size, 0, none⟩ 1 1 [.float .f32 n] rfl rfl ?c1 ?c2 ?c3 ?c4 ?c5 ?_))
              case c1 => exact news_cells rfl
              case c2 => intro u hu; simp at hu; rcases hu with rfl; rfl
              case c3 => unfold maxLen; omega
              case c4 => omega
              case c5 => have := HB.out.size; simp <;> omega
              intro v' w3 hown1 hgrow _
              have HN3 := Lib.hid (FOwn.more HX.out hown1)
              have HB3 := Lib.hid ((HB.out.alloc HB.out.size _).grown hgrow (by have := HB.out.size; simp; omega) (fun k hk => (HN.out.lt k hk).1))
              have hs2 := HS1.out.of_eq HBB.out
              have HBB3 := Lib.hid (show w3.heap[g]? = w1.heap[g]? from ((hgrow.block g (by have := hs2.lt; simp; omega) (hs2.not_ownF (by decide) HN.out)).trans (blk_alloc_lt _ _ _ hs2.lt)).trans HBB.out)
              clear hs2
              clear hown1 hgrow
              go_wp2
              go_roundw
              case rel => exact ⟨_, k + 1, rfl, by go_num, by omega, HN3.out, fun j hj => by by_cases e : j = k; (· subst e; exact HS.out); (· exact HK.out j (by omega)), HB3.out, HBB3.out⟩
              case measure => simp [intOf]; omega
            · have hko := HBad.out (rn_no HV.out hbn)
              have E1 := Lib.hid hko
              have E2 := Lib.hid (nrN_no hko)
              have hbq : ((bitsN n : Int) != (n : Int)) = true := by simp; omega
              clear hko hbn
              go_wp2_with fail
              refine (HFrom.out n _ hn32).mono ?_
              rintro e w' ⟨rfl, rfl⟩
              go_wp2_with fail
              refine (HBits.out n _ hn32).mono ?_
              rintro e w' ⟨rfl, rfl⟩
              go_wp2
              go_ret2
              exact ⟨_, _, by rw [E1.out, E2.out]; rfl, by rw [E2.out]; exact .inl rfl, HB.out⟩
      · have h8' : ((Q.size : Int) != 8) = true := by simp; omega
        have hko := HBad.out (rn_short h8)
        have E1 := Lib.hid hko
        have E2 := Lib.hid (nrN_no hko)
        clear hko h8 hQs hQd
        go_wp2
        go_ret2
        exact ⟨_, _, by rw [E1.out, E2.out]; rfl, by rw [E2.out]; exact .inl rfl, HB.out⟩
    · have hke : k = nPt s.data.toList := by omega
      have hko := nrOk_yes (l := s.data.toList) (fun j hj => HK.out j (by omega)) (by omega)
      have hkn : nrN s.data.toList = k := by rw [nrN_yes hko, hke]
      obtain ⟨A, cA, rfl, ho⟩ := OwnV.of_map HN.out
      have E1 := Lib.hid hko
      have E2 := Lib.hid hkn
      have E3 := Lib.hid ho
      have hnl : ¬ (k : Int) < (nPt s.data.toList : Int) := by omega
      clear hko hkn ho hcell hke
      go_wp2
      go_ret2
      exact ⟨A, cA, by rw [E1.out, E2.out]; rfl, by rw [E2.out]; exact E3.out, HB.out⟩
end Go.Proofs.YtmpeogpmlgnmfaaDoor
