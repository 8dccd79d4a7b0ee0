/- Both texts' text of a list of values: the decimals with commas between them. -/
import Derived.Test.YtmpeogpmlgnmfaaDoorI64
import Derived.Test.YtmpeogpmlgnmfaaDoorJoin
import Derived.Test.YtmpeogpmlgnmfaaDoorDecI
import Derived.Lib.ItoaLen
import Derived.Laws.Concat
namespace Go.Proofs.YtmpeogpmlgnmfaaDoor
open Go.RowKit Go.Deep Flt

def itX (X : Nat → Int) (i : Nat) : List UInt8 := Lib.itoa (X i)
theorem itX_len {X : Nat → Int} (h : In64 X) (i : Nat) : (itX X i).length ≤ 21 := Lib.itoa_length_le _ (h i).1 (h i).2
theorem cat3 (a l : List UInt8) : (⟨a.toArray⟩ : ByteArray) ++ (⟨#[44]⟩ ++ ⟨l.toArray⟩) = ⟨(a ++ 44 :: l).toArray⟩ := by
  have e : (⟨#[44]⟩ : ByteArray) = ⟨[(44 : UInt8)].toArray⟩ := rfl
  rw [e, ByteArray.mk_append_mk, ByteArray.mk_append_mk]
  rfl
theorem owns_below {w w' : World} {B : Nat} {e : TypeId} {size : Nat} {v : Value} {n : Nat} {xs : List Value} (h : w.ownsRow B e size v n xs) (hb : Below w.heap.size w w') : w'.ownsRow B e size v n xs :=
  ⟨h.1, by
    rcases h.2 with h0 | ⟨g, cap, cur, e1, hB, hh, r⟩
    · exact .inl h0
    · exact .inr ⟨g, cap, cur, e1, hB, (hb.block _ (heap_lt' hh)).trans hh, r⟩⟩
set_option maxRecDepth 100000 in
set_option maxHeartbeats 2000000 in
theorem listText_any (g : Nat) (X : Nat → Int) (n c : Nat) (w : World) (h : IRow w g X n) (hI : In64 X) (hp : Pow w) (hn : n ≤ 64) :
    Calls Tryd.prog 40 #[.slice (some ⟨g, 0, none⟩) n c] w fun e w' => e = .returned (strV (joinT (itX X) n)) ∧ Below w.heap.size w w' := by
  obtain ⟨i0, hi0, hz0, hz1, hz2⟩ := info_parts str_info
  have HR := Lib.hid h
  have HI := Lib.hid hI
  have HP := Lib.hid hp
  clear h hI hp
  go_enter Tryd.func40, Tryd.ntmps40
  go_wp2
  go_loopw [3, 9] (fun tv ti wx => ∃ (v : Value) (k : Nat), v = tv ∧ k ≤ n ∧ ti = .int .i64 k ∧ SOwn wx w.heap.size v (itX X) k ∧ Below w.heap.size w wx) (fun _ ti _ => n - (intOf ti).toNat)
  case atStart => exact ⟨_, 0, rfl, Nat.zero_le _, rfl, World.ownsRow_lit w #[] 0 (Nat.le_refl _) (by decide) rfl, (Below.refl _ _).alloc (Nat.le_refl _) _⟩
  case round =>
    obtain ⟨v, k, rfl, hk, rfl, hown, hbel⟩ := hrel
    have HN := Lib.hid hown
    have HB := Lib.hid hbel
    clear hown hbel
    by_cases hlt : k < n
    · have hlt' : (k : Int) < (n : Int) := by omega
      have ck := (HR.out.below HB.out).cell (i := k) hlt
      obtain ⟨l, hl⟩ : ∃ l, l = itX X k := ⟨_, rfl⟩
      have HC := Lib.hid (show Calls Tryd.prog 11 #[.int .i64 (X k)] wr fun e w' => e = .returned (.string ⟨l.toArray⟩) ∧ Below wr.heap.size wr w' by
        rw [hl]; exact decimalI (X k) (HI.out k).1 (HI.out k).2 wr (HP.out.below HB.out))
      have HL := Lib.hid hl
      clear hl
      go_wp2_with fail
      refine HC.out.mono ?_
      rintro e w1 ⟨rfl, hb1⟩
      have HN0 := Lib.hid (show w1.ownsRow w.heap.size 9 1 v k ((List.range k).map fun i => strV (itX X i)) from owns_below HN.out hb1)
      have HB0 := Lib.hid (HB.out.trans (hb1.mono HB.out.size))
      clear hb1
      go_wp2_with (first | (at_builtin; refine wpList_append_own _ rfl _ _ 53 rfl w.heap.size 9 i0 (.string ByteArray.empty) 1 16 Tryd.underlying53 hi0 hz0 hz1 hz2 rfl (by decide) _ _ _ rfl (HN0.out.alloc _) ⟨w1.heap.size, 0, none⟩ 1 1 [.string ⟨l.toArray⟩] rfl rfl ?c1 ?c2 ?c3 ?c4 ?c5 ?_))
      case c1 => exact news_cells rfl
      case c2 => intro u hu; simp at hu; rcases hu with rfl; rfl
      case c3 => unfold maxLen; omega
      case c4 => omega
      case c5 => have := HB0.out.size; simp; omega
      intro v' w3 hown1 hgrow _
      rw [HL.out] at hown1
      have HN1 := Lib.hid (SOwn.more hown1)
      have HB1 := Lib.hid ((HB0.out.alloc HB0.out.size _).grown hgrow (by have := HB0.out.size; simp; omega) (fun k hk => (HN0.out.lt k hk).1))
      clear hown1 hgrow
      go_wp2
      go_roundw
      case rel => exact ⟨_, k + 1, rfl, by omega, by go_num, HN1.out, HB1.out⟩
      case measure => simp [intOf]; omega
    · obtain rfl : k = n := by omega
      have HJ := Lib.hid (joined_any (itX X) k 21 v w.heap.size wr HN.out (fun i => itX_len HI.out i) (by omega))
      go_wp2_with fail
      refine HJ.out.mono ?_
      rintro e w1 ⟨rfl, hb1⟩
      have HB1 := Lib.hid (HB.out.trans (hb1.mono HB.out.size))
      clear hb1
      go_wp2
      go_ret
      exact ⟨rfl, HB1.out⟩
theorem l01Text_none (A : Option Addr) (X : Nat → Int) (c : Nat) (w : World) :
    Calls Tryd.prog 38 #[.slice A 0 c] w fun e w' => e = .returned (strV (joinT (itX X) 0)) ∧ Below w.heap.size w w' := by
  go_enter Tryd.func38, Tryd.ntmps38
  go_wp2
  go_ret
  exact ⟨rfl, Below.refl _ _⟩
set_option maxHeartbeats 1000000 in
theorem l01Text_some (g : Nat) (X : Nat → Int) (n c : Nat) (w : World) (h : IRow w g X n) (hI : In64 X) (hn : n ≤ 64) (h0 : 0 < n) :
    Calls Tryd.prog 38 #[.slice (some ⟨g, 0, none⟩) n c] w fun e w' => e = .returned (strV (joinT (itX X) n)) ∧ Below w.heap.size w w' := by
  have HR := Lib.hid h
  have HI := Lib.hid hI
  clear h hI
  have hne : ((n : Int) == 0) = false := by simp; omega
  have hlt0 : (0 : Int) < (n : Int) := by omega
  have c0 := HR.out.cell (i := 0) h0
  have HC0 := Lib.hid (l01Dec_any (X 0) w (HI.out 0).1 (HI.out 0).2)
  go_enter Tryd.func38, Tryd.ntmps38
  go_wp2_with fail
  refine HC0.out.mono ?_
  rintro e w0 ⟨rfl, hb0⟩
  have HB0 := Lib.hid hb0
  clear hb0 HC0
  go_wp2
  go_loopw [3, 4] (fun tv ti wx => ∃ k : Nat, k < n ∧ ti = .int .i64 ((k + 1 : Nat) : Int) ∧ tv = strV (joinT (itX X) (k + 1)) ∧ Below w.heap.size w wx) (fun _ ti _ => n - (intOf ti).toNat)
  case atStart => exact ⟨0, h0, rfl, by rw [joinT_one]; rfl, HB0.out⟩
  case round =>
    obtain ⟨k, hk, rfl, rfl, hbel⟩ := hrel
    have HB := Lib.hid hbel
    clear hbel HB0
    by_cases hlt : k + 1 < n
    · have hlt' : ((k : Int) + 1) < (n : Int) := by omega
      have ck := (HR.out.below HB.out).cell (i := k + 1) hlt
      obtain ⟨l, hl⟩ : ∃ l, l = itX X (k + 1) := ⟨_, rfl⟩
      obtain ⟨a, ha⟩ : ∃ a, a = joinT (itX X) (k + 1) := ⟨_, rfl⟩
      have hsl : l.length ≤ 21 := by rw [hl]; exact itX_len HI.out _
      have hsa : a.length ≤ 2000 := by have := joinT_len (fun i => itX_len HI.out i) k; rw [ha]; omega
      have HC := Lib.hid (show Calls Tryd.prog 35 #[.int .i64 (X (k + 1))] wr fun e w' => e = .returned (.string ⟨l.toArray⟩) ∧ Below wr.heap.size wr w' by
        rw [hl]; exact l01Dec_any (X (k + 1)) wr (HI.out _).1 (HI.out _).2)
      have HL := Lib.hid (And.intro hl ha)
      rw [← ha]
      clear hl ha
      unfold strV
      go_wp2_with fail
      refine HC.out.mono ?_
      rintro e w1 ⟨rfl, hb1⟩
      have HB1 := Lib.hid (HB.out.trans (hb1.mono HB.out.size))
      clear hb1 HC
      go_wp2
      go_roundw
      case rel => exact ⟨k + 1, hlt, by go_num, by rw [joinT_succ, ← HL.out.1, ← HL.out.2]; exact congrArg Value.string (cat3 _ _), HB1.out⟩
      case measure => simp [intOf]; omega
    · obtain rfl : k + 1 = n := by omega
      go_wp2
      go_ret
      exact ⟨rfl, HB.out⟩
theorem l01Text_any (g : Nat) (X : Nat → Int) (n c : Nat) (w : World) (h : IRow w g X n) (hI : In64 X) (hn : n ≤ 64) :
    Calls Tryd.prog 38 #[.slice (some ⟨g, 0, none⟩) n c] w fun e w' => e = .returned (strV (joinT (itX X) n)) ∧ Below w.heap.size w w' := by
  rcases Nat.eq_zero_or_pos n with rfl | h0
  · exact l01Text_none _ _ _ _
  · exact l01Text_some g X n c w h hI hn h0
/-- the law's two answers: the text, or none -/
def ltT (X : Nat → Int) (n : Nat) : List UInt8 := if okL X n = true then joinT (itX X) n else []
theorem listTextI (g : Nat) (X : Nat → Int) (n c : Nat) (w : World) (h : IRow w g X n) (hI : In64 X) (hp : Pow w) (hn : n ≤ 1048576) :
    Calls Tryd.prog 14 #[.slice (some ⟨g, 0, none⟩) n c] w fun e w' => e = .returned (.tuple #[strV (ltT X n), .bool (okL X n)]) ∧ Below w.heap.size w w' := by
  have HV := Lib.hid (areValues_any g X n c w h hn)
  unfold ltT
  cases ho : okL X n
  · rw [ho] at HV
    have HE := Lib.hid ho
    clear ho h hI hp
    go_enter Tryd.func14, Tryd.ntmps14
    go_wp2_with fail
    refine HV.out.mono ?_
    rintro e w' ⟨rfl, rfl⟩
    go_wp2
    go_ret2
    exact ⟨rfl, Below.refl _ _⟩
  · have h64 : n ≤ 64 := by unfold okL at ho; simp at ho; omega
    rw [ho] at HV
    have HC := Lib.hid (listText_any g X n c w h hI hp h64)
    clear ho h hI hp
    go_enter Tryd.func14, Tryd.ntmps14
    go_wp2_with fail
    refine HV.out.mono ?_
    rintro e w' ⟨rfl, rfl⟩
    go_wp2_with fail
    refine HC.out.mono ?_
    rintro e w' ⟨rfl, hb⟩
    have HB := Lib.hid hb
    clear hb
    go_wp2
    go_ret2
    exact ⟨rfl, HB.out⟩
theorem listTextS (g : Nat) (X : Nat → Int) (n c : Nat) (w : World) (h : IRow w g X n) (hI : In64 X) (hn : n ≤ 1048576) :
    Calls Tryd.prog 12 #[.slice (some ⟨g, 0, none⟩) n c] w fun e w' => e = .returned (.tuple #[strV (ltT X n), .bool (okL X n)]) ∧ Below w.heap.size w w' := by
  have HV := Lib.hid (l01List_any g X n c w h hn)
  unfold ltT
  cases ho : okL X n
  · rw [ho] at HV
    have HE := Lib.hid ho
    clear ho h hI
    go_enter Tryd.func12, Tryd.ntmps12
    go_wp2_with fail
    refine HV.out.mono ?_
    rintro e w' ⟨rfl, rfl⟩
    go_wp2
    go_ret2
    exact ⟨rfl, Below.refl _ _⟩
  · have h64 : n ≤ 64 := by unfold okL at ho; simp at ho; omega
    rw [ho] at HV
    have HC := Lib.hid (l01Text_any g X n c w h hI h64)
    clear ho h hI
    go_enter Tryd.func12, Tryd.ntmps12
    go_wp2_with fail
    refine HV.out.mono ?_
    rintro e w' ⟨rfl, rfl⟩
    go_wp2_with fail
    refine HC.out.mono ?_
    rintro e w' ⟨rfl, hb⟩
    have HB := Lib.hid hb
    clear hb
    go_wp2
    go_ret2
    exact ⟨rfl, HB.out⟩
end Go.Proofs.YtmpeogpmlgnmfaaDoor
