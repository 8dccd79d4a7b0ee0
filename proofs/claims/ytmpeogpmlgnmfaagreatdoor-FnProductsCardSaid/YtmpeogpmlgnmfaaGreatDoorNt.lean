/- Both texts' text of a list of numbers: the eight digits of each with commas between them. -/
import Derived.Test.YtmpeogpmlgnmfaaGreatDoorHexI
import Derived.Test.YtmpeogpmlgnmfaaGreatDoorArr
import Derived.Test.YtmpeogpmlgnmfaaGreatDoorLt
namespace Go.Proofs.YtmpeogpmlgnmfaaGreatDoor
set_option maxRecDepth 100000
open Go.RowKit Go.Deep Flt

def hxX (X : Nat → Nat) (i : Nat) : List UInt8 := hx (X i)
theorem hxX_len (X : Nat → Nat) (i : Nat) : (hxX X i).length = 8 := hx_len _
def okN (n : Nat) : Bool := decide (n ≤ 256)
/-- the law's two answers: the text, or none -/
def ntT (X : Nat → Nat) (n : Nat) : List UInt8 := if okN n = true then joinT (hxX X) n else []
theorem RowF.own {w : World} {g : Nat} {X : Nat → Nat} {n : Nat} (h : F32s w g X n) : RowF w (some ⟨g, 0, none⟩) X n := .inr ⟨g, 0, rfl, fun i hi => by rw [Nat.zero_add]; exact h i hi⟩
theorem numbersText_no (a : Option Addr) (X : Nat → Nat) (n c : Nat) (w : World) (hm : n ≤ 9223372036854775807) (hn : ¬ n ≤ 256) :
    Calls Tryz.prog 31 #[.slice a n c] w fun e w' => e = .returned (.tuple #[strV (ntT X n), .bool (okN n)]) ∧ Below w.heap.size w w' := by
  have e1 : okN n = false := by unfold okN; simpa using hn
  have HT := Lib.hid (show ntT X n = [] by unfold ntT; rw [if_neg (by rw [e1]; decide)])
  have H1 := Lib.hid e1
  have hn' : (256 : Int) < (n : Int) := by omega
  clear e1
  go_enter Tryz.func31, Tryz.ntmps31
  go_wp2
  go_ret2
  exact ⟨by rw [HT.out, H1.out]; rfl, Below.refl _ _⟩
set_option maxRecDepth 100000 in
set_option maxHeartbeats 2000000 in
theorem numbersText_yes (a : Option Addr) (X : Nat → Nat) (n c : Nat) (w : World) (h : RowF w a X n) (hI : ∀ i, X i < 4294967296) (hp : Tz w) (hn : n ≤ 256) :
    Calls Tryz.prog 31 #[.slice a n c] w fun e w' => e = .returned (.tuple #[strV (ntT X n), .bool (okN n)]) ∧ Below w.heap.size w w' := by
  obtain ⟨i0, hi0, hz0, hz1, hz2⟩ := info_parts str_info
  have HR := Lib.hid h
  have HI := Lib.hid hI
  have HP := Lib.hid hp
  have e1 : okN n = true := by unfold okN; simpa using hn
  have HT := Lib.hid (show ntT X n = joinT (hxX X) n by unfold ntT; rw [if_pos e1])
  have H1 := Lib.hid e1
  have hn' : ¬ (256 : Int) < (n : Int) := by omega
  clear h hI hp e1
  go_enter Tryz.func31, Tryz.ntmps31
  go_wp2
  go_loopw [4, 13] (fun tv ti wx => ∃ (v : Value) (k : Nat), v = tv ∧ k ≤ n ∧ ti = .int .i64 k ∧ SOwn wx w.heap.size v (hxX X) k ∧ Below w.heap.size w wx) (fun _ ti _ => n - (intOf ti).toNat)
  case atStart => exact ⟨_, 0, rfl, Nat.zero_le _, rfl, World.ownsRow_lit w #[] 0 (Nat.le_refl _) (by decide) rfl, (Below.refl _ _).alloc (Nat.le_refl _) _⟩
  case round =>
    obtain ⟨v, k, rfl, hk, rfl, hown, hbel⟩ := hrel
    have HN := Lib.hid hown
    have HB := Lib.hid hbel
    clear hown hbel
    by_cases hlt : k < n
    · have hlt' : (k : Int) < (n : Int) := by omega
      rcases HR.out.below HB.out with h0 | ⟨b, off, rfl, hcc⟩
      · omega
      have ck := hcc k hlt
      clear hcc
      obtain ⟨l, hl⟩ : ∃ l, l = hxX X k := ⟨_, rfl⟩
      have HC := Lib.hid (show Calls Tryz.prog 47 #[.float .f32 (X k)] wr fun e w' => e = .returned (.string ⟨l.toArray⟩) ∧ Below wr.heap.size wr w' by
        rw [hl]; exact hexOf_any (X k) wr (HI.out k) (HP.out.below HB.out))
      have HL := Lib.hid hl
      clear hl
      go_wp2_with fail
      refine HC.out.mono ?_
      rintro e w1 ⟨rfl, hb1⟩
      have HN0 := Lib.hid (show w1.ownsRow w.heap.size 9 1 v k ((List.range k).map fun i => strV (hxX X i)) from owns_below HN.out hb1)
      have HB0 := Lib.hid (HB.out.trans (hb1.mono HB.out.size))
      clear hb1
      go_wp2_with (first | (at_builtin; refine wpList_append_own _ rfl _ _ 69 rfl w.heap.size 9 i0 (.string ByteArray.empty) 1 16 Tryz.underlying69 hi0 hz0 hz1 hz2 rfl (by decide) _ _ _ rfl (HN0.out.alloc _) ⟨w1.heap.size, 0, none⟩ 1 1 [.string ⟨l.toArray⟩] rfl rfl ?c1 ?c2 ?c3 ?c4 ?c5 ?_))
      case c1 => exact news_cells rfl
      case c2 => intro u hu; simp at hu; rcases hu with rfl; rfl
      case c3 => unfold maxLen; omega
      case c4 => omega
      case c5 => have := HB0.out.size; simp; omega
      intro v' w3 hown1 hgrow _
      rw [HL.out] at hown1
      have HN1 := Lib.hid (SOwn.more hown1)
      have HB1 := Lib.hid ((HB0.out.alloc HB0.out.size _).grown hgrow (by have := HB0.out.size; simp; omega) (fun k hk => (HN0.out.lt k hk).1))
      clear hown1 hgrow
      go_wp2
      go_roundw
      case rel => exact ⟨_, k + 1, rfl, by omega, by go_num, HN1.out, HB1.out⟩
      case measure => simp [intOf]; omega
    · obtain rfl : k = n := by omega
      have HJ := Lib.hid (joined_any (hxX X) k 8 v w.heap.size wr HN.out (fun i => Nat.le_of_eq (hxX_len X i)) (by omega))
      go_wp2_with fail
      refine HJ.out.mono ?_
      rintro e w1 ⟨rfl, hb1⟩
      have HB1 := Lib.hid (HB.out.trans (hb1.mono HB.out.size))
      clear hb1
      go_wp2
      go_ret2
      exact ⟨by rw [HT.out, H1.out]; rfl, HB1.out⟩
theorem numbersTextI (a : Option Addr) (X : Nat → Nat) (n c : Nat) (w : World) (h : RowF w a X n) (hI : ∀ i, X i < 4294967296) (hp : Tz w) (hm : n ≤ 9223372036854775807) :
    Calls Tryz.prog 31 #[.slice a n c] w fun e w' => e = .returned (.tuple #[strV (ntT X n), .bool (okN n)]) ∧ Below w.heap.size w w' := by
  by_cases hn : n ≤ 256
  · exact numbersText_yes a X n c w h hI hp hn
  · exact numbersText_no a X n c w hm hn
end Go.Proofs.YtmpeogpmlgnmfaaGreatDoor
