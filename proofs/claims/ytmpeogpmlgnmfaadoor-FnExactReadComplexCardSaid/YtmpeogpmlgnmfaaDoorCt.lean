/- The program's text of a list of complex numbers. -/
import Derived.Test.YtmpeogpmlgnmfaaDoorHexI
import Derived.Test.YtmpeogpmlgnmfaaDoorNt
import Derived.Test.YtmpeogpmlgnmfaaDoorCx
namespace Go.Proofs.YtmpeogpmlgnmfaaDoor
open Go.RowKit Go.Deep Flt

/-- the sixteen digits of a complex number -/
def hcX (X Y : Nat → Nat) (i : Nat) : List UInt8 := hx (X i) ++ hx (Y i)
theorem hcX_len (X Y : Nat → Nat) (i : Nat) : (hcX X Y i).length = 16 := by unfold hcX; rw [List.length_append, hx_len, hx_len]
/-- a slice of complex64 that came in, or a call's own, reads as the numbers X, Y -/
def RowC (w : World) (a : Option Addr) (X Y : Nat → Nat) (n : Nat) : Prop := n = 0 ∨ ∃ b off, a = some ⟨b, off, none⟩ ∧ ∀ i, i < n → w.cell? ⟨b, off + i, none⟩ = some (.complex .f32 (X i) (Y i))
theorem RowC.below {w w' : World} {a : Option Addr} {X Y : Nat → Nat} {n : Nat} (h : RowC w a X Y n) (hb : Below w.heap.size w w') : RowC w' a X Y n := by
  rcases h with h | ⟨b, off, e, hc⟩
  · exact .inl h
  · exact .inr ⟨b, off, e, fun i hi => (hb.cell (World.block_lt_of_cell? w _ (hc i hi))).trans (hc i hi)⟩
theorem OwnV.rowC {w : World} {A : Option Addr} {n lo hi : Nat} {f g : Nat → Nat} (h : OwnV w 64 A n (fun i => .complex .f32 (f i) (g i)) lo hi) : RowC w A f g n := by
  rcases h with h0 | ⟨b, m, k, rfl, _, _, hr, hm, hf⟩
  · exact .inl h0
  · exact .inr ⟨b, 0, rfl, fun i hi => by rw [Nat.zero_add, hr.cell (i := i) (by omega), hf i hi]⟩
set_option maxRecDepth 100000 in
set_option maxHeartbeats 4000000 in
theorem complexText_yes (a : Option Addr) (X Y : Nat → Nat) (n c : Nat) (w : World) (h : RowC w a X Y n) (hI : ∀ i, X i < 4294967296 ∧ Y i < 4294967296) (hp : Tz w) (hn : n ≤ 256) :
    Calls Tryd.prog 55 #[.slice a n c] w fun e w' => e = .returned (.tuple #[strV (joinT (hcX X Y) n), .bool true]) ∧ Below w.heap.size w w' := by
  obtain ⟨i0, hi0, hz0, hz1, hz2⟩ := info_parts str_info
  have HR := Lib.hid h
  have HI := Lib.hid hI
  have HP := Lib.hid hp
  have hn' : ¬ (256 : Int) < (n : Int) := by omega
  clear h hI hp
  go_enter Tryd.func55, Tryd.ntmps55
  go_wp2
  go_loopw [4, 13] (fun tv ti wx => ∃ (v : Value) (k : Nat), v = tv ∧ k ≤ n ∧ ti = .int .i64 k ∧ SOwn wx w.heap.size v (hcX X Y) k ∧ Below w.heap.size w wx) (fun _ ti _ => n - (intOf ti).toNat)
  case atStart => exact ⟨_, 0, rfl, Nat.zero_le _, rfl, World.ownsRow_lit w #[] 0 (Nat.le_refl _) (by decide) rfl, (Below.refl _ _).alloc (Nat.le_refl _) _⟩
  case round =>
    obtain ⟨v, k, rfl, hk, rfl, hown, hbel⟩ := hrel
    have HN := Lib.hid hown
    have HB := Lib.hid hbel
    clear hown hbel
    by_cases hlt : k < n
    · have hlt' : (k : Int) < (n : Int) := by omega
      rcases HR.out.below HB.out with h0 | ⟨b, off, rfl, hcc⟩
      · omega
      have ck := hcc k hlt
      clear hcc
      obtain ⟨l1, hl1⟩ : ∃ l, l = hx (X k) := ⟨_, rfl⟩
      obtain ⟨l2, hl2⟩ : ∃ l, l = hx (Y k) := ⟨_, rfl⟩
      have hs1 : l1.length = 8 := by rw [hl1, hx_len]
      have hs2 : l2.length = 8 := by rw [hl2, hx_len]
      have hb1 : l1.length ≤ 8 := by omega
      have hb2 : l2.length ≤ 8 := by omega
      have HC1 := Lib.hid (show Calls Tryd.prog 43 #[.float .f32 (X k)] wr fun e w' => e = .returned (.string ⟨l1.toArray⟩) ∧ Below wr.heap.size wr w' by
        rw [hl1]; exact hexOf_any (X k) wr (HI.out k).1 (HP.out.below HB.out))
      have HC2 := Lib.hid (fun W (hb : Below w.heap.size w W) => show Calls Tryd.prog 43 #[.float .f32 (Y k)] W fun e w' => e = .returned (.string ⟨l2.toArray⟩) ∧ Below W.heap.size W w' by
        rw [hl2]; exact hexOf_any (Y k) W (HI.out k).2 (HP.out.below hb))
      have HL := Lib.hid (show (⟨l1.toArray⟩ : ByteArray) ++ ⟨l2.toArray⟩ = ⟨(hcX X Y k).toArray⟩ by rw [ByteArray.mk_append_mk, hl1, hl2]; rfl)
      clear hl1 hl2 hs1 hs2
      go_wp2_with fail
      refine HC1.out.mono ?_
      rintro e w1 ⟨rfl, hw1⟩
      have HB1 := Lib.hid (HB.out.trans (hw1.mono HB.out.size))
      have HN1 := Lib.hid (show w1.ownsRow w.heap.size 9 1 v k ((List.range k).map fun i => strV (hcX X Y i)) from owns_below HN.out hw1)
      clear hw1
      go_wp2_with fail
      refine (HC2.out _ HB1.out).mono ?_
      rintro e w2 ⟨rfl, hw2⟩
      have HB2 := Lib.hid (HB1.out.trans (hw2.mono HB1.out.size))
      have HN2 := Lib.hid (show w2.ownsRow w.heap.size 9 1 v k ((List.range k).map fun i => strV (hcX X Y i)) from owns_below HN1.out hw2)
      clear hw2
      go_wp2_with (first | (at_builtin; refine wpList_append_own _ rfl _ _ 53 rfl w.heap.size 9 i0 (.string ByteArray.empty) 1 16 Tryd.underlying53 hi0 hz0 hz1 hz2 rfl (by decide) _ _ _ rfl (HN2.out.alloc _) ⟨w2.heap.size, 0, none⟩ 1 1 [.string ⟨(l1 ++ l2).toArray⟩] rfl rfl ?c1 ?c2 ?c3 ?c4 ?c5 ?_))
      case c1 => exact news_cells rfl
      case c2 => intro u hu; simp at hu; rcases hu with rfl; rfl
      case c3 => unfold maxLen; omega
      case c4 => omega
      case c5 => have := HB2.out.size; simp; omega
      intro v' w3 hown1 hgrow _
      rw [← ByteArray.mk_append_mk, HL.out] at hown1
      have HN3 := Lib.hid (SOwn.more hown1)
      have HB3 := Lib.hid ((HB2.out.alloc HB2.out.size _).grown hgrow (by have := HB2.out.size; simp; omega) (fun k hk => (HN2.out.lt k hk).1))
      clear hown1 hgrow
      go_wp2
      go_roundw
      case rel => exact ⟨_, k + 1, rfl, by omega, by go_num, HN3.out, HB3.out⟩
      case measure => simp [intOf]; omega
    · obtain rfl : k = n := by omega
      have HJ := Lib.hid (joined_any (hcX X Y) k 16 v w.heap.size wr HN.out (fun i => Nat.le_of_eq (hcX_len X Y i)) (by omega))
      go_wp2_with fail
      refine HJ.out.mono ?_
      rintro e w1 ⟨rfl, hb1⟩
      have HB1 := Lib.hid (HB.out.trans (hb1.mono HB.out.size))
      clear hb1
      go_wp2
      go_ret2
      exact ⟨rfl, HB1.out⟩
end Go.Proofs.YtmpeogpmlgnmfaaDoor
