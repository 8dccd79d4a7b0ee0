/- The program's eight hexadecimal digits: FormatInt at base 16 and zeros ahead of it. -/
import Derived.Test.YtmpeogpmlgnmfaaGreatDoorFi16
import Derived.Test.YtmpeogpmlgnmfaaGreatDoorShRep
import Derived.Test.YtmpeogpmlgnmfaaGreatDoorNum
import Derived.Test.YtmpeogpmlgnmfaaGreatDoorJoin
import Derived.Laws.Concat
namespace Go.Proofs.YtmpeogpmlgnmfaaGreatDoor
set_option maxRecDepth 100000
open Go.RowKit Go.Deep Flt

/-- the bits of a number as a natural number: one for every NaN -/
def bitsN (b : Nat) : Nat := (bitsZ (cls .f32 b)).toNat
/-- the eight digits of a number -/
def hx (b : Nat) : List UInt8 := hexN 8 (bitsN b)
theorem bitsZ_nat (b : Nat) : bitsZ (cls .f32 b) = (bitsN b : Int) := by
  unfold bitsN
  rcases cls_cases .f32 b with ⟨hc, _⟩ | ⟨hc, _⟩ <;> rw [hc]
  · rfl
  · rw [bitsZ_some]; rfl
theorem bitsN_lt {b : Nat} (hb : b < 4294967296) : bitsN b < 4294967296 := by
  unfold bitsN
  rcases cls_cases .f32 b with ⟨hc, _⟩ | ⟨hc, _⟩ <;> rw [hc]
  · decide
  · rw [bitsZ_some]; simpa using hb
theorem hx_len (b : Nat) : (hx b).length = 8 := hexN_len _ _
theorem bitsN_cls {a b : Nat} (h : cls .f32 a = cls .f32 b) : bitsN a = bitsN b := by unfold bitsN; rw [h]
theorem hx_cls {a b : Nat} (h : cls .f32 a = cls .f32 b) : hx a = hx b := by unfold hx; rw [bitsN_cls h]
theorem repeatL_zeros : ∀ c, Lib.repeatL [48] c = List.replicate c 48
  | 0 => rfl
  | c + 1 => by rw [Lib.repeatL, repeatL_zeros c]; rfl
theorem rep_any (c : Nat) (w : World) (hc : c ≤ 8) :
    Calls Tryz.prog 73 #[.string ⟨#[48]⟩, .int .i64 c] w fun e w' => e = .returned (.string ⟨(List.replicate c 48).toArray⟩) ∧ Below w.heap.size w w' := by
  have key := Any.strings_Repeat Tryz.lays105 Tryz.Builder_Extra_105 ⟨#[48]⟩ c w (by omega) (by show 1 * c ≤ _; omega)
  have e48 : (⟨#[48]⟩ : ByteArray).data.toList = [48] := rfl
  rw [e48, repeatL_zeros] at key
  exact key
set_option maxHeartbeats 1000000 in
theorem hexOf_any (b : Nat) (w : World) (hb : b < 4294967296) (h : Tz w) :
    Calls Tryz.prog 47 #[.float .f32 b] w fun e w' => e = .returned (.string ⟨(hx b).toArray⟩) ∧ Below w.heap.size w w' := by
  have HU := Lib.hid (bitsN_lt hb)
  have HB := Lib.hid (show Calls Tryz.prog 21 #[.float .f32 b] w fun e w' => e = .returned (.int .i64 (bitsN b : Int)) ∧ w = w' by
    have := bitsOf_any b w hb; rw [bitsZ_nat] at this; exact this)
  have HF := Lib.hid (formatInt_16 (bitsN b) w HU.out h)
  have HP := Lib.hid (hexMin_pad 7 (bitsN b) (by have := HU.out; omega))
  have HX := Lib.hid (show hx b = hexN 8 (bitsN b) from rfl)
  generalize hx b = x at *
  generalize bitsN b = u at *
  obtain ⟨l, hl⟩ : ∃ l, l = hexMin u := ⟨_, rfl⟩
  rw [← hl] at HF HP
  have hlen : l.length ≤ 8 := HP.out.2
  have hsz : (⟨l.toArray⟩ : ByteArray).size = l.length := by simp [ByteArray.size]
  have HR := Lib.hid (fun W => rep_any (8 - l.length) W (by omega))
  have hsub : ((8 - l.length : Nat) : Int) = 8 - (l.length : Int) := by omega
  rw [hsub] at HR
  obtain ⟨r, hr⟩ : ∃ r, r = List.replicate (8 - l.length) (48 : UInt8) := ⟨_, rfl⟩
  rw [← hr] at HR
  have HRR := Lib.hid hr
  have hrl : r.length ≤ 8 := by rw [hr]; simp
  have HS := Lib.hid hsz
  clear hl h hsub hsz hr
  go_enter Tryz.func47, Tryz.ntmps47
  go_wp2_with fail
  refine HB.out.mono ?_
  rintro e w' ⟨rfl, rfl⟩
  go_wp2_with fail
  refine HF.out.mono ?_
  rintro e w1 ⟨rfl, b1⟩
  have B1 := Lib.hid b1
  clear b1
  have hs2 := HS.out
  go_wp2_with fail
  refine (HR.out _).mono ?_
  rintro e w2 ⟨rfl, b2⟩
  have B2 := Lib.hid (B1.out.trans (b2.mono B1.out.size))
  clear b2
  go_wp2
  go_ret
  exact ⟨by rw [HX.out, ← HP.out.1, show 7 + 1 - l.length = 8 - l.length from rfl, ← HRR.out]; rfl, B2.out⟩
end Go.Proofs.YtmpeogpmlgnmfaaGreatDoor
