/- The library's trailing zeros of 16, by the table as the rows list it. -/
import Derived.Test.YtmpeogpmlgnmfaaGreatDoorLaid
import Derived.Lib.TrailingZeros
import Derived.LoopTactic
import Derived.Test.YtmpeogpmlgnmfaaGreatDoorBase
import Derived.Test.YtmpeogpmlgnmfaaGreatDoorDec
import Derived.Laws.Bits128
namespace Go.Proofs.YtmpeogpmlgnmfaaGreatDoor
set_option maxRecDepth 100000
open Go.ChangeShapes Go.WideShapes Go.ChangeAt Go.RowKit Flt

def tzName : String := "math/bits.deBruijn64tab"
theorem tz_block : Tryz.prog.globalNamed tzName = some 6 := by kernel_rfl
/-- what of the table the walk reads -/
def Tz (w : World) : Prop := w.cell? ⟨6, 15, none⟩ = some (.int .u8 4)
theorem Tz.below {w w' : World} (h : Tz w) (hb : Below w.heap.size w w') : Tz w' := (hb.cell (World.block_lt_of_cell? w _ h)).trans h
def tzTab : List Int := [0, 1, 56, 2, 57, 49, 28, 3, 61, 58, 42, 50, 38, 29, 17, 4, 62, 47, 59, 36, 45, 43, 51, 22, 53, 39, 33, 30, 24, 18, 12, 5, 63, 55, 48, 27, 60, 41, 37, 16, 46, 35, 44, 21, 52, 32, 23, 11, 54, 26, 40, 15, 34, 20, 31, 10, 25, 14, 19, 9, 13, 8, 7, 6]
theorem tz_of_head {W : World} {rest : List (String × DataW Unit)} (h : laidMet Tryz.prog ((tzName, Rows.laid_math_bits_deBruijn64tab) :: rest) W) : Tz W := by
  have e : (Rows.laid_math_bits_deBruijn64tab : DataW Unit) = Lib.tabData .u8 tzTab := by kernel_rfl
  rw [e] at h
  exact (Lib.tabIs_of_head tz_block (by kernel_rfl) Tryz.underlying157 Tryz.underlying5 (by kernel_rfl) (by kernel_rfl) h).cell tz_block 15 (by decide)
theorem tz64_16 (w : World) (h : Tz w) : Calls Tryz.prog 127 #[.int .u64 16] w fun e w' => e = .returned (.int .i64 4) ∧ w = w' := by
  unfold Tz at h
  have hw : IntKind.u64.wrap (-16) = 18446744073709551600 := by decide
  have hb : bits .and .u64 16 18446744073709551600 = 16 := by decide
  go_enter Tryz.func127, Tryz.ntmps127
  go_wp2
  go_ret
  exact ⟨rfl, rfl⟩
theorem tz_16 (w : World) (h : Tz w) : Calls Tryz.prog 116 #[.int .u64 16] w fun e w' => e = .returned (.int .i64 4) ∧ w = w' := by
  have HC := Lib.hid (tz64_16 w h)
  clear h
  go_enter Tryz.func116, Tryz.ntmps116
  go_wp2_with fail
  refine HC.out.mono ?_
  rintro e w' ⟨rfl, rfl⟩
  go_wp2
  go_ret
  exact ⟨rfl, rfl⟩
theorem pow2_16 (w : World) : Calls Tryz.prog 115 #[.int .i64 16] w fun e w' => e = .returned (.bool true) ∧ w = w' := by
  go_enter Tryz.func115, Tryz.ntmps115
  go_wp2
  go_ret
  exact ⟨rfl, rfl⟩
end Go.Proofs.YtmpeogpmlgnmfaaGreatDoor
/- The plain law of eight hexadecimal digits. -/
namespace Go.Proofs.YtmpeogpmlgnmfaaGreatDoor
set_option maxRecDepth 100000

/-- a hexadecimal digit -/
def hexD (d : Nat) : UInt8 := UInt8.ofNat (if d < 10 then 48 + d else 87 + d)
/-- the last k hexadecimal digits, the first ahead -/
def hexN : Nat → Nat → List UInt8
  | 0, _ => []
  | k + 1, u => hexN k (u / 16) ++ [hexD (u % 16)]
/-- the hexadecimal numeral, as short as it can be -/
def hexMin (u : Nat) : List UInt8 := if _h : u < 16 then [hexD u] else hexMin (u / 16) ++ [hexD (u % 16)]
termination_by u
decreasing_by omega
theorem hexMin_small {u : Nat} (h : u < 16) : hexMin u = [hexD u] := by rw [hexMin, dif_pos h]
theorem hexMin_big {u : Nat} (h : ¬ u < 16) : hexMin u = hexMin (u / 16) ++ [hexD (u % 16)] := by rw [hexMin, dif_neg h]
theorem hexN_len : ∀ (k u : Nat), (hexN k u).length = k
  | 0, _ => rfl
  | k + 1, u => by simp [hexN, hexN_len k]
theorem hexN_zero : ∀ (k : Nat), hexN k 0 = List.replicate k 48
  | 0 => rfl
  | k + 1 => by
    have e : hexD (0 % 16) = 48 := by decide
    rw [hexN, e, Nat.zero_div, hexN_zero k, List.replicate_succ']
theorem hexMin_pad : ∀ (k u : Nat), u < 16 ^ (k + 1) → List.replicate (k + 1 - (hexMin u).length) 48 ++ hexMin u = hexN (k + 1) u ∧ (hexMin u).length ≤ k + 1
  | 0, u, h => by
    have h' : u < 16 := by simpa using h
    rw [hexMin_small h']
    simp [hexN, Nat.mod_eq_of_lt h']
  | k + 1, u, h => by
    by_cases h1 : u < 16
    · rw [hexMin_small h1]
      refine ⟨?_, by simp⟩
      have e : u / 16 = 0 := by omega
      rw [hexN, e, hexN_zero, Nat.mod_eq_of_lt h1]
      simp
    · rw [hexMin_big h1]
      have ih := hexMin_pad k (u / 16) (by rw [Nat.pow_succ] at h; omega)
      refine ⟨?_, by simp; omega⟩
      have e : k + 1 + 1 - (hexMin (u / 16) ++ [hexD (u % 16)]).length = k + 1 - (hexMin (u / 16)).length := by simp
      rw [e, hexN, ← List.append_assoc, ih.1]
theorem hexMin_pos (u : Nat) : 1 ≤ (hexMin u).length := by
  by_cases h : u < 16
  · rw [hexMin_small h]; simp
  · rw [hexMin_big h]; simp
/-- the digits' text in both programs -/
def hexTab : ByteArray := ⟨#[48, 49, 50, 51, 52, 53, 54, 55, 56, 57, 97, 98, 99, 100, 101, 102]⟩
theorem hexTab_at (d : Nat) (h : d < 16) : hexTab[d]? = some (hexD d) := by
  have key : ∀ d : Fin 16, hexTab[d.val]? = some (hexD d.val) := by decide
  exact key ⟨d, h⟩
end Go.Proofs.YtmpeogpmlgnmfaaGreatDoor
/- The reference's eight hexadecimal digits. -/
namespace Go.Proofs.YtmpeogpmlgnmfaaGreatDoor
set_option maxRecDepth 100000
open Go.RowKit Go.Deep Flt

theorem BOwn.snoc {w : World} {B : Nat} {v : Value} {b : UInt8} {l : List UInt8} (h : w.ownsRow B 5 1 v (l.length + 1) (l.map byteV ++ [byteV b])) : ∃ g cap, v = .slice (some ⟨g, 0, none⟩) (l ++ [b]).length cap ∧ BOwn w B g cap (l ++ [b]) := by
  rcases h.2 with ⟨_, h0⟩ | ⟨g, cap, cur, rfl, hh⟩
  · omega
  · have e : l.length + 1 = (l ++ [b]).length := by simp
    refine ⟨g, cap, by rw [e], ?_⟩
    unfold BOwn
    rw [← e, List.map_append]
    exact h
theorem i64_and15 (n : Int) : bits .and .i64 n 15 = n % 16 := by
  have h15 : (BitVec.ofInt 64 15).toNat = 2 ^ 4 - 1 := by decide
  have key : (BitVec.ofInt 64 n &&& BitVec.ofInt 64 15).toNat = (n % ((2 ^ 64 : Nat) : Int)).toNat % 2 ^ 4 := by
    rw [BitVec.toNat_and, BitVec.toNat_ofInt, h15, Nat.and_two_pow_sub_one_eq_mod]
  show IntKind.i64.wrap ((BitVec.ofInt 64 n &&& BitVec.ofInt 64 15).toNat : Nat) = n % 16
  rw [key, IntKind.wrap_i64]
  omega
theorem hex_digit (d : Nat) (h : d < 16) (h' : d < (⟨#[48, 49, 50, 51, 52, 53, 54, 55, 56, 57, 97, 98, 99, 100, 101, 102]⟩ : ByteArray).size) : (⟨#[48, 49, 50, 51, 52, 53, 54, 55, 56, 57, 97, 98, 99, 100, 101, 102]⟩ : ByteArray)[d]'h' = hexD d := by
  have key := hexTab_at d h
  rw [show hexTab = ⟨#[48, 49, 50, 51, 52, 53, 54, 55, 56, 57, 97, 98, 99, 100, 101, 102]⟩ from rfl, ByteArray.getElem?_lt' _ _ h'] at key
  exact Option.some.inj key
end Go.Proofs.YtmpeogpmlgnmfaaGreatDoor
/- The library's formatBits at base 16. -/
namespace Go.Proofs.YtmpeogpmlgnmfaaGreatDoor
set_option maxRecDepth 100000
open Go.RowKit Go.Deep Flt

/-- the digits laid so far, l, and the rest, v -/
def HInv (u v : Nat) (l : List UInt8) : Prop := hexMin u = hexMin v ++ l ∧ v * 16 ^ l.length ≤ u
theorem HInv.start (u : Nat) : HInv u u [] := ⟨by simp, by simp⟩
theorem HInv.step {u v : Nat} {l : List UInt8} (h : HInv u v l) (hv : 16 ≤ v) : HInv u (v / 16) (hexD (v % 16) :: l) := by
  obtain ⟨h1, h2⟩ := h
  refine ⟨by rw [h1, hexMin_big (by omega)]; simp, ?_⟩
  have e : 16 ^ (hexD (v % 16) :: l).length = 16 * 16 ^ l.length := by rw [List.length_cons, Nat.pow_succ]; omega
  rw [e, ← Nat.mul_assoc]
  exact Nat.le_trans (Nat.mul_le_mul_right _ (by omega)) h2
theorem HInv.few {u v : Nat} {l : List UInt8} (h : HInv u v l) (hu : u < 4294967296) (hv : 1 ≤ v) : l.length < 8 := by
  rcases Nat.lt_or_ge l.length 8 with h8 | h8
  · exact h8
  · have h1 : 16 ^ 8 ≤ 16 ^ l.length := Nat.pow_le_pow_right (by decide) h8
    have h2 : 1 * 16 ^ l.length ≤ v * 16 ^ l.length := Nat.mul_le_mul_right _ hv
    have := h.2
    omega
theorem HInv.stop {u v : Nat} {l : List UInt8} (h : HInv u v l) (hv : v < 16) : hexMin u = hexD v :: l := by
  rw [h.1, hexMin_small hv]
  rfl
/-- the last cells of the array of 65 bytes are l -/
def ARow (w : World) (g : Nat) (l : List UInt8) : Prop := ∃ h : Nat → Value, w.rowIs g 138 65 h ∧ l.length ≤ 65 ∧ ∀ j (hj : j < l.length), h (65 - l.length + j) = .int .u8 (l[j].toNat : Int)
theorem ARow.read {w : World} {g : Nat} {l : List UInt8} (h : ARow w g l) : ∀ j (hj : j < l.length), w.cell? ((⟨g, 65 - l.length, none⟩ : Addr).add j) = some (.int .u8 (l[j].toNat : Int)) := by
  obtain ⟨f, h1, h2, h3⟩ := h
  intro j hj
  rw [add_plain, ← h3 j hj]
  exact h1.cell (by omega)
theorem ARow.more {w : World} {g : Nat} {l : List UInt8} (h : ARow w g l) (hl : l.length < 65) (b : UInt8) : ARow (w.setCell ⟨g, 64 - l.length, none⟩ (.int .u8 (b.toNat : Int))) g (b :: l) := by
  obtain ⟨f, h1, h2, h3⟩ := h
  refine ⟨_, h1.set (64 - l.length) (.int .u8 (b.toNat : Int)), by simp; omega, fun j hj => ?_⟩
  simp only [List.length_cons] at hj ⊢
  rcases j with _ | j
  · rw [if_pos (by omega)]
    rfl
  · rw [if_neg (by omega), show 65 - (l.length + 1) + (j + 1) = 65 - l.length + j by omega, h3 j (by omega)]
    rfl
theorem ARow.at' {w : World} {g : Nat} {l : List UInt8} (h : ARow w g l) (k : Nat) (hk : k < 65) : (∃ v, w.cell? ⟨g, k, none⟩ = some v) ∧ w.frozen? ⟨g, k, none⟩ = false := by
  obtain ⟨f, h1, _⟩ := h
  exact ⟨⟨_, h1.cell hk⟩, h1.frozen k⟩
theorem ARow.start (w : World) : ARow (w.alloc (.cells Tryz.zeroCells138 138)) w.heap.size [] :=
  ⟨fun i => Tryz.zeroCells138.getD i undef, ⟨Tryz.zeroCells138, heap_alloc_new w _, by kernel_rfl, fun i hi => by
    have hs : Tryz.zeroCells138.size = 65 := by kernel_rfl
    simp [Array.getD, hs, hi]⟩, by simp, fun j hj => by simp at hj⟩
theorem u64_and15 (n : Int) : bits .and .u64 n 15 = n % 16 := by
  have h15 : (BitVec.ofInt 64 15).toNat = 2 ^ 4 - 1 := by decide
  have key : (BitVec.ofInt 64 n &&& BitVec.ofInt 64 15).toNat = (n % ((2 ^ 64 : Nat) : Int)).toNat % 2 ^ 4 := by
    rw [BitVec.toNat_and, BitVec.toNat_ofInt, h15, Nat.and_two_pow_sub_one_eq_mod]
  show IntKind.u64.wrap ((BitVec.ofInt 64 n &&& BitVec.ofInt 64 15).toNat : Nat) = n % 16
  rw [key, IntKind.wrap_u64]
  omega
end Go.Proofs.YtmpeogpmlgnmfaaGreatDoor
/- The walk of the library's formatBits at base 16. -/
namespace Go.Proofs.YtmpeogpmlgnmfaaGreatDoor
set_option maxRecDepth 100000
open Go.RowKit Go.Deep Flt

def hexTab36 : ByteArray := ⟨#[48, 49, 50, 51, 52, 53, 54, 55, 56, 57, 97, 98, 99, 100, 101, 102, 103, 104, 105, 106, 107, 108, 109, 110, 111, 112, 113, 114, 115, 116, 117, 118, 119, 120, 121, 122]⟩
theorem hexTab36_at (d : Nat) (h : d < 16) : hexTab36[d]? = some (hexD d) := by
  have key : ∀ d : Fin 16, hexTab36[d.val]? = some (hexD d.val) := by decide
  exact key ⟨d, h⟩
theorem hex_digit36 (d : Nat) (h : d < 16) (h' : d < (⟨#[48, 49, 50, 51, 52, 53, 54, 55, 56, 57, 97, 98, 99, 100, 101, 102, 103, 104, 105, 106, 107, 108, 109, 110, 111, 112, 113, 114, 115, 116, 117, 118, 119, 120, 121, 122]⟩ : ByteArray).size) : (⟨#[48, 49, 50, 51, 52, 53, 54, 55, 56, 57, 97, 98, 99, 100, 101, 102, 103, 104, 105, 106, 107, 108, 109, 110, 111, 112, 113, 114, 115, 116, 117, 118, 119, 120, 121, 122]⟩ : ByteArray)[d]'h' = hexD d := by
  have key := hexTab36_at d h
  rw [show hexTab36 = ⟨#[48, 49, 50, 51, 52, 53, 54, 55, 56, 57, 97, 98, 99, 100, 101, 102, 103, 104, 105, 106, 107, 108, 109, 110, 111, 112, 113, 114, 115, 116, 117, 118, 119, 120, 121, 122]⟩ from rfl, ByteArray.getElem?_lt' _ _ h'] at key
  exact Option.some.inj key
set_option maxRecDepth 100000 in
set_option maxHeartbeats 2000000 in
theorem formatBits_16 (u : Nat) (w : World) (hu : u < 4294967296) (h : Tz w) :
    Calls Tryz.prog 97 #[.slice none 0 0, .int .u64 (u : Int), .int .i64 16, .bool false, .bool false] w fun e w' => ∃ v, e = .returned (.tuple #[v, .string ⟨(hexMin u).toArray⟩]) ∧ Below w.heap.size w w' := by
  have HTZ := Lib.hid (fun W (h : Tz W) => tz_16 W h)
  have HP2 := Lib.hid (fun W => pow2_16 W)
  have HT := Lib.hid h
  clear h
  go_enter Tryz.func97, Tryz.ntmps97
  go_wp2_with fail
  refine (HP2.out _).mono ?_
  rintro e w1 ⟨rfl, rfl⟩
  go_wp2_with fail
  refine (HTZ.out _ (HT.out.below ((Below.refl _ _).alloc (Nat.le_refl _) _))).mono ?_
  rintro e w1 ⟨rfl, rfl⟩
  go_wp2
  go_loopw [1, 13] (fun tu ti wx => ∃ (v k : Nat) (l : List UInt8), tu = .int .u64 (v : Int) ∧ ti = .int .i64 (k : Int) ∧ k + l.length = 65 ∧ v ≤ u ∧ HInv u v l ∧ (l = [] ∨ 1 ≤ v) ∧ ARow wx w.heap.size l ∧ Below w.heap.size w wx) (fun tu _ _ => (intOf tu).toNat)
  case atStart => exact ⟨u, 65, [], rfl, rfl, rfl, Nat.le_refl _, HInv.start u, .inl rfl, ARow.start w, (Below.refl _ _).alloc (Nat.le_refl _) _⟩
  case round =>
    obtain ⟨v, k, l, rfl, rfl, hk, hvu, hinv, hv1, harr, hbel⟩ := hrel
    have HI := Lib.hid hinv
    have HA := Lib.hid harr
    have HB := Lib.hid hbel
    have hl8 : l.length < 8 := by
      rcases hv1 with rfl | h1
      · simp
      · exact hinv.few hu h1
    clear hinv hv1 harr hbel HT HTZ HP2
    obtain ⟨m, rfl⟩ : ∃ m, k = m + 1 := ⟨k - 1, by omega⟩
    obtain ⟨⟨x, hx⟩, hfr⟩ := HA.out.at' m (by omega)
    have hm64 : 64 - l.length = m := by omega
    have hmk : (m : Int) < 65 := by omega
    have hm0 : (0 : Int) ≤ (m : Int) := by omega
    by_cases hge : 16 ≤ v
    · have hge' : (16 : Int) ≤ (v : Int) := by omega
      obtain ⟨d, hd⟩ : ∃ d, d = v % 16 := ⟨_, rfl⟩
      have hd16 : d < 16 := by omega
      have hbits : bits .and .u64 (v : Int) 15 = (d : Int) := by rw [u64_and15]; omega
      have hdig := hex_digit36 d hd16
      have HI1 := Lib.hid (HI.out.step hge)
      have HA1 := Lib.hid (HA.out.more (by omega) (hexD d))
      rw [hm64] at HA1
      have HD := Lib.hid hd
      clear hd
      go_wp2
      go_roundw
      case rel => exact ⟨v / 16, m, hexD d :: l, by go_num, by go_num, by simp; omega, by omega, by rw [HD.out]; exact HI1.out, .inr (by omega), HA1.out, HB.out.setCell (Nat.le_refl _) _⟩
      case measure => simp [intOf]; omega
    · have hlt' : ¬ (16 : Int) ≤ (v : Int) := by omega
      have hv16 : v < 16 := by omega
      have hdig := hex_digit36 v hv16
      have HS := Lib.hid (HI.out.stop hv16)
      have HA1 := Lib.hid (HA.out.more (by omega) (hexD v))
      rw [hm64] at HA1
      have hcv := run_convert_bytes_back (P := Tryz.prog) (wr.setCell ⟨w.heap.size, m, none⟩ (.int .u8 ((hexD v).toNat : Int))) 22 9 5 ⟨w.heap.size, m, none⟩ (65 - m) (hexD v :: l) Tryz.underlying22 Tryz.underlying5 Tryz.underlying9 (by have := HA1.out.read; rw [show 65 - (hexD v :: l).length = m by simp; omega] at this; exact this)
      have hlen : (hexD v :: l).length = 65 - m := by simp; omega
      rw [hlen] at hcv
      have hal : ((m : Int)) ≤ Tryz.prog.arrayLen 138 := by
        have e : Tryz.prog.arrayLen 138 = 65 := by kernel_rfl
        rw [e]; omega
      have hne : ¬ 65 = m := by omega
      have hsl : ∀ W, (Instr.sliceAt 138 (.pointer (some ⟨w.heap.size, 0, none⟩)) (some (.int .i64 (m : Int))) none none).run Tryz.prog W = .ok (.slice (some ⟨w.heap.size, m, none⟩) (65 - m) (65 - m)) W := by
        intro W
        rw [run_sliceAt_array_l (P := Tryz.prog) (w := W) (t := 138) (a := ⟨w.heap.size, 0, none⟩) (ht := by kernel_rfl) (kl := .i64) (l := (m : Int)) (h0 := hm0) (h1 := hal)]
        have e1 : Tryz.prog.arrayLen 138 = 65 := by kernel_rfl
        have e2 : Tryz.prog.elem 138 = 5 := by kernel_rfl
        have e3 : ∀ W, (sizeOf 5).run Tryz.prog W = .ok 1 W := fun W => Tryz.sizeOf5 W
        rw [e1, e2, e3]
        simp [slicedAt, add_plain, hne, Result.andThen]
      clear hal
      go_wp2
      go_ret2
      first
        | exact ⟨_, by rw [HS.out]; rfl, HB.out.setCell (Nat.le_refl _) _⟩
        | exact ⟨⟨_, by rw [HS.out]; rfl⟩, HB.out.setCell (Nat.le_refl _) _⟩
end Go.Proofs.YtmpeogpmlgnmfaaGreatDoor
/- FormatInt at base 16. -/
namespace Go.Proofs.YtmpeogpmlgnmfaaGreatDoor
set_option maxRecDepth 100000
open Go.RowKit Go.Deep Flt

theorem formatIntIn_16 (u : Nat) (w : World) (hu : u < 4294967296) (h : Tz w) :
    Calls Tryz.prog 84 #[.int .i64 (u : Int), .int .i64 16] w fun e w' => e = .returned (.string ⟨(hexMin u).toArray⟩) ∧ Below w.heap.size w w' := by
  have HC := Lib.hid (formatBits_16 u w hu h)
  have hu0 : ¬ (u : Int) < 0 := by omega
  have hu1 : (u : Int) < 4294967296 := by omega
  clear h
  go_enter Tryz.func84, Tryz.ntmps84
  go_wp2_with fail
  refine HC.out.mono ?_
  rintro e w1 ⟨v, rfl, hb⟩
  have HB := Lib.hid hb
  clear hb
  go_wp2
  go_ret
  exact ⟨rfl, HB.out⟩
theorem formatInt_16 (u : Nat) (w : World) (hu : u < 4294967296) (h : Tz w) :
    Calls Tryz.prog 72 #[.int .i64 (u : Int), .int .i64 16] w fun e w' => e = .returned (.string ⟨(hexMin u).toArray⟩) ∧ Below w.heap.size w w' := by
  have HC := Lib.hid (formatIntIn_16 u w hu h)
  clear h
  go_enter Tryz.func72, Tryz.ntmps72
  go_wp2_with fail
  refine HC.out.mono ?_
  rintro e w1 ⟨rfl, hb⟩
  have HB := Lib.hid hb
  clear hb
  go_wp2
  go_ret
  exact ⟨rfl, HB.out⟩
end Go.Proofs.YtmpeogpmlgnmfaaGreatDoor
