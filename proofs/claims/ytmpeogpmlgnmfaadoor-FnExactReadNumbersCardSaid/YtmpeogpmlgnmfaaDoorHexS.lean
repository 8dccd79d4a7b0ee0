/- The reference's eight hexadecimal digits. -/
import Derived.Test.YtmpeogpmlgnmfaaDoorHexL
import Derived.Test.YtmpeogpmlgnmfaaDoorDec
import Derived.Laws.Bits128
namespace Go.Proofs.YtmpeogpmlgnmfaaDoor
open Go.RowKit Go.Deep Flt

theorem BOwn.snoc {w : World} {B : Nat} {v : Value} {b : UInt8} {l : List UInt8} (h : w.ownsRow B 5 1 v (l.length + 1) (l.map byteV ++ [byteV b])) : ∃ g cap, v = .slice (some ⟨g, 0, none⟩) (l ++ [b]).length cap ∧ BOwn w B g cap (l ++ [b]) := by
  rcases h.2 with ⟨_, h0⟩ | ⟨g, cap, cur, rfl, hh⟩
  · omega
  · have e : l.length + 1 = (l ++ [b]).length := by simp
    refine ⟨g, cap, by rw [e], ?_⟩
    unfold BOwn
    rw [← e, List.map_append]
    exact h
theorem i64_and15 (n : Int) : bits .and .i64 n 15 = n % 16 := by
  have h15 : (BitVec.ofInt 64 15).toNat = 2 ^ 4 - 1 := by decide
  have key : (BitVec.ofInt 64 n &&& BitVec.ofInt 64 15).toNat = (n % ((2 ^ 64 : Nat) : Int)).toNat % 2 ^ 4 := by
    rw [BitVec.toNat_and, BitVec.toNat_ofInt, h15, Nat.and_two_pow_sub_one_eq_mod]
  show IntKind.i64.wrap ((BitVec.ofInt 64 n &&& BitVec.ofInt 64 15).toNat : Nat) = n % 16
  rw [key, IntKind.wrap_i64]
  omega
theorem hex_digit (d : Nat) (h : d < 16) (h' : d < (⟨#[48, 49, 50, 51, 52, 53, 54, 55, 56, 57, 97, 98, 99, 100, 101, 102]⟩ : ByteArray).size) : (⟨#[48, 49, 50, 51, 52, 53, 54, 55, 56, 57, 97, 98, 99, 100, 101, 102]⟩ : ByteArray)[d]'h' = hexD d := by
  have key := hexTab_at d h
  rw [show hexTab = ⟨#[48, 49, 50, 51, 52, 53, 54, 55, 56, 57, 97, 98, 99, 100, 101, 102]⟩ from rfl, ByteArray.getElem?_lt' _ _ h'] at key
  exact Option.some.inj key
set_option maxRecDepth 100000 in
set_option maxHeartbeats 2000000 in
theorem l01Hex_any (b u : Nat) (w : World) (hB0 : Calls Tryd.prog 68 #[.float .f32 b] w fun e w' => e = .returned (.int .i64 (u : Int)) ∧ w = w') :
    Calls Tryd.prog 59 #[.float .f32 b] w fun e w' => e = .returned (.string ⟨(hexN 8 u).toArray⟩) ∧ Below w.heap.size w w' := by
  obtain ⟨i0, hi0, hz0, hz1, hz2⟩ := info_parts u8_info
  have HB0 := Lib.hid hB0
  clear hB0
  go_enter Tryd.func59, Tryd.ntmps59
  go_wp2_with fail
  refine HB0.out.mono ?_
  rintro e w' ⟨rfl, rfl⟩
  go_wp2
  go_loopw [4, 5] (fun tv ti wx => ∃ (g cap j : Nat) (l : List UInt8), tv = .slice (some ⟨g, 0, none⟩) l.length cap ∧ ti = .int .i64 (28 - 4 * (j : Int)) ∧ j ≤ 8 ∧ l = hexN j (u / 16 ^ (8 - j)) ∧ BOwn wx w.heap.size g cap l ∧ Below w.heap.size w wx) (fun _ ti _ => (intOf ti + 4).toNat)
  case atStart => exact ⟨w.heap.size, 0, 0, [], rfl, rfl, by omega, rfl, World.ownsRow_lit w #[] 0 (Nat.le_refl _) (by decide) rfl, (Below.refl _ _).alloc (Nat.le_refl _) _⟩
  case round =>
    obtain ⟨g, cap, j, l, rfl, rfl, hj, hl, hown, hbel⟩ := hrel
    have HN := Lib.hid hown
    have HB := Lib.hid hbel
    have HL := Lib.hid hl
    have HLEN := Lib.hid (show l.length = j by rw [hl, hexN_len])
    clear hown hbel hl
    by_cases h8 : j = 8
    · subst h8
      have hcv := run_convert_bytes_back (P := Tryd.prog) wr 68 9 5 ⟨g, 0, none⟩ cap l Tryd.underlying68 Tryd.underlying5 Tryd.underlying9 HN.out.read
      go_wp2
      go_ret
      exact ⟨by rw [show hexN 8 u = l by rw [HL.out]; simp]; rfl, HB.out⟩
    · obtain rfl | rfl | rfl | rfl | rfl | rfl | rfl | rfl : j = 0 ∨ j = 1 ∨ j = 2 ∨ j = 3 ∨ j = 4 ∨ j = 5 ∨ j = 6 ∨ j = 7 := by omega
      · obtain ⟨d, hd⟩ : ∃ d, d = (u / 268435456) % 16 := ⟨_, rfl⟩
        have hd16 : d < 16 := by omega
        have hbits : bits .and .i64 ((u : Int) / 268435456) 15 = (d : Int) := by rw [i64_and15]; omega
        have hdig := hex_digit d hd16
        have HD := Lib.hid hd
        clear hd
        go_wp2_with (first | (at_builtin; refine wpList_append_own _ rfl (.tmp 13) (.tmp 20) 68 rfl w.heap.size 5 i0 _ 1 1 Tryd.underlying68 hi0 hz0 hz1 hz2 rfl (by decide) _ l.length (l.map byteV) rfl (World.ownsRow.alloc HN.out _) ⟨wr.heap.size, 0, none⟩ 1 1 [byteV (hexD d)] rfl rfl ?c1 ?c2 ?c3 ?c4 ?c5 ?_))
        case c1 => exact news_cells rfl
        case c2 => intro x hx; simp at hx; rcases hx with rfl; rfl
        case c3 => have := HLEN.out; unfold maxLen; omega
        case c4 => have := HLEN.out; omega
        case c5 => have := HB.out.size; simp <;> omega
        intro v' w3 hown1 hgrow _
        obtain ⟨g', cap', rfl, hown2⟩ := BOwn.snoc hown1
        have HN1 := Lib.hid hown2
        have HB1 := Lib.hid ((HB.out.alloc HB.out.size _).grown hgrow (by have := HB.out.size; simp; omega) (fun q hq => (World.ownsRow.lt HN.out q hq).1))
        clear hown1 hown2 hgrow
        go_wp2
        go_roundw
        case rel => exact ⟨g', cap', 0 + 1, l ++ [hexD d], rfl, by go_num, by omega, by rw [HL.out, HD.out]; simp [hexN], HN1.out, HB1.out⟩
        case measure => simp [intOf]
      · obtain ⟨d, hd⟩ : ∃ d, d = (u / 16777216) % 16 := ⟨_, rfl⟩
        have hd16 : d < 16 := by omega
        have hbits : bits .and .i64 ((u : Int) / 16777216) 15 = (d : Int) := by rw [i64_and15]; omega
        have hdig := hex_digit d hd16
        have HD := Lib.hid hd
        clear hd
        go_wp2_with (first | (at_builtin; refine wpList_append_own _ rfl (.tmp 13) (.tmp 20) 68 rfl w.heap.size 5 i0 _ 1 1 Tryd.underlying68 hi0 hz0 hz1 hz2 rfl (by decide) _ l.length (l.map byteV) rfl (World.ownsRow.alloc HN.out _) ⟨wr.heap.size, 0, none⟩ 1 1 [byteV (hexD d)] rfl rfl ?c1 ?c2 ?c3 ?c4 ?c5 ?_))
        case c1 => exact news_cells rfl
        case c2 => intro x hx; simp at hx; rcases hx with rfl; rfl
        case c3 => have := HLEN.out; unfold maxLen; omega
        case c4 => have := HLEN.out; omega
        case c5 => have := HB.out.size; simp <;> omega
        intro v' w3 hown1 hgrow _
        obtain ⟨g', cap', rfl, hown2⟩ := BOwn.snoc hown1
        have HN1 := Lib.hid hown2
        have HB1 := Lib.hid ((HB.out.alloc HB.out.size _).grown hgrow (by have := HB.out.size; simp; omega) (fun q hq => (World.ownsRow.lt HN.out q hq).1))
        clear hown1 hown2 hgrow
        go_wp2
        go_roundw
        case rel => exact ⟨g', cap', 1 + 1, l ++ [hexD d], rfl, by go_num, by omega, by rw [HL.out, HD.out]; simp [hexN, Nat.div_div_eq_div_mul], HN1.out, HB1.out⟩
        case measure => simp [intOf]
      · obtain ⟨d, hd⟩ : ∃ d, d = (u / 1048576) % 16 := ⟨_, rfl⟩
        have hd16 : d < 16 := by omega
        have hbits : bits .and .i64 ((u : Int) / 1048576) 15 = (d : Int) := by rw [i64_and15]; omega
        have hdig := hex_digit d hd16
        have HD := Lib.hid hd
        clear hd
        go_wp2_with (first | (at_builtin; refine wpList_append_own _ rfl (.tmp 13) (.tmp 20) 68 rfl w.heap.size 5 i0 _ 1 1 Tryd.underlying68 hi0 hz0 hz1 hz2 rfl (by decide) _ l.length (l.map byteV) rfl (World.ownsRow.alloc HN.out _) ⟨wr.heap.size, 0, none⟩ 1 1 [byteV (hexD d)] rfl rfl ?c1 ?c2 ?c3 ?c4 ?c5 ?_))
        case c1 => exact news_cells rfl
        case c2 => intro x hx; simp at hx; rcases hx with rfl; rfl
        case c3 => have := HLEN.out; unfold maxLen; omega
        case c4 => have := HLEN.out; omega
        case c5 => have := HB.out.size; simp <;> omega
        intro v' w3 hown1 hgrow _
        obtain ⟨g', cap', rfl, hown2⟩ := BOwn.snoc hown1
        have HN1 := Lib.hid hown2
        have HB1 := Lib.hid ((HB.out.alloc HB.out.size _).grown hgrow (by have := HB.out.size; simp; omega) (fun q hq => (World.ownsRow.lt HN.out q hq).1))
        clear hown1 hown2 hgrow
        go_wp2
        go_roundw
        case rel => exact ⟨g', cap', 2 + 1, l ++ [hexD d], rfl, by go_num, by omega, by rw [HL.out, HD.out]; simp [hexN, Nat.div_div_eq_div_mul], HN1.out, HB1.out⟩
        case measure => simp [intOf]
      · obtain ⟨d, hd⟩ : ∃ d, d = (u / 65536) % 16 := ⟨_, rfl⟩
        have hd16 : d < 16 := by omega
        have hbits : bits .and .i64 ((u : Int) / 65536) 15 = (d : Int) := by rw [i64_and15]; omega
        have hdig := hex_digit d hd16
        have HD := Lib.hid hd
        clear hd
        go_wp2_with (first | (at_builtin; refine wpList_append_own _ rfl (.tmp 13) (.tmp 20) 68 rfl w.heap.size 5 i0 _ 1 1 Tryd.underlying68 hi0 hz0 hz1 hz2 rfl (by decide) _ l.length (l.map byteV) rfl (World.ownsRow.alloc HN.out _) ⟨wr.heap.size, 0, none⟩ 1 1 [byteV (hexD d)] rfl rfl ?c1 ?c2 ?c3 ?c4 ?c5 ?_))
        case c1 => exact news_cells rfl
        case c2 => intro x hx; simp at hx; rcases hx with rfl; rfl
        case c3 => have := HLEN.out; unfold maxLen; omega
        case c4 => have := HLEN.out; omega
        case c5 => have := HB.out.size; simp <;> omega
        intro v' w3 hown1 hgrow _
        obtain ⟨g', cap', rfl, hown2⟩ := BOwn.snoc hown1
        have HN1 := Lib.hid hown2
        have HB1 := Lib.hid ((HB.out.alloc HB.out.size _).grown hgrow (by have := HB.out.size; simp; omega) (fun q hq => (World.ownsRow.lt HN.out q hq).1))
        clear hown1 hown2 hgrow
        go_wp2
        go_roundw
        case rel => exact ⟨g', cap', 3 + 1, l ++ [hexD d], rfl, by go_num, by omega, by rw [HL.out, HD.out]; simp [hexN, Nat.div_div_eq_div_mul], HN1.out, HB1.out⟩
        case measure => simp [intOf]
      · obtain ⟨d, hd⟩ : ∃ d, d = (u / 4096) % 16 := ⟨_, rfl⟩
        have hd16 : d < 16 := by omega
        have hbits : bits .and .i64 ((u : Int) / 4096) 15 = (d : Int) := by rw [i64_and15]; omega
        have hdig := hex_digit d hd16
        have HD := Lib.hid hd
        clear hd
        go_wp2_with (first | (at_builtin; refine wpList_append_own _ rfl (.tmp 13) (.tmp 20) 68 rfl w.heap.size 5 i0 _ 1 1 Tryd.underlying68 hi0 hz0 hz1 hz2 rfl (by decide) _ l.length (l.map byteV) rfl (World.ownsRow.alloc HN.out _) ⟨wr.heap.size, 0, none⟩ 1 1 [byteV (hexD d)] rfl rfl ?c1 ?c2 ?c3 ?c4 ?c5 ?_))
        case c1 => exact news_cells rfl
        case c2 => intro x hx; simp at hx; rcases hx with rfl; rfl
        case c3 => have := HLEN.out; unfold maxLen; omega
        case c4 => have := HLEN.out; omega
        case c5 => have := HB.out.size; simp <;> omega
        intro v' w3 hown1 hgrow _
        obtain ⟨g', cap', rfl, hown2⟩ := BOwn.snoc hown1
        have HN1 := Lib.hid hown2
        have HB1 := Lib.hid ((HB.out.alloc HB.out.size _).grown hgrow (by have := HB.out.size; simp; omega) (fun q hq => (World.ownsRow.lt HN.out q hq).1))
        clear hown1 hown2 hgrow
        go_wp2
        go_roundw
        case rel => exact ⟨g', cap', 4 + 1, l ++ [hexD d], rfl, by go_num, by omega, by rw [HL.out, HD.out]; simp [hexN, Nat.div_div_eq_div_mul], HN1.out, HB1.out⟩
        case measure => simp [intOf]
      · obtain ⟨d, hd⟩ : ∃ d, d = (u / 256) % 16 := ⟨_, rfl⟩
        have hd16 : d < 16 := by omega
        have hbits : bits .and .i64 ((u : Int) / 256) 15 = (d : Int) := by rw [i64_and15]; omega
        have hdig := hex_digit d hd16
        have HD := Lib.hid hd
        clear hd
        go_wp2_with (first | (at_builtin; refine wpList_append_own _ rfl (.tmp 13) (.tmp 20) 68 rfl w.heap.size 5 i0 _ 1 1 Tryd.underlying68 hi0 hz0 hz1 hz2 rfl (by decide) _ l.length (l.map byteV) rfl (World.ownsRow.alloc HN.out _) ⟨wr.heap.size, 0, none⟩ 1 1 [byteV (hexD d)] rfl rfl ?c1 ?c2 ?c3 ?c4 ?c5 ?_))
        case c1 => exact news_cells rfl
        case c2 => intro x hx; simp at hx; rcases hx with rfl; rfl
        case c3 => have := HLEN.out; unfold maxLen; omega
        case c4 => have := HLEN.out; omega
        case c5 => have := HB.out.size; simp <;> omega
        intro v' w3 hown1 hgrow _
        obtain ⟨g', cap', rfl, hown2⟩ := BOwn.snoc hown1
        have HN1 := Lib.hid hown2
        have HB1 := Lib.hid ((HB.out.alloc HB.out.size _).grown hgrow (by have := HB.out.size; simp; omega) (fun q hq => (World.ownsRow.lt HN.out q hq).1))
        clear hown1 hown2 hgrow
        go_wp2
        go_roundw
        case rel => exact ⟨g', cap', 5 + 1, l ++ [hexD d], rfl, by go_num, by omega, by rw [HL.out, HD.out]; simp [hexN, Nat.div_div_eq_div_mul], HN1.out, HB1.out⟩
        case measure => simp [intOf]
      · obtain ⟨d, hd⟩ : ∃ d, d = (u / 16) % 16 := ⟨_, rfl⟩
        have hd16 : d < 16 := by omega
        have hbits : bits .and .i64 ((u : Int) / 16) 15 = (d : Int) := by rw [i64_and15]; omega
        have hdig := hex_digit d hd16
        have HD := Lib.hid hd
        clear hd
        go_wp2_with (first | (at_builtin; refine wpList_append_own _ rfl (.tmp 13) (.tmp 20) 68 rfl w.heap.size 5 i0 _ 1 1 Tryd.underlying68 hi0 hz0 hz1 hz2 rfl (by decide) _ l.length (l.map byteV) rfl (World.ownsRow.alloc HN.out _) ⟨wr.heap.size, 0, none⟩ 1 1 [byteV (hexD d)] rfl rfl ?c1 ?c2 ?c3 ?c4 ?c5 ?_))
        case c1 => exact news_cells rfl
        case c2 => intro x hx; simp at hx; rcases hx with rfl; rfl
        case c3 => have := HLEN.out; unfold maxLen; omega
        case c4 => have := HLEN.out; omega
        case c5 => have := HB.out.size; simp <;> omega
        intro v' w3 hown1 hgrow _
        obtain ⟨g', cap', rfl, hown2⟩ := BOwn.snoc hown1
        have HN1 := Lib.hid hown2
        have HB1 := Lib.hid ((HB.out.alloc HB.out.size _).grown hgrow (by have := HB.out.size; simp; omega) (fun q hq => (World.ownsRow.lt HN.out q hq).1))
        clear hown1 hown2 hgrow
        go_wp2
        go_roundw
        case rel => exact ⟨g', cap', 6 + 1, l ++ [hexD d], rfl, by go_num, by omega, by rw [HL.out, HD.out]; simp [hexN, Nat.div_div_eq_div_mul], HN1.out, HB1.out⟩
        case measure => simp [intOf]
      · obtain ⟨d, hd⟩ : ∃ d, d = u % 16 := ⟨_, rfl⟩
        have hd16 : d < 16 := by omega
        have hbits : bits .and .i64 (u : Int) 15 = (d : Int) := by rw [i64_and15]; omega
        have hdig := hex_digit d hd16
        have HD := Lib.hid hd
        clear hd
        go_wp2_with (first | (at_builtin; refine wpList_append_own _ rfl (.tmp 13) (.tmp 20) 68 rfl w.heap.size 5 i0 _ 1 1 Tryd.underlying68 hi0 hz0 hz1 hz2 rfl (by decide) _ l.length (l.map byteV) rfl (World.ownsRow.alloc HN.out _) ⟨wr.heap.size, 0, none⟩ 1 1 [byteV (hexD d)] rfl rfl ?c1 ?c2 ?c3 ?c4 ?c5 ?_))
        case c1 => exact news_cells rfl
        case c2 => intro x hx; simp at hx; rcases hx with rfl; rfl
        case c3 => have := HLEN.out; unfold maxLen; omega
        case c4 => have := HLEN.out; omega
        case c5 => have := HB.out.size; simp <;> omega
        intro v' w3 hown1 hgrow _
        obtain ⟨g', cap', rfl, hown2⟩ := BOwn.snoc hown1
        have HN1 := Lib.hid hown2
        have HB1 := Lib.hid ((HB.out.alloc HB.out.size _).grown hgrow (by have := HB.out.size; simp; omega) (fun q hq => (World.ownsRow.lt HN.out q hq).1))
        clear hown1 hown2 hgrow
        go_wp2
        go_roundw
        case rel => exact ⟨g', cap', 7 + 1, l ++ [hexD d], rfl, by go_num, by omega, by rw [HL.out, HD.out]; simp [hexN, Nat.div_div_eq_div_mul], HN1.out, HB1.out⟩
        case measure => simp [intOf]
end Go.Proofs.YtmpeogpmlgnmfaaDoor
