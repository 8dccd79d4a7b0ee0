/- The library's ParseUint at base 16 and 32 bits, over eight bytes. -/
import Derived.Test.YtmpeogpmlgnmfaaGreatDoorHxL
import Derived.Test.YtmpeogpmlgnmfaaGreatDoorErr
import Derived.Lib.Strings
import Derived.Lib.Walk
import Derived.Lib.ConvBytes
import Derived.Lib.ParseIntBMem
import Derived.Laws.Strings3
import Derived.Laws.Closers25
import Derived.Laws.Closers25b
import Derived.BigCall
import Derived.BigGuard
namespace Go.Proofs.YtmpeogpmlgnmfaaGreatDoor
set_option maxRecDepth 100000
open Go.RowKit Go.Deep Flt

theorem lower_any (c : Int) (w : World) :
    Calls Tryz.prog 106 #[.int .u8 c] w fun e w' => e = .returned (.int .u8 (bits .or .u8 c 32)) ∧ w = w' := by
  go_enter Tryz.func106, Tryz.ntmps106
  go_wp2
  go_ret
  exact ⟨rfl, rfl⟩
theorem or32_small : ∀ c : Fin 256, 97 ≤ c.val → c.val ≤ 102 → bits .or .u8 (c.val : Int) 32 = (c.val : Int) := by decide +kernel
theorem or32_any : ∀ c : Fin 256, 0 ≤ bits .or .u8 (c.val : Int) 32 ∧ bits .or .u8 (c.val : Int) 32 ≤ 255 := by decide +kernel
/-- where the reading stands: k bytes read, the number is a -/
def PuInv (l : List UInt8) (k acc : Nat) : Prop := acc < 16 ^ k ∧ ∀ v, hv (l.take k) = some v → acc = v
theorem PuInv.yes {l : List UInt8} {k acc d : Nat} (h : PuInv l k acc) (hk : k < l.length) (hd : lowD l[k] = some d) : PuInv l (k + 1) (16 * acc + d) := by
  have hlt := lowD_lt hd
  refine ⟨by have := h.1; rw [Nat.pow_succ]; omega, fun v hvv => ?_⟩
  rw [List.take_succ_eq_append_getElem hk, hv_snoc] at hvv
  cases h1 : hv (l.take k) with
  | none => rw [h1] at hvv; cases hvv
  | some u =>
    rw [h1] at hvv
    unfold hvS at hvv
    rw [hd] at hvv
    cases hvv
    rw [h.2 u h1]
theorem hv_bad {l : List UInt8} {k : Nat} (hk : k < l.length) (hd : lowD l[k] = none) : hv (l.take (k + 1)) = none ∧ hv l = none := by
  have h1 : hv (l.take (k + 1)) = none := by
    rw [List.take_succ_eq_append_getElem hk, hv_snoc]
    unfold hvS
    rw [hd]
    cases hv (l.take k) <;> rfl
  refine ⟨h1, ?_⟩
  have := hv_none_app (l.drop (k + 1)) h1
  rwa [List.take_append_drop] at this
theorem PuInv.no {l : List UInt8} {k acc d : Nat} (h : PuInv l k acc) (hk : k < l.length) (hd : lowD l[k] = none) (hlt : d < 16) : PuInv l (k + 1) (16 * acc + d) := by
  refine ⟨by have := h.1; rw [Nat.pow_succ]; omega, fun v hvv => ?_⟩
  rw [(hv_bad hk hd).1] at hvv
  cases hvv
/-- what the inner reading gives -/
def PuE (l : List UInt8) (e : Ending) : Prop :=
  (∃ x : Nat, x < 4294967296 ∧ (∀ v, hv l = some v → x = v) ∧ e = .returned (.tuple #[.int .u64 x, .nilIface])) ∨ (hv l = none ∧ e = .returned (.tuple #[.int .u64 0, .iface 129 (.int .i64 2)]))
set_option maxHeartbeats 8000000 in
set_option maxRecDepth 100000 in
theorem parseU16 (t : ByteArray) (h8 : t.size = 8) (w : World) :
    Calls Tryz.prog 92 #[.string t, .int .i64 16, .int .i64 32] w fun e w' => PuE t.data.toList e ∧ Below w.heap.size w w' := by
  have hemp : t.toList.isEmpty = false := by
    rw [← decide_eq_emptyBytes]
    exact decide_eq_false (fun h => by rw [h] at h8; cases h8)
  have hcv := Lib.run_convert_string_bytes (P := Tryz.prog) w 9 22 5 t (u := .string) Tryz.underlying9 Tryz.underlying22 Tryz.underlying5
  have hB : ∀ j, j < t.size → (Lib.bytesWorld w 5 t).cell? ⟨w.heap.size, j, none⟩ = some (.int .u8 (t.data.toList.getD j 0).toNat) := fun j hj => Lib.bytesWorld_cell w 5 t j hj
  have HBel := Lib.hid (Lib.bytesWorld_below w 5 t)
  obtain ⟨W1, hW1⟩ : ∃ W1, W1 = Lib.bytesWorld w 5 t := ⟨_, rfl⟩
  rw [← hW1] at hcv hB HBel
  clear hW1
  obtain ⟨bs, hL⟩ : ∃ bs, bs = t.data.toList := ⟨_, rfl⟩
  have hLn : bs.length = t.size := by rw [hL, Lib.size_eq]
  rw [← hL] at hB ⊢
  clear hL
  have hmv : IntKind.u64.wrap (IntKind.u64.wrap 4294967296 - 1) = 4294967295 := by
    rw [IntKind.wrap_u64, IntKind.wrap_u64]
    decide
  have H8 := Lib.hid h8
  rw [h8] at hLn hB
  clear h8
  go_enter Tryz.func92, Tryz.ntmps92
  go_wp2
  go_loop [12, 13, 101] (fun vu vn vi => ∃ (k acc : Nat) (a : Int), vu = .bool false ∧ vn = .int .u64 a ∧ vi = .int .i64 k ∧ k ≤ 8 ∧ Hid (a = (acc : Int) ∧ PuInv bs k acc))
    (fun _ _ vi => 8 - (intOf vi).toNat)
  case atStart => exact ⟨0, 0, 0, rfl, rfl, rfl, by omega, Lib.hid ⟨rfl, by decide, fun v hv0 => by cases hv0; rfl⟩⟩
  case round =>
    obtain ⟨k, acc, a, rfl, rfl, rfl, hk, hh⟩ := hrel
    obtain ⟨ha, hinv⟩ := hh.out
    have HI := Lib.hid hinv
    clear hh
    by_cases hkn : k < 8
    · have hks : k < t.size := by have := H8.out; omega
      have hacc : acc < 268435456 := Nat.lt_of_lt_of_le hinv.1 (Nat.pow_le_pow_right (n := 16) (by omega) (show k ≤ 7 by omega))
      have a0 : 0 ≤ a := by omega
      have a1 : a < 268435456 := by omega
      have hc := hB k hkn
      have hkl : k < bs.length := by omega
      have hget : bs.getD k 0 = bs[k] := by simp [List.getD, List.getElem?_eq_getElem hkl]
      rw [hget] at hc
      have HY := Lib.hid (fun d h => PuInv.yes (d := d) HI.out hkl h)
      have HN := Lib.hid (fun d h h' => PuInv.no (d := d) HI.out hkl h h')
      have HZ := Lib.hid (fun h => hv_bad hkl h)
      generalize bs[k] = c at hc HY HN HZ
      have hc256 : c.toNat < 256 := c.toNat_lt
      have HA := Lib.hid ha
      clear hB hget hinv ha hLn hkl
      by_cases hdig : 48 ≤ c.toNat ∧ c.toNat ≤ 57
      · have HL := Lib.hid (show lowD c = some (c.toNat - 48) by unfold lowD; rw [if_pos hdig])
        obtain ⟨hd0, hd1⟩ := hdig
        have iov : a * 16 + ((c.toNat : Int) - 48) ≤ 4294967295 := by omega
        have HR := Lib.hid (show a * 16 + ((c.toNat : Int) - 48) = ((16 * acc + (c.toNat - 48) : Nat) : Int) by have := HA.out; omega)
        clear hacc
        go_wp2
        go_round
        case rel => exact ⟨k + 1, 16 * acc + (c.toNat - 48), a * 16 + ((c.toNat : Int) - 48), rfl, rfl, by go_num, by omega, Lib.hid ⟨HR.out, HY.out _ HL.out⟩⟩
        case measure => simp [intOf]; omega
      · by_cases hlow : 97 ≤ c.toNat ∧ c.toNat ≤ 102
        · have HL := Lib.hid (show lowD c = some (c.toNat - 87) by unfold lowD; rw [if_neg hdig, if_pos hlow])
          have hor := or32_small ⟨c.toNat, hc256⟩ hlow.1 hlow.2
          obtain ⟨hd0, hd1⟩ := hlow
          have iov : a * 16 + ((c.toNat : Int) - 97 + 10) ≤ 4294967295 := by omega
          have HR := Lib.hid (show a * 16 + ((c.toNat : Int) - 97 + 10) = ((16 * acc + (c.toNat - 87) : Nat) : Int) by have := HA.out; omega)
          have hdig' : ¬ (c.toNat : Int) ≤ 57 := by omega
          clear hacc hdig
          simp only at hor
          go_wp2_with (go_at_call 106; refine (lower_any _ _).mono ?_; rw [hor]; rintro e w' ⟨rfl, rfl⟩)
          go_round
          case rel => exact ⟨k + 1, 16 * acc + (c.toNat - 87), a * 16 + ((c.toNat : Int) - 97 + 10), rfl, rfl, by go_num, by omega, Lib.hid ⟨HR.out, HY.out _ HL.out⟩⟩
          case measure => simp [intOf]; omega
        · have HL := Lib.hid (show lowD c = none by unfold lowD; rw [if_neg hdig, if_neg hlow])
          have hor := or32_any ⟨c.toNat, hc256⟩
          simp only at hor
          obtain ⟨m, hm⟩ : ∃ m, m = bits .or .u8 (c.toNat : Int) 32 := ⟨_, rfl⟩
          rw [← hm] at hor
          have HM := Lib.hid hm
          obtain ⟨hm0, hm1⟩ := hor
          have HC := Lib.hid (fun W => show Calls Tryz.prog 106 #[.int .u8 (c.toNat : Int)] W fun e w' => e = .returned (.int .u8 m) ∧ W = w' by rw [hm]; exact lower_any _ _)
          clear hm hlow
          by_cases h95 : (c.toNat : Int) = 95
          · have hb95 : bits .or .u8 95 32 = 127 := by decide
            rw [h95] at hc
            clear hacc HC HM hdig
            go_wp2_with (go_at_call 106; refine (lower_any _ _).mono ?_; rw [hb95]; rintro e w' ⟨rfl, rfl⟩)
            all_goals go_ret2
            all_goals exact ⟨.inr ⟨(HZ.out HL.out).2, rfl⟩, HBel.out⟩
          have hne95 : ((c.toNat : Int) == 95) = false := by simpa using h95
          clear h95
          by_cases hin : 97 ≤ m ∧ m ≤ 102
          · obtain ⟨hi0, hi1⟩ := hin
            obtain ⟨d, rfl⟩ : ∃ d : Nat, m = (d : Int) := ⟨m.toNat, by omega⟩
            have iov : a * 16 + ((d : Int) - 97 + 10) ≤ 4294967295 := by omega
            have HR := Lib.hid (show a * 16 + ((d : Int) - 97 + 10) = ((16 * acc + (d - 87) : Nat) : Int) by have := HA.out; omega)
            clear hacc
            go_wp2_with (go_at_call 106; refine (HC.out _).mono ?_; rintro e w' ⟨rfl, rfl⟩)
            all_goals
              go_round
              case rel => exact ⟨k + 1, 16 * acc + (d - 87), a * 16 + ((d : Int) - 97 + 10), rfl, rfl, by go_num, by omega, Lib.hid ⟨HR.out, HN.out _ HL.out (by omega)⟩⟩
              case measure => simp [intOf]; omega
          · clear hacc
            go_wp2_with (go_at_call 106; refine (HC.out _).mono ?_; rintro e w' ⟨rfl, rfl⟩)
            all_goals go_ret2
            all_goals exact ⟨.inr ⟨(HZ.out HL.out).2, rfl⟩, HBel.out⟩
    · have hks : ¬ k < t.size := by have := H8.out; omega
      have hkk : k = 8 := by omega
      subst hkk
      have HT := Lib.hid (show bs.take 8 = bs from List.take_of_length_le (by omega))
      subst ha
      clear hinv
      go_wp2
      go_ret2
      exact ⟨.inl ⟨acc, HI.out.1, fun v h => HI.out.2 v (by rw [HT.out]; exact h), rfl⟩, HBel.out⟩
/-- what the library's reading gives: the number where the bytes are small digits, some number else -/
def PuO (l : List UInt8) (e : Ending) : Prop := ∃ (x : Nat) (E : Value), x < 4294967296 ∧ (∀ v, hv l = some v → x = v) ∧ e = .returned (.tuple #[.int .u64 x, E])
set_option maxHeartbeats 1000000 in
theorem parseUpub (t : ByteArray) (h8 : t.size = 8) (w : World) (he : Errs w) :
    Calls Tryz.prog 76 #[.string t, .int .i64 16, .int .i64 32] w fun e w' => PuO t.data.toList e ∧ Below w.heap.size w w' := by
  obtain ⟨⟨tp, p, h1⟩, _⟩ := he
  have hc : w.cell? ⟨2, 0, none⟩ = some (.iface tp p) := by have h0 := World.var?_cell syn_block h1 0; simpa using h0
  have HC := Lib.hid hc
  have HP := Lib.hid (parseU16 t h8 w)
  have HT := Lib.hid (fun (W : World) (hv0 : W.cell? ⟨2, 0, none⟩ = some (.iface tp p)) => show Calls Tryz.prog 93 #[.string ⟨#[80, 97, 114, 115, 101, 85, 105, 110, 116]⟩, .string t, .int .i64 16, .int .i64 32, .iface 129 (.int .i64 2)] W fun e w' => (∃ E, e = .returned E) ∧ Below W.heap.size W w' from
    (Any.strconv_toError_syntax Tryz.laysC245 ⟨#[80, 97, 114, 115, 101, 85, 105, 110, 116]⟩ t 16 32 (.iface tp p) W (by omega) hv0 (.inr ⟨_, _, rfl⟩)).mono fun _ _ ⟨_, a1, _, _, a4⟩ => ⟨⟨_, a1⟩, a4⟩)
  have H8 := Lib.hid h8
  clear h1 hc h8
  go_enter Tryz.func76, Tryz.ntmps76
  go_wp2_with fail
  refine HP.out.mono ?_
  rintro e w1 ⟨⟨x, hx, hxv, rfl⟩ | ⟨hno, rfl⟩, b1⟩
  · have HX := Lib.hid hxv
    have B1 := Lib.hid b1
    clear hxv b1
    go_wp2
    go_ret2
    exact ⟨⟨x, _, hx, HX.out, rfl⟩, B1.out⟩
  · have HN := Lib.hid hno
    have B1 := Lib.hid b1
    have HC1 := Lib.hid ((b1.cell (World.block_lt_of_cell? w _ HC.out)).trans HC.out)
    clear hno b1
    go_wp2_with fail
    refine (HT.out _ HC1.out).mono ?_
    rintro e w2 ⟨⟨E, rfl⟩, b2⟩
    have B2 := Lib.hid (B1.out.trans (b2.mono B1.out.size))
    clear b2
    go_wp2
    go_ret2
    exact ⟨⟨0, E, by decide, (fun v h => by rw [HN.out] at h; cases h), rfl⟩, B2.out⟩
/-- what the program reads from eight bytes -/
def RhO (l : List UInt8) (e : Ending) : Prop := ∃ x : Nat, x < 4294967296 ∧ (∀ v, hv l = some v → x = v) ∧ e = .returned (.float .f32 x)
set_option maxHeartbeats 1000000 in
theorem readHex_any (t : ByteArray) (h8 : t.size = 8) (w : World) (he : Errs w) :
    Calls Tryz.prog 50 #[.string t] w fun e w' => RhO t.data.toList e ∧ Below w.heap.size w w' := by
  have HP := Lib.hid (parseUpub t h8 w he)
  clear he h8
  go_enter Tryz.func50, Tryz.ntmps50
  go_wp2_with fail
  refine HP.out.mono ?_
  rintro e w1 ⟨⟨x, E, hx, hxv, rfl⟩, b1⟩
  have HX := Lib.hid hxv
  have B1 := Lib.hid b1
  have hx' : (x : Int) ≤ 4294967295 := by omega
  clear hxv b1
  go_wp2
  go_ret
  exact ⟨⟨x, hx, HX.out, rfl⟩, B1.out⟩
end Go.Proofs.YtmpeogpmlgnmfaaGreatDoor
