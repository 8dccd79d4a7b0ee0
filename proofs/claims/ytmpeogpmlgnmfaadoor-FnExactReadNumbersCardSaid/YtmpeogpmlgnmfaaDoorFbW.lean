/- The walk of the library's formatBits at base 16. -/
import Derived.Test.YtmpeogpmlgnmfaaDoorFb
namespace Go.Proofs.YtmpeogpmlgnmfaaDoor
open Go.RowKit Go.Deep Flt

def hexTab36 : ByteArray := ⟨#[48, 49, 50, 51, 52, 53, 54, 55, 56, 57, 97, 98, 99, 100, 101, 102, 103, 104, 105, 106, 107, 108, 109, 110, 111, 112, 113, 114, 115, 116, 117, 118, 119, 120, 121, 122]⟩
theorem hexTab36_at (d : Nat) (h : d < 16) : hexTab36[d]? = some (hexD d) := by
  have key : ∀ d : Fin 16, hexTab36[d.val]? = some (hexD d.val) := by decide
  exact key ⟨d, h⟩
theorem hex_digit36 (d : Nat) (h : d < 16) (h' : d < (⟨#[48, 49, 50, 51, 52, 53, 54, 55, 56, 57, 97, 98, 99, 100, 101, 102, 103, 104, 105, 106, 107, 108, 109, 110, 111, 112, 113, 114, 115, 116, 117, 118, 119, 120, 121, 122]⟩ : ByteArray).size) : (⟨#[48, 49, 50, 51, 52, 53, 54, 55, 56, 57, 97, 98, 99, 100, 101, 102, 103, 104, 105, 106, 107, 108, 109, 110, 111, 112, 113, 114, 115, 116, 117, 118, 119, 120, 121, 122]⟩ : ByteArray)[d]'h' = hexD d := by
  have key := hexTab36_at d h
  rw [show hexTab36 = ⟨#[48, 49, 50, 51, 52, 53, 54, 55, 56, 57, 97, 98, 99, 100, 101, 102, 103, 104, 105, 106, 107, 108, 109, 110, 111, 112, 113, 114, 115, 116, 117, 118, 119, 120, 121, 122]⟩ from rfl, ByteArray.getElem?_lt' _ _ h'] at key
  exact Option.some.inj key
set_option maxRecDepth 100000 in
set_option maxHeartbeats 2000000 in
theorem formatBits_16 (u : Nat) (w : World) (hu : u < 4294967296) (h : Tz w) :
    Calls Tryd.prog 76 #[.slice none 0 0, .int .u64 (u : Int), .int .i64 16, .bool false, .bool false] w fun e w' => ∃ v, e = .returned (.tuple #[v, .string ⟨(hexMin u).toArray⟩]) ∧ Below w.heap.size w w' := by
  have HTZ := Lib.hid (fun W (h : Tz W) => tz_16 W h)
  have HP2 := Lib.hid (fun W => pow2_16 W)
  have HT := Lib.hid h
  clear h
  go_enter Tryd.func76, Tryd.ntmps76
  go_wp2_with fail
  refine (HP2.out _).mono ?_
  rintro e w1 ⟨rfl, rfl⟩
  go_wp2_with fail
  refine (HTZ.out _ (HT.out.below ((Below.refl _ _).alloc (Nat.le_refl _) _))).mono ?_
  rintro e w1 ⟨rfl, rfl⟩
  go_wp2
  go_loopw [1, 13] (fun tu ti wx => ∃ (v k : Nat) (l : List UInt8), tu = .int .u64 (v : Int) ∧ ti = .int .i64 (k : Int) ∧ k + l.length = 65 ∧ v ≤ u ∧ HInv u v l ∧ (l = [] ∨ 1 ≤ v) ∧ ARow wx w.heap.size l ∧ Below w.heap.size w wx) (fun tu _ _ => (intOf tu).toNat)
  case atStart => exact ⟨u, 65, [], rfl, rfl, rfl, Nat.le_refl _, HInv.start u, .inl rfl, ARow.start w, (Below.refl _ _).alloc (Nat.le_refl _) _⟩
  case round =>
    obtain ⟨v, k, l, rfl, rfl, hk, hvu, hinv, hv1, harr, hbel⟩ := hrel
    have HI := Lib.hid hinv
    have HA := Lib.hid harr
    have HB := Lib.hid hbel
    have hl8 : l.length < 8 := by
      rcases hv1 with rfl | h1
      · simp
      · exact hinv.few hu h1
    clear hinv hv1 harr hbel HT HTZ HP2
    obtain ⟨m, rfl⟩ : ∃ m, k = m + 1 := ⟨k - 1, by omega⟩
    obtain ⟨⟨x, hx⟩, hfr⟩ := HA.out.at' m (by omega)
    have hm64 : 64 - l.length = m := by omega
    have hmk : (m : Int) < 65 := by omega
    have hm0 : (0 : Int) ≤ (m : Int) := by omega
    by_cases hge : 16 ≤ v
    · have hge' : (16 : Int) ≤ (v : Int) := by omega
      obtain ⟨d, hd⟩ : ∃ d, d = v % 16 := ⟨_, rfl⟩
      have hd16 : d < 16 := by omega
      have hbits : bits .and .u64 (v : Int) 15 = (d : Int) := by rw [u64_and15]; omega
      have hdig := hex_digit36 d hd16
      have HI1 := Lib.hid (HI.out.step hge)
      have HA1 := Lib.hid (HA.out.more (by omega) (hexD d))
      rw [hm64] at HA1
      have HD := Lib.hid hd
      clear hd
      go_wp2
      go_roundw
      case rel => exact ⟨v / 16, m, hexD d :: l, by go_num, by go_num, by simp; omega, by omega, by rw [HD.out]; exact HI1.out, .inr (by omega), HA1.out, HB.out.setCell (Nat.le_refl _) _⟩
      case measure => simp [intOf]; omega
    · have hlt' : ¬ (16 : Int) ≤ (v : Int) := by omega
      have hv16 : v < 16 := by omega
      have hdig := hex_digit36 v hv16
      have HS := Lib.hid (HI.out.stop hv16)
      have HA1 := Lib.hid (HA.out.more (by omega) (hexD v))
      rw [hm64] at HA1
      have hcv := run_convert_bytes_back (P := Tryd.prog) (wr.setCell ⟨w.heap.size, m, none⟩ (.int .u8 ((hexD v).toNat : Int))) 68 9 5 ⟨w.heap.size, m, none⟩ (65 - m) (hexD v :: l) Tryd.underlying68 Tryd.underlying5 Tryd.underlying9 (by have := HA1.out.read; rw [show 65 - (hexD v :: l).length = m by simp; omega] at this; exact this)
      have hlen : (hexD v :: l).length = 65 - m := by simp; omega
      rw [hlen] at hcv
      have hal : ((m : Int)) ≤ Tryd.prog.arrayLen 111 := by
        have e : Tryd.prog.arrayLen 111 = 65 := by kernel_rfl
        rw [e]; omega
      have hne : ¬ 65 = m := by omega
      have hsl : ∀ W, (Instr.sliceAt 111 (.pointer (some ⟨w.heap.size, 0, none⟩)) (some (.int .i64 (m : Int))) none none).run Tryd.prog W = .ok (.slice (some ⟨w.heap.size, m, none⟩) (65 - m) (65 - m)) W := by
        intro W
        rw [run_sliceAt_array_l (P := Tryd.prog) (w := W) (t := 111) (a := ⟨w.heap.size, 0, none⟩) (ht := by kernel_rfl) (kl := .i64) (l := (m : Int)) (h0 := hm0) (h1 := hal)]
        have e1 : Tryd.prog.arrayLen 111 = 65 := by kernel_rfl
        have e2 : Tryd.prog.elem 111 = 5 := by kernel_rfl
        have e3 : ∀ W, (sizeOf 5).run Tryd.prog W = .ok 1 W := fun W => Tryd.sizeOf5 W
        rw [e1, e2, e3]
        simp [slicedAt, add_plain, hne, Result.andThen]
      clear hal
      go_wp2
      go_ret2
      first
        | exact ⟨_, by rw [HS.out]; rfl, HB.out.setCell (Nat.le_refl _) _⟩
        | exact ⟨⟨_, by rw [HS.out]; rfl⟩, HB.out.setCell (Nat.le_refl _) _⟩
end Go.Proofs.YtmpeogpmlgnmfaaDoor
