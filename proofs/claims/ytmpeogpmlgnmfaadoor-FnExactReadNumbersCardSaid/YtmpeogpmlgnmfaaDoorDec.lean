/- Both texts' Decimal: a number in decimal. -/
import Derived.Test.YtmpeogpmlgnmfaaDoorNum
import Derived.Test.YtmpeogpmlgnmfaaDoorOwn
import Derived.Test.YtmpeogpmlgnmfaaDoorDecL
import Derived.Laws.IdiomStrings
namespace Go.Proofs.YtmpeogpmlgnmfaaDoor
open Go.RowKit Go.Deep Flt Dec

theorem u8_info : (Tryd.prog.info? 5).map (fun i => (i.zero, i.size, i.bytes)) = some (some (.int .u8 0), 1, 1) := by kernel_rfl
/-- bytes of the call's own -/
def byteV (b : UInt8) : Value := .int .u8 (b.toNat : Int)
def BOwn (w : World) (B : Nat) (g cap : Nat) (l : List UInt8) : Prop := w.ownsRow B 5 1 (.slice (some ⟨g, 0, none⟩) l.length cap) l.length (l.map byteV)
theorem BOwn.alloc {w : World} {B g cap : Nat} {l : List UInt8} (h : BOwn w B g cap l) (o : Obj) : BOwn (w.alloc o) B g cap l := World.ownsRow.alloc h o
theorem BOwn.cells {w : World} {B g cap : Nat} {l : List UInt8} (h : BOwn w B g cap l) : ∀ j u, (l.map byteV)[j]? = some u → w.cell? ((⟨g, 0, none⟩ : Addr).add j) = some u := World.ownsRow.cells h rfl
theorem BOwn.read {w : World} {B g cap : Nat} {l : List UInt8} (h : BOwn w B g cap l) : ∀ j (hj : j < l.length), w.cell? ((⟨g, 0, none⟩ : Addr).add j) = some (.int .u8 (l[j].toNat : Int)) := fun j hj =>
  h.cells j _ (by simp [List.getElem?_eq_getElem hj, byteV])
theorem bytes_one (l : List UInt8) : ∀ u ∈ l.map byteV, u.oneCell' = true := by
  intro u hu
  simp at hu
  obtain ⟨b, _, rfl⟩ := hu
  rfl
/-- a byte ahead of bytes: what append leaves -/
theorem BOwn.cons {w : World} {B : Nat} {v : Value} {b : UInt8} {l : List UInt8} (h : w.ownsRow B 5 1 v (1 + l.length) ([byteV b] ++ l.map byteV)) : ∃ g cap, v = .slice (some ⟨g, 0, none⟩) (b :: l).length cap ∧ BOwn w B g cap (b :: l) := by
  rcases h.2 with ⟨_, h0⟩ | ⟨g, cap, cur, rfl, hh⟩
  · omega
  · have e : 1 + l.length = (b :: l).length := by simp; omega
    refine ⟨g, cap, by rw [e], ?_⟩
    unfold BOwn
    rw [← e]
    exact h
def sliceLen : Value → Nat
  | .slice _ n _ => n
  | _ => 0
theorem dec_ways (l : List UInt8) (v : Nat) : (l ≠ [] ∧ v = 0) ∨ ((l = [] ∨ v ≠ 0) ∧ v / 10 + (1 - (l.length + 1)) < v + (1 - l.length) ∧ ((((l.length : Nat) : Int) == 0) = true ∨ ((((l.length : Nat) : Int) == 0) = false ∧ (((v : Nat) : Int) != 0) = true))) := by
  by_cases hl : l = []
  · subst hl
    exact .inr ⟨.inl rfl, by simp; omega, .inl rfl⟩
  · by_cases hv : v = 0
    · exact .inl ⟨hl, hv⟩
    · exact .inr ⟨.inr hv, by omega, .inr ⟨by cases l <;> simp at hl ⊢; omega, by simp; omega⟩⟩
set_option maxRecDepth 100000 in
set_option maxHeartbeats 2000000 in
theorem l01Dec_pos (u : Nat) (w : World) (hu : u ≤ 9223372036854775807) :
    Calls Tryd.prog 35 #[.int .i64 (u : Int)] w fun e w' => e = .returned (.string ⟨(Lib.itoa (u : Int)).toArray⟩) ∧ Below w.heap.size w w' := by
  obtain ⟨i0, hi0, hz0, hz1, hz2⟩ := info_parts u8_info
  have HI := Lib.hid (show Lib.itoa (u : Int) = Lib.decDigits u by unfold Lib.itoa; rw [if_neg (by omega)]; rfl)
  go_enter Tryd.func35, Tryd.ntmps35
  go_wp2
  go_loopw [3, 4, 5] (fun tv tr _ wx => ∃ (g cap v : Nat) (l : List UInt8), tv = .slice (some ⟨g, 0, none⟩) l.length cap ∧ tr = .int .i64 (v : Int) ∧ v ≤ u ∧ DInv u v l ∧ BOwn wx w.heap.size g cap l ∧ Below w.heap.size w wx) (fun tv tr _ _ => (intOf tr).toNat + (1 - sliceLen tv))
  case atStart => exact ⟨w.heap.size, 0, u, [], rfl, rfl, Nat.le_refl _, DInv.start u, World.ownsRow_lit w #[] 0 (Nat.le_refl _) (by decide) rfl, (Below.refl _ _).alloc (Nat.le_refl _) _⟩
  case round =>
    obtain ⟨g, cap, v, l, rfl, rfl, hv, hinv, hown, hbel⟩ := hrel
    have HN := Lib.hid hown
    have HB := Lib.hid hbel
    have HV := Lib.hid hinv
    clear hown hbel hinv
    rcases dec_ways l v with ⟨hl, rfl⟩ | ⟨hg, hm, hw⟩
    · have HL := Lib.hid (HV.out.stop hl)
      have e1 : (((l.length : Nat) : Int) == 0) = false := by cases l <;> simp at hl ⊢; omega
      have HNE := Lib.hid hl
      clear hl
      have hcv := run_convert_bytes_back (P := Tryd.prog) wr 68 9 5 ⟨g, 0, none⟩ cap l Tryd.underlying68 Tryd.underlying5 Tryd.underlying9 HN.out.read
      go_wp2
      go_ret
      exact ⟨by rw [HI.out, ← HL.out]; rfl, HB.out⟩
    have HG := Lib.hid hg
    have HM := Lib.hid hm
    clear hg hm
    rcases hw with e1 | ⟨e1, e2⟩
    all_goals
      have hf := HV.out.few (by omega) HG.out
      obtain ⟨b, hb⟩ : ∃ b, b = UInt8.ofNat (48 + v % 10) := ⟨_, rfl⟩
      have hbv : 48 + (v : Int) % 10 = (b.toNat : Int) := by rw [hb, byte_of]
      have HBB := Lib.hid hb
      have hm0 : (0 : Int) ≤ (v : Int) % 10 := by omega
      have hm1 : (v : Int) % 10 ≤ 9 := by omega
      clear hb
      go_wp2_with (first | (at_builtin; refine wpList_append_own _ rfl (.tmp 24) (.tmp 25) 68 rfl w.heap.size 5 i0 _ 1 1 Tryd.underlying68 hi0 hz0 hz1 hz2 rfl (by decide) _ 1 [byteV b] rfl (World.ownsRow_lit wr #[byteV b] 1 HB.out.size (by decide) rfl) ⟨g, 0, none⟩ l.length cap (l.map byteV) rfl (by simp) ?c1 (bytes_one l) ?c3 ?c4 ?c5 ?_))
      case c1 => exact (HN.out.alloc _).cells
      case c3 => unfold maxLen; omega
      case c4 => omega
      case c5 => have := HB.out.size; simp; omega
      intro v' w3 hown1 hgrow _
      obtain ⟨g', cap', rfl, hown2⟩ := BOwn.cons hown1
      have HN1 := Lib.hid hown2
      have HB1 := Lib.hid ((HB.out.alloc HB.out.size _).grown hgrow (by have := HB.out.size; simp; omega) (fun k hk => by have := HB.out.size; simp [Value.ownBlock] at hk; omega))
      have HV1 := Lib.hid (HV.out.step (by omega) HG.out)
      clear hown1 hown2 hgrow
      go_wp2
      go_roundw
      case rel => exact ⟨g', cap', v / 10, b :: l, rfl, congrArg (Value.int .i64) (by omega), by omega, by rw [HBB.out]; exact HV1.out, HN1.out, HB1.out⟩
      case measure => have := HM.out; simp [intOf, sliceLen]; omega
set_option maxRecDepth 100000 in
set_option maxHeartbeats 2000000 in
theorem l01Dec_neg (u : Nat) (w : World) (hu0 : 1 ≤ u) (hu : u ≤ 9223372036854775808) :
    Calls Tryd.prog 35 #[.int .i64 (-(u : Int))] w fun e w' => e = .returned (.string ⟨(Lib.itoa (-(u : Int))).toArray⟩) ∧ Below w.heap.size w w' := by
  obtain ⟨i0, hi0, hz0, hz1, hz2⟩ := info_parts u8_info
  have HI := Lib.hid (show Lib.itoa (-(u : Int)) = 45 :: Lib.decDigits u by unfold Lib.itoa; rw [if_pos (by omega), show (-(u : Int)).natAbs = u by omega])
  go_enter Tryd.func35, Tryd.ntmps35
  go_wp2
  go_loopw [3, 4, 5] (fun tv tr _ wx => ∃ (g cap v : Nat) (l : List UInt8), tv = .slice (some ⟨g, 0, none⟩) l.length cap ∧ tr = .int .i64 (-(v : Int)) ∧ v ≤ u ∧ DInv u v l ∧ BOwn wx w.heap.size g cap l ∧ Below w.heap.size w wx) (fun tv tr _ _ => (-(intOf tr)).toNat + (1 - sliceLen tv))
  case atStart => exact ⟨w.heap.size, 0, u, [], rfl, rfl, Nat.le_refl _, DInv.start u, World.ownsRow_lit w #[] 0 (Nat.le_refl _) (by decide) rfl, (Below.refl _ _).alloc (Nat.le_refl _) _⟩
  case round =>
    obtain ⟨g, cap, v, l, rfl, rfl, hv, hinv, hown, hbel⟩ := hrel
    have HN := Lib.hid hown
    have HB := Lib.hid hbel
    have HV := Lib.hid hinv
    clear hown hbel hinv
    rcases dec_ways l v with ⟨hl, rfl⟩ | ⟨hg, hm, hw⟩
    · have HL := Lib.hid (HV.out.stop hl)
      have e1 : (((l.length : Nat) : Int) == 0) = false := by cases l <;> simp at hl ⊢; omega
      have HNE := Lib.hid hl
      clear hl
      have hf := HV.out.2.1
      have hn : (-(u : Int)) < 0 := by omega
      go_wp2_with (first | (at_builtin; refine wpList_append_own _ rfl (.tmp 31) (.tmp 32) 68 rfl w.heap.size 5 i0 _ 1 1 Tryd.underlying68 hi0 hz0 hz1 hz2 rfl (by decide) _ 1 [.int .u8 45] rfl (World.ownsRow_lit wr #[.int .u8 45] 1 HB.out.size (by decide) rfl) ⟨g, 0, none⟩ l.length cap (l.map byteV) rfl (by simp) ?c1 (bytes_one l) ?c3 ?c4 ?c5 ?_))
      case c1 => exact (HN.out.alloc _).cells
      case c3 => unfold maxLen; omega
      case c4 => omega
      case c5 => have := HB.out.size; simp; omega
      intro v' w3 hown1 hgrow _
      obtain ⟨g', cap', rfl, hown2⟩ := BOwn.cons (b := 45) hown1
      have HN1 := Lib.hid hown2
      have HB1 := Lib.hid ((HB.out.alloc HB.out.size _).grown hgrow (by have := HB.out.size; simp; omega) (fun k hk => by have := HB.out.size; simp [Value.ownBlock] at hk; omega))
      clear hown1 hown2 hgrow
      have hcv : (convert 68 9 (.slice (some ⟨g', 0, none⟩) (l.length + 1) cap')).run Tryd.prog w3 = .ok (.string ⟨(45 :: l).toArray⟩) w3 := run_convert_bytes_back (P := Tryd.prog) w3 68 9 5 ⟨g', 0, none⟩ cap' (45 :: l) Tryd.underlying68 Tryd.underlying5 Tryd.underlying9 HN1.out.read
      go_wp2
      go_ret
      exact ⟨by rw [HI.out, ← HL.out]; rfl, HB1.out⟩
    have HG := Lib.hid hg
    have HM := Lib.hid hm
    clear hg hm
    rcases hw with e1 | ⟨e1, e2⟩
    all_goals
      have hf := HV.out.few (by omega) HG.out
      obtain ⟨b, hb⟩ : ∃ b, b = UInt8.ofNat (48 + v % 10) := ⟨_, rfl⟩
      have hbv : 48 + (v : Int) % 10 = (b.toNat : Int) := by rw [hb, byte_of]
      have HBB := Lib.hid hb
      have hm0 : (0 : Int) ≤ (v : Int) % 10 := by omega
      have hm1 : (v : Int) % 10 ≤ 9 := by omega
      clear hb
      have hr : (-(v : Int)).tmod 10 = -((v : Int) % 10) := by rw [Int.neg_tmod, Int.tmod_eq_emod_of_nonneg (by omega)]
      have hq : (-(v : Int)).tdiv 10 = -(((v / 10 : Nat)) : Int) := by rw [Int.neg_tdiv, Int.tdiv_eq_ediv_of_nonneg (by omega), Int.natCast_ediv]; rfl
      rcases Nat.eq_zero_or_pos (v % 10) with hz | hz
      · have hz' : (v : Int) % 10 = 0 := by omega
        have h48 : Value.int .u8 48 = byteV b := by unfold byteV; congr 1; omega
        have H48 := Lib.hid h48
        clear h48 hbv
        go_wp2_with (first | (at_builtin; refine wpList_append_own _ rfl (.tmp 24) (.tmp 25) 68 rfl w.heap.size 5 i0 _ 1 1 Tryd.underlying68 hi0 hz0 hz1 hz2 rfl (by decide) _ 1 [.int .u8 48] rfl (World.ownsRow_lit wr #[.int .u8 48] 1 HB.out.size (by decide) rfl) ⟨g, 0, none⟩ l.length cap (l.map byteV) rfl (by simp) ?c1 (bytes_one l) ?c3 ?c4 ?c5 ?_))
        case c1 => exact (HN.out.alloc _).cells
        case c3 => unfold maxLen; omega
        case c4 => omega
        case c5 => have := HB.out.size; simp; omega
        intro v' w3 hown1 hgrow _
        rw [H48.out] at hown1
        obtain ⟨g', cap', rfl, hown2⟩ := BOwn.cons hown1
        have HN1 := Lib.hid hown2
        have HB1 := Lib.hid ((HB.out.alloc HB.out.size _).grown hgrow (by have := HB.out.size; simp; omega) (fun k hk => by have := HB.out.size; simp [Value.ownBlock] at hk; omega))
        have HV1 := Lib.hid (HV.out.step (by omega) HG.out)
        clear hown1 hown2 hgrow
        go_wp2
        go_roundw
        case rel => exact ⟨g', cap', v / 10, b :: l, rfl, congrArg (Value.int .i64) (by omega), by omega, by rw [HBB.out]; exact HV1.out, HN1.out, HB1.out⟩
        case measure => have := HM.out; simp [intOf, sliceLen]; omega
      · have hz' : (0 : Int) < (v : Int) % 10 := by omega
        go_wp2_with (first | (at_builtin; refine wpList_append_own _ rfl (.tmp 24) (.tmp 25) 68 rfl w.heap.size 5 i0 _ 1 1 Tryd.underlying68 hi0 hz0 hz1 hz2 rfl (by decide) _ 1 [byteV b] rfl (World.ownsRow_lit wr #[byteV b] 1 HB.out.size (by decide) rfl) ⟨g, 0, none⟩ l.length cap (l.map byteV) rfl (by simp) ?c1 (bytes_one l) ?c3 ?c4 ?c5 ?_))
        case c1 => exact (HN.out.alloc _).cells
        case c3 => unfold maxLen; omega
        case c4 => omega
        case c5 => have := HB.out.size; simp; omega
        intro v' w3 hown1 hgrow _
        obtain ⟨g', cap', rfl, hown2⟩ := BOwn.cons hown1
        have HN1 := Lib.hid hown2
        have HB1 := Lib.hid ((HB.out.alloc HB.out.size _).grown hgrow (by have := HB.out.size; simp; omega) (fun k hk => by have := HB.out.size; simp [Value.ownBlock] at hk; omega))
        have HV1 := Lib.hid (HV.out.step (by omega) HG.out)
        clear hown1 hown2 hgrow
        go_wp2
        go_roundw
        case rel => exact ⟨g', cap', v / 10, b :: l, rfl, congrArg (Value.int .i64) (by omega), by omega, by rw [HBB.out]; exact HV1.out, HN1.out, HB1.out⟩
        case measure => have := HM.out; simp [intOf, sliceLen]; omega
theorem l01Dec_any (n : Int) (w : World) (h0 : -9223372036854775808 ≤ n) (h1 : n ≤ 9223372036854775807) :
    Calls Tryd.prog 35 #[.int .i64 n] w fun e w' => e = .returned (.string ⟨(Lib.itoa n).toArray⟩) ∧ Below w.heap.size w w' := by
  by_cases h : 0 ≤ n
  · obtain ⟨u, rfl⟩ : ∃ u : Nat, n = (u : Int) := ⟨n.toNat, by omega⟩
    exact l01Dec_pos u w (by omega)
  · obtain ⟨u, rfl⟩ : ∃ u : Nat, n = -(u : Int) := ⟨(-n).toNat, by omega⟩
    exact l01Dec_neg u w (by omega) (by omega)
end Go.Proofs.YtmpeogpmlgnmfaaDoor
