/- The library's slices.Grow and slices.Concat at lives. -/
import Derived.Test.YtceckapldohkdaaLives
import Derived.Laws.OwnMore
import Derived.Lib.AppendZeros
namespace Go.Proofs.Ytceckapldohkdaa
open Go.RowKit Go.Deep Flt

/-- the cells of lives -/
def lcells (X : Nat → Nat) (F : Nat → Bool) (n : Nat) : List Value := (List.range (n * 2)).map (lifeV X F n)
theorem lcells_len (X : Nat → Nat) (F : Nat → Bool) (n : Nat) : (lcells X F n).length = n * 2 := by simp [lcells]
theorem lcells_at {w : World} {g n : Nat} {X : Nat → Nat} {F : Nat → Bool} (h : LivesAt w g 0 X F n) : ∀ j u, (lcells X F n)[j]? = some u → w.cell? ((⟨g, 0, none⟩ : Addr).add j) = some u := by
  intro j u hu
  have hj : j < n * 2 := by
    have := (List.getElem?_eq_some_iff.1 hu).1
    rwa [lcells_len] at this
  have e : (lcells X F n)[j]? = some (lifeV X F n j) := by simp [lcells, hj]
  rw [e] at hu
  injection hu with hu
  subst hu
  rw [add_plain, Nat.zero_add]
  have h2 := h (j / 2) (by omega)
  unfold lifeV
  by_cases hp : j % 2 = 0
  · rw [if_pos hp, if_pos (by omega)]
    have := h2.1
    rwa [show 0 + j / 2 * 2 = j by omega] at this
  · rw [if_neg hp, if_pos (by omega)]
    have := h2.2
    rwa [show 0 + j / 2 * 2 + 1 = j by omega] at this
theorem lcells_one (X : Nat → Nat) (F : Nat → Bool) (n : Nat) : ∀ u ∈ lcells X F n, u.oneCell' = true := by
  intro u hu
  simp [lcells] at hu
  obtain ⟨j, _, rfl⟩ := hu
  unfold lifeV
  split <;> split <;> rfl
/-- two lists of lives, one behind the other -/
def catX (X Y : Nat → Nat) (n j : Nat) : Nat := if j < n then X j else Y (j - n)
def catF (F G : Nat → Bool) (n j : Nat) : Bool := if j < n then F j else G (j - n)
theorem lives_of_own {w : World} {B g cap n m : Nat} {T : TypeId} {X Y : Nat → Nat} {F G : Nat → Bool} (h : w.ownsRow B T 2 (.slice (some ⟨g, 0, none⟩) (n + m) cap) (n + m) (lcells X F n ++ lcells Y G m)) :
    LivesAt w g 0 (catX X Y n) (catF F G n) (n + m) := by
  intro i hi
  have h0 := h.cellAt (i * 2) (by omega)
  have h1 := h.cellAt (i * 2 + 1) (by omega)
  rw [Nat.zero_add]
  rw [h0, h1]
  unfold catX catF
  by_cases hn : i < n
  · rw [if_pos hn, if_pos hn, List.getElem?_append_left (by rw [lcells_len]; omega), List.getElem?_append_left (by rw [lcells_len]; omega)]
    simp only [lcells, List.getElem?_map, List.getElem?_range (show i * 2 < n * 2 by omega), List.getElem?_range (show i * 2 + 1 < n * 2 by omega), Option.map_some]
    unfold lifeV
    rw [if_pos (by omega), if_pos (by omega), if_neg (by omega), if_pos (by omega), show i * 2 / 2 = i by omega, show (i * 2 + 1) / 2 = i by omega]
    exact ⟨rfl, rfl⟩
  · rw [if_neg hn, if_neg hn, List.getElem?_append_right (by rw [lcells_len]; omega), List.getElem?_append_right (by rw [lcells_len]; omega), lcells_len]
    simp only [lcells, List.getElem?_map, List.getElem?_range (show i * 2 - n * 2 < m * 2 by omega), List.getElem?_range (show i * 2 + 1 - n * 2 < m * 2 by omega), Option.map_some]
    unfold lifeV
    rw [if_pos (by omega), if_pos (by omega), if_neg (by omega), if_pos (by omega), show (i * 2 - n * 2) / 2 = i - n by omega, show (i * 2 + 1 - n * 2) / 2 = i - n by omega]
    exact ⟨rfl, rfl⟩
theorem own_slice {w : World} {B n : Nat} {T : TypeId} {v : Value} {xs : List Value} (h : w.ownsRow B T 2 v n xs) (hn : 0 < n) : ∃ g cap, v = .slice (some ⟨g, 0, none⟩) n cap := by
  rcases h.2 with ⟨_, h0⟩ | ⟨g, cap, cur, rfl, _⟩
  · omega
  · exact ⟨g, cap, rfl⟩
set_option maxRecDepth 100000 in
set_option maxHeartbeats 1000000 in
theorem growNil_any (k : Nat) (w : World) (h1 : 1 ≤ k) (h2 : k ≤ 1000) :
    Calls Try.prog 89 #[.slice none 0 0, .int .i64 (k : Int)] w fun e w' => ∃ v, e = .returned v ∧ w'.ownsRow w.heap.size 57 2 v 0 [] ∧ Below w.heap.size w w' := by
  obtain ⟨i0, hi0, hz0, hz1, hz2⟩ := info_parts info_life
  go_enter Try.func89, Try.ntmps89
  go_wp2_with (first | (at_builtin; refine Lib.wpList_append_run _ rfl _ _ _ _ rfl _ _ rfl rfl _ _ (Lib.run_append_nil_zeros _ _ _ _ 57 i0 _ .i64 .i64 Try.underlying25 Try.underlying3 hi0 hz0 k (by omega) (by rw [hz1]; omega) (by omega) (by rw [hz2]; omega)) ?_))
  go_ret
  refine ⟨_, rfl, ⟨by simp, .inr ⟨w.heap.size, _, _, rfl, Nat.le_refl _, heap_alloc_new _ _, Nat.zero_le _, grownCap_le_maxLen _ _ _ _ (by unfold maxLen; omega), ?_, by simp⟩⟩, ((Below.refl _ _).drew).alloc (Nat.le_refl _) _⟩
  have hg := grownCap_ge w k 0 57
  rw [Array.size_append, size_zeroCells, size_zeroCells]
  show k * 2 + (grownCap w k 0 57 - k) * 2 = grownCap w k 0 57 * 2
  omega
set_option maxRecDepth 100000 in
set_option maxHeartbeats 2000000 in
theorem concat_any (s g c n h d m : Nat) (X : Nat → Nat) (F : Nat → Bool) (Y : Nat → Nat) (G : Nat → Bool) (w : World) (hx : LivesAt w g 0 X F n) (hy : LivesAt w h 0 Y G m) (h1 : 1 ≤ n) (h2 : n ≤ 48) (h3 : 1 ≤ m) (h4 : m ≤ 48)
    (c0 : w.cell? ⟨s, 0, none⟩ = some (.slice (some ⟨g, 0, none⟩) n c)) (c1 : w.cell? ⟨s, 1, none⟩ = some (.slice (some ⟨h, 0, none⟩) m d)) :
    Calls Try.prog 61 #[.slice (some ⟨s, 0, none⟩) 2 2] w fun e w' => ∃ q cap, e = .returned (.slice (some ⟨q, 0, none⟩) (n + m) cap) ∧ LivesAt w' q 0 (catX X Y n) (catF F G n) (n + m) ∧ Below w.heap.size w w' := by
  obtain ⟨i0, hi0, hz0, hz1, hz2⟩ := info_parts info_life
  have HX := Lib.hid hx
  have HY := Lib.hid hy
  clear hx hy
  go_enter Try.func61, Try.ntmps61
  go_wp2
  go_loopw [3, 5, 11] (fun tz _ tj wx => ((tj = .int .i64 0 ∧ tz = .int .i64 0) ∨ (tj = .int .i64 1 ∧ tz = .int .i64 (n : Int)) ∨ (tj = .int .i64 2 ∧ tz = .int .i64 ((n : Int) + (m : Int)))) ∧ wx = w) (fun _ _ tj _ => 2 - (intOf tj).toNat)
  case atStart => exact ⟨.inl ⟨rfl, rfl⟩, rfl⟩
  case round =>
    obtain ⟨hj, rfl⟩ := hrel
    rcases hj with ⟨rfl, rfl⟩ | ⟨rfl, rfl⟩ | ⟨rfl, rfl⟩
    · have hp : (0 : Int) ≤ (n : Int) := by omega
      go_wp2
      go_roundw
      case rel => exact ⟨.inr (.inl ⟨rfl, rfl⟩), by first | rfl | trivial⟩
      case measure => simp [intOf]
    · have hp : (0 : Int) ≤ (n : Int) + (m : Int) := by omega
      go_wp2
      go_roundw
      case rel => exact ⟨.inr (.inr ⟨rfl, rfl⟩), by first | rfl | trivial⟩
      case measure => simp [intOf]
    · have hg := growNil_any (n + m) wr (by omega) (by omega)
      rw [Int.natCast_add] at hg
      have HG := Lib.hid hg
      clear hg
      go_wp2_with fail
      refine HG.out.mono ?_
      rintro e w1 ⟨v, rfl, hown, hb⟩
      have HO := Lib.hid hown
      have HB := Lib.hid hb
      clear hown hb
      go_wp2
      go_loopw [6, 8, 27] (fun tv _ tj wx => ((tj = .int .i64 0 ∧ wx.ownsRow wr.heap.size 57 2 tv 0 []) ∨ (tj = .int .i64 1 ∧ wx.ownsRow wr.heap.size 57 2 tv n (lcells X F n)) ∨ (tj = .int .i64 2 ∧ wx.ownsRow wr.heap.size 57 2 tv (n + m) (lcells X F n ++ lcells Y G m))) ∧ Below wr.heap.size wr wx) (fun _ _ tj _ => 2 - (intOf tj).toNat)
      case atStart => exact ⟨.inl ⟨rfl, HO.out⟩, HB.out⟩
      case round =>
        obtain ⟨hj, hbel⟩ := hrel
        have HB := Lib.hid hbel
        have d0 := (hbel.cell (p := ⟨s, 0, none⟩) (World.block_lt_of_cell? _ _ c0)).trans c0
        have d1 := (hbel.cell (p := ⟨s, 1, none⟩) (World.block_lt_of_cell? _ _ c1)).trans c1
        have HX2 := Lib.hid (HX.out.below hbel)
        have HY2 := Lib.hid (HY.out.below hbel)
        clear hbel c0 c1
        rcases hj with ⟨rfl, hown⟩ | ⟨rfl, hown⟩ | ⟨rfl, hown⟩
        · have HN := Lib.hid hown
          clear hown
          go_wp2_with (first | (at_builtin; refine wpList_append_own _ rfl _ _ 25 rfl _ 57 i0 _ 2 8 Try.underlying25 hi0 hz0 hz1 hz2 rfl (by decide) _ _ _ rfl HN.out ⟨g, 0, none⟩ n c (lcells X F n) rfl (lcells_len _ _ _) ?c1 (lcells_one _ _ _) ?c3 ?c4 ?c5 ?_))
          case c1 => exact lcells_at HX2.out
          case c3 => unfold maxLen; omega
          case c4 => omega
          case c5 => exact HB.out.size
          intro v' w3 hown1 hgrow _
          have HN1 := Lib.hid hown1
          have HB1 := Lib.hid (HB.out.grown hgrow HB.out.size (fun k hk => (HN.out.lt k hk).1))
          clear hown1 hgrow
          go_wp2
          go_roundw
          case rel => exact ⟨.inr (.inl ⟨rfl, HN1.out⟩), HB1.out⟩
          case measure => simp [intOf]
        · have HN := Lib.hid hown
          clear hown
          go_wp2_with (first | (at_builtin; refine wpList_append_own _ rfl _ _ 25 rfl _ 57 i0 _ 2 8 Try.underlying25 hi0 hz0 hz1 hz2 rfl (by decide) _ _ _ rfl HN.out ⟨h, 0, none⟩ m d (lcells Y G m) rfl (lcells_len _ _ _) ?c1 (lcells_one _ _ _) ?c3 ?c4 ?c5 ?_))
          case c1 => exact lcells_at HY2.out
          case c3 => unfold maxLen; omega
          case c4 => omega
          case c5 => exact HB.out.size
          intro v' w3 hown1 hgrow _
          have HN1 := Lib.hid hown1
          have HB1 := Lib.hid (HB.out.grown hgrow HB.out.size (fun k hk => (HN.out.lt k hk).1))
          clear hown1 hgrow
          go_wp2
          go_roundw
          case rel => exact ⟨.inr (.inr ⟨rfl, HN1.out⟩), HB1.out⟩
          case measure => simp [intOf]
        · obtain ⟨q, cap, rfl⟩ := own_slice hown (by omega)
          have HN := Lib.hid (lives_of_own hown)
          clear hown
          go_wp2
          go_ret
          exact ⟨q, cap, rfl, HN.out, HB.out⟩
end Go.Proofs.Ytceckapldohkdaa
