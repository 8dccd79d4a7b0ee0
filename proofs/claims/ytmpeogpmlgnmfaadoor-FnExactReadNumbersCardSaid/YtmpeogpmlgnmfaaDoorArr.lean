/- Contracts of the laws' own functions on slices of float32: a copy, and whether two are the same. -/
import Derived.Test.YtmpeogpmlgnmfaaDoorNum
import Derived.Test.YtmpeogpmlgnmfaaDoorCells
import Derived.LoopTactic
import Derived.Deep.RegionWith
namespace Go.Proofs.YtmpeogpmlgnmfaaDoor
open Go.RowKit Go.Deep Flt

theorem info_f32 : (Tryd.prog.info? 52).map (fun i => (i.zero, i.size, i.bytes)) = some (some (.float .f32 0), 1, 4) := by kernel_rfl

/-- what a copy holds after k rounds -/
def cpy (X : Nat → Nat) (k i : Nat) : Value := if i < k then .float .f32 (X i) else .float .f32 0

set_option maxHeartbeats 400000 in
theorem toF32_any (a : Option Addr) (X : Nat → Nat) (n c : Nat) (w : World) (hr : RowF w a X n) (hn : n ≤ 1048576) :
    Calls Tryd.prog 17 #[.slice a n c] w fun e w' => e = .returned (.slice (some ⟨w.heap.size, 0, none⟩) n n) ∧ w'.rowIs w.heap.size 52 n (fun i => .float .f32 (X i)) ∧ Below w.heap.size w w' := by
  have hmk := run_make_row' (P := Tryd.prog) 30 52 (.float .f32 0) 4 Tryd.underlying30 info_f32 rfl .i64 .i64 n (by omega) (by omega)
  have hm0 := World.rowIs_made w (.float .f32 0) n 52
  go_enter Tryd.func17, Tryd.ntmps17
  go_wp2
  generalize hwb : w.alloc (.cells (madeCells #[.float .f32 0] n) 52) = wb at *
  go_loopw [4] (fun i wr => ∃ k : Nat, k ≤ n ∧ i = .int .i64 k ∧ wr.rowIs w.heap.size 52 n (cpy X k) ∧ Below w.heap.size w wr) (fun i _ => n - (intOf i).toNat)
  case atStart => 
    subst hwb
    exact ⟨0, Nat.zero_le _, rfl, hm0.congr (fun i _ => by simp [cpy]), (Below.refl _ _).alloc (Nat.le_refl _) _⟩
  case round =>
    obtain ⟨k, hk, rfl, hrow, hbel⟩ := hrel
    clear hmk hm0 hwb
    by_cases hlt : k < n
    · rcases hr with hr | ⟨b, off, rfl, hc⟩
      · omega
      have hck := hc k hlt
      have hbl : b < w.heap.size := World.block_lt_of_cell? w _ hck
      have cx : wr.cell? ⟨b, off + k, none⟩ = some (.float .f32 (X k)) := (hbel.cell (p := ⟨b, off + k, none⟩) hbl).trans hck
      have cg : wr.cell? ⟨w.heap.size, k, none⟩ = some (cpy X k k) := hrow.cell hlt
      have fg : wr.frozen? ⟨w.heap.size, k, none⟩ = false := hrow.frozen k
      have hlt' : (k : Int) < (n : Int) := by omega
      have hset := hrow.set k (.float .f32 (X k))
      have Hs := Lib.hid hset
      have Hb := Lib.hid hbel
      clear hset hbel hrow hck hc
      go_wp2
      go_roundw
      case rel => exact ⟨k + 1, by omega, by go_num, Hs.out.congr (fun j _ => by unfold cpy; by_cases h1 : j = k <;> by_cases h2 : j < k <;> simp [h1, h2, show j < k + 1 ↔ j ≤ k by omega] <;> omega), Hb.out.setCell (Nat.le_refl _) _⟩
      case measure => simp [intOf]; omega
    · have hkn : k = n := by omega
      subst hkn
      have Hs := Lib.hid hrow
      have Hb := Lib.hid hbel
      clear hrow hbel
      go_wp2
      go_ret
      exact ⟨rfl, Hs.out.congr (fun j hj => by simp [cpy, hj]), Hb.out⟩

set_option maxRecDepth 100000 in
set_option maxHeartbeats 1000000 in
/-- two slices of the same numbers, up to NaNs' bits -/
theorem eqF32_same (g h : Nat) (X Y : Nat → Nat) (n c d : Nat) (w : World) (hx : F32s w g X n) (hy : F32s w h Y n) (hs : ∀ i, i < n → cls .f32 (X i) = cls .f32 (Y i)) (hb : n ≤ 1048576) :
    Calls Tryd.prog 19 #[.slice (some ⟨g, 0, none⟩) n c, .slice (some ⟨h, 0, none⟩) n d] w fun e w' => e = .returned (.bool true) ∧ Drew w w' := by
  go_enter Tryd.func19, Tryd.ntmps19
  go_wp2
  go_loopw [5] (fun i wr => ∃ k : Nat, k ≤ n ∧ i = .int .i64 k ∧ Drew w wr) (fun i _ => n - (intOf i).toNat)
  case atStart => exact ⟨0, Nat.zero_le _, rfl, Drew.refl _⟩
  case round =>
    obtain ⟨k, hk, rfl, hwr⟩ := hrel
    have Hw := Lib.hid hwr
    by_cases hlt : k < n
    · have cx : wr.cell? ⟨g, k, none⟩ = some (.float .f32 (X k)) := (hwr.cell _).trans (hx k hlt)
      have cy : wr.cell? ⟨h, k, none⟩ = some (.float .f32 (Y k)) := (hwr.cell _).trans (hy k hlt)
      have Hs := Lib.hid (hs k hlt)
      have hlt' : (k : Int) < (n : Int) := by omega
      have hk0 : (0 : Int) ≤ (k : Int) := by omega
      clear hwr hs hx hy
      go_wp2
      go_region_with (first | (refine upon_conv _ _ .f32 .f64 _ (by decide) (by kernel_rfl) Tryd.underlying57 (noOver_widen _) ?_; intro τ q) | (go_at_call 45; refine (sameFloat_same _ _ _ (by rw [cls_rep' (nn_fconv _ _ _ (nn_cls _ _)), cls_rep' (nn_fconv _ _ _ (nn_cls _ _)), Hs.out])).mono ?_; rintro e w' ⟨q, rfl, rfl⟩))
      all_goals
        go_wp2
        go_roundw
        case rel => exact ⟨k + 1, by omega, by go_num, by repeat (first | exact Hw.out | refine Drew.drewN ?_ _ | refine Drew.drew ?_)⟩
        case measure => simp [intOf]; omega
    · have hkn : k = n := by omega
      subst hkn
      clear hwr
      go_wp2
      go_ret
      exact ⟨rfl, Hw.out⟩
end Go.Proofs.YtmpeogpmlgnmfaaDoor
