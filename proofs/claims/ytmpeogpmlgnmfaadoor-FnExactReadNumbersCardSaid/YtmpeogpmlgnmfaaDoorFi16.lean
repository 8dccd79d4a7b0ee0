/- FormatInt at base 16. -/
import Derived.Test.YtmpeogpmlgnmfaaDoorFbW
namespace Go.Proofs.YtmpeogpmlgnmfaaDoor
open Go.RowKit Go.Deep Flt

theorem formatIntIn_16 (u : Nat) (w : World) (hu : u < 4294967296) (h : Tz w) :
    Calls Tryd.prog 57 #[.int .i64 (u : Int), .int .i64 16] w fun e w' => e = .returned (.string ⟨(hexMin u).toArray⟩) ∧ Below w.heap.size w w' := by
  have HC := Lib.hid (formatBits_16 u w hu h)
  have hu0 : ¬ (u : Int) < 0 := by omega
  have hu1 : (u : Int) < 4294967296 := by omega
  clear h
  go_enter Tryd.func57, Tryd.ntmps57
  go_wp2_with fail
  refine HC.out.mono ?_
  rintro e w1 ⟨v, rfl, hb⟩
  have HB := Lib.hid hb
  clear hb
  go_wp2
  go_ret
  exact ⟨rfl, HB.out⟩
theorem formatInt_16 (u : Nat) (w : World) (hu : u < 4294967296) (h : Tz w) :
    Calls Tryd.prog 36 #[.int .i64 (u : Int), .int .i64 16] w fun e w' => e = .returned (.string ⟨(hexMin u).toArray⟩) ∧ Below w.heap.size w w' := by
  have HC := Lib.hid (formatIntIn_16 u w hu h)
  clear h
  go_enter Tryd.func36, Tryd.ntmps36
  go_wp2_with fail
  refine HC.out.mono ?_
  rintro e w1 ⟨rfl, hb⟩
  have HB := Lib.hid hb
  clear hb
  go_wp2
  go_ret
  exact ⟨rfl, HB.out⟩
end Go.Proofs.YtmpeogpmlgnmfaaDoor
