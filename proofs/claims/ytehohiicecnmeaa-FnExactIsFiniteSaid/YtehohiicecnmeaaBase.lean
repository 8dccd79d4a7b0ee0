/- What every proof of this seat leans on: two closed facts of the program, the calls of the bodiless functions on bits, a reading's opening. -/
import Derived.Test.YtehohiicecnmeaaRows
import Derived.Test.YtehohiicecnmeaaFlt
import Derived.WalkKit
import Derived.WalkLawsBesides
import Derived.WalkSpells
import Derived.ProofKit
import Derived.OpenShut
import Derived.ShutString
import Derived.ChangeOld
import Derived.Below
import Derived.Lib.Hide
namespace Go.Proofs.Ytehohiicecnmeaa
open Go.ChangeShapes Go.WideShapes Go.ChangeAt Go.RowKit Flt

theorem own : ownKnob Try.prog.godebug = none := by kernel_rfl
theorem laidOut : laidOutB Try.prog = true := by kernel_rfl

theorem below_drewN' (w : World) (n : Nat) : Below w.heap.size w (w.drewN n) := below_drewN (Below.refl _ _) n

@[go_sem] theorem call_f32bits (b : Nat) (w : World) : (callFunc 42 #[.float .f32 b]).run Try.prog w = .ok (.value (.int .u32 b)) w :=
  (run_callFunc_extern Try.func42 (by kernel_rfl) (by kernel_rfl) (by kernel_rfl) (e := Extern.MathFloatBits.float32bits) (by kernel_rfl) _ _).trans rfl
@[go_sem] theorem call_f32from (n : Int) (w : World) : (callFunc 51 #[.int .u32 n]).run Try.prog w = .ok (.value (.float .f32 n.toNat)) w :=
  (run_callFunc_extern Try.func51 (by kernel_rfl) (by kernel_rfl) (by kernel_rfl) (e := Extern.MathFloatBits.float32frombits) (by kernel_rfl) _ _).trans rfl
@[go_sem] theorem call_f64bits (b : Nat) (w : World) : (callFunc 56 #[.float .f64 b]).run Try.prog w = .ok (.value (.int .u64 b)) w :=
  (run_callFunc_extern Try.func56 (by kernel_rfl) (by kernel_rfl) (by kernel_rfl) (e := Extern.MathFloatBits.float64bits) (by kernel_rfl) _ _).trans rfl
@[go_sem] theorem call_f64from (n : Int) (w : World) : (callFunc 55 #[.int .u64 n]).run Try.prog w = .ok (.value (.float .f64 n.toNat)) w :=
  (run_callFunc_extern Try.func55 (by kernel_rfl) (by kernel_rfl) (by kernel_rfl) (e := Extern.MathFloatBits.float64frombits) (by kernel_rfl) _ _).trans rfl
end Go.Proofs.Ytehohiicecnmeaa
