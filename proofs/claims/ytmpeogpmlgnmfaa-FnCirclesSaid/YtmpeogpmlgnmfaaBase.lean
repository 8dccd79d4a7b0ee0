/- What every proof of this seat leans on: two closed facts of the program, the calls of the bodiless functions on bits, a reading's opening. -/
import Derived.Test.YtmpeogpmlgnmfaaRows
import Derived.Test.YtmpeogpmlgnmfaaFlt
import Derived.WalkKit
import Derived.WalkLawsBesides
import Derived.WalkSpells
import Derived.ProofKit
import Derived.OpenShut
import Derived.ShutString
import Derived.ChangeOld
import Derived.Below
import Derived.Lib.Hide
import Derived.Lib.SmallJoins
namespace Go.Proofs.Ytmpeogpmlgnmfaa
open Go.ChangeShapes Go.WideShapes Go.ChangeAt Go.RowKit Flt

theorem own : ownKnob Try.prog.godebug = none := by kernel_rfl
theorem laidOut : laidOutB Try.prog = true := by kernel_rfl

/-- below a world's size nothing has turned: every old cell, every old mark -/
theorem bcell {W w1 : World} (hb : Below W.heap.size W w1) : (∀ b o, b < W.heap.size → w1.cell? ⟨b, o, none⟩ = W.cell? ⟨b, o, none⟩) ∧ (∀ b o, b < W.heap.size → w1.frozen? ⟨b, o, none⟩ = W.frozen? ⟨b, o, none⟩) :=
  ⟨fun b o h => hb.cell (p := ⟨b, o, none⟩) h, fun b o h => hb.frozen (p := ⟨b, o, none⟩) h⟩
/-- a box of three cells is still there in a later world -/
theorem box3 {w w1 : World} {x y z : Value} {t : TypeId} (h : Below (w.alloc (.cells #[x, y, z] t)).heap.size (w.alloc (.cells #[x, y, z] t)) w1) :
    w1.cell? ⟨w.heap.size, 0, none⟩ = some x ∧ w1.cell? ⟨w.heap.size, 1, none⟩ = some y ∧ w1.cell? ⟨w.heap.size, 2, none⟩ = some z ∧ w.heap.size < w1.heap.size := by
  have hz : (w.alloc (.cells #[x, y, z] t)).heap.size = w.heap.size + 1 := by simp
  have hs := h.size
  have hc := (bcell h).1
  refine ⟨(hc _ _ (by omega)).trans ?_, (hc _ _ (by omega)).trans ?_, (hc _ _ (by omega)).trans ?_, by omega⟩ <;> go_simp
/-- some draws later -/
def Drew (w w' : World) : Prop := ∃ n, w' = w.drewN n
theorem Drew.refl (w : World) : Drew w w := ⟨0, rfl⟩
theorem Drew.drewN {w w' : World} (h : Drew w w') (n : Nat) : Drew w (w'.drewN n) := by obtain ⟨m, rfl⟩ := h; exact ⟨m + n, World.drewN_drewN ..⟩
theorem Drew.drew {w w' : World} (h : Drew w w') : Drew w w'.drew := h.drewN 1
theorem Drew.below {w w' : World} (h : Drew w w') : Below w.heap.size w w' := by obtain ⟨m, rfl⟩ := h; exact below_drewN (Below.refl _ _) m
theorem Drew.cell {w w' : World} (h : Drew w w') (a : Addr) : w'.cell? a = w.cell? a := by obtain ⟨m, rfl⟩ := h; rfl
theorem below_drewN' (w : World) (n : Nat) : Below w.heap.size w (w.drewN n) := below_drewN (Below.refl _ _) n

@[go_sem] theorem call_f32bits (b : Nat) (w : World) : (callFunc 66 #[.float .f32 b]).run Try.prog w = .ok (.value (.int .u32 b)) w :=
  (run_callFunc_extern Try.func66 (by kernel_rfl) (by kernel_rfl) (by kernel_rfl) (e := Extern.MathFloatBits.float32bits) (by kernel_rfl) _ _).trans rfl
@[go_sem] theorem call_f32from (n : Int) (w : World) : (callFunc 72 #[.int .u32 n]).run Try.prog w = .ok (.value (.float .f32 n.toNat)) w :=
  (run_callFunc_extern Try.func72 (by kernel_rfl) (by kernel_rfl) (by kernel_rfl) (e := Extern.MathFloatBits.float32frombits) (by kernel_rfl) _ _).trans rfl
@[go_sem] theorem call_f64bits (b : Nat) (w : World) : (callFunc 55 #[.float .f64 b]).run Try.prog w = .ok (.value (.int .u64 b)) w :=
  (run_callFunc_extern Try.func55 (by kernel_rfl) (by kernel_rfl) (by kernel_rfl) (e := Extern.MathFloatBits.float64bits) (by kernel_rfl) _ _).trans rfl
@[go_sem] theorem call_f64from (n : Int) (w : World) : (callFunc 54 #[.int .u64 n]).run Try.prog w = .ok (.value (.float .f64 n.toNat)) w :=
  (run_callFunc_extern Try.func54 (by kernel_rfl) (by kernel_rfl) (by kernel_rfl) (e := Extern.MathFloatBits.float64frombits) (by kernel_rfl) _ _).trans rfl

theorem trod_float {H : Type} {enc : TypeId × Value → H} {P : Program} {w : World} {base : Nat} {spare : Nat → Bool} {held : Bool} {fuel : Nat} {t : TypeId} {cs : List Value} {x : DataW H × List MemPlace} {k : FloatKind}
    (ht : P.underlying t = some (.float k)) (h : DataW.trod enc P w base spare held fuel t cs = some x) : ∃ b, cs = [.float k b] ∧ x = (.lit (.float k b), []) ∧ (Lit.float k b).wf = true := by
  cases fuel with
  | zero => simp [DataW.trod] at h
  | succ n =>
    unfold DataW.trod at h
    rw [ht] at h
    split at h <;> simp_all
theorem lt_of_wf32 {b : Nat} (h : (Lit.float .f32 b).wf = true) : b < 4294967296 := by simpa [Lit.wf] using h
end Go.Proofs.Ytmpeogpmlgnmfaa
