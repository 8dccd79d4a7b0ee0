/- Texts with commas between them: slices of strings of the call's own, the library's Join. -/
import Derived.Test.YtmpeogpmlgnmfaaGreatDoorLaid
import Derived.Test.YtmpeogpmlgnmfaaGreatDoorShJoin
import Derived.Lib.Join
import Derived.Laws.OwnMore
import Derived.LoopTactic
namespace Go.Proofs.YtmpeogpmlgnmfaaGreatDoor
set_option maxRecDepth 100000
open Go.RowKit Go.Deep Flt

def strV (l : List UInt8) : Value := .string ⟨l.toArray⟩
def none4 : List UInt8 := [110, 111, 110, 101]
def txts (f : Nat → List UInt8) (k : Nat) : List (List UInt8) := (List.range k).map f
/-- the texts with commas between them, none for none -/
def joinT (f : Nat → List UInt8) (n : Nat) : List UInt8 := if n = 0 then none4 else Lib.join (txts f n) [44]
theorem txts_succ (f : Nat → List UInt8) (k : Nat) : txts f (k + 1) = txts f k ++ [f k] := by simp [txts, List.range_succ]
theorem join_snoc (x : List UInt8) (r : List (List UInt8)) (y sep : List UInt8) : Lib.join ((x :: r) ++ [y]) sep = Lib.join (x :: r) sep ++ (sep ++ y) := by
  rw [List.cons_append, Lib.join_cons, Lib.join_cons]
  simp [Lib.joinTail]
theorem txts_cons (f : Nat → List UInt8) (k : Nat) : ∃ x r, txts f (k + 1) = x :: r := by
  unfold txts
  rw [List.range_succ_eq_map]
  exact ⟨_, _, rfl⟩
theorem joinT_one (f : Nat → List UInt8) : joinT f 1 = f 0 := by
  unfold joinT
  rw [if_neg (by omega)]
  show Lib.join [f 0] [44] = _
  exact Lib.join_one _ _
theorem joinT_succ (f : Nat → List UInt8) (k : Nat) : joinT f (k + 1 + 1) = joinT f (k + 1) ++ (44 :: f (k + 1)) := by
  unfold joinT
  rw [if_neg (by omega), if_neg (by omega), txts_succ]
  obtain ⟨x, r, e⟩ := txts_cons f k
  rw [e, join_snoc]
  rfl
theorem joinT_len {f : Nat → List UInt8} {L : Nat} (h : ∀ i, (f i).length ≤ L) : ∀ k, (joinT f (k + 1)).length ≤ (k + 1) * (L + 1)
  | 0 => by rw [joinT_one]; have := h 0; omega
  | k + 1 => by
    rw [joinT_succ]
    have h1 := joinT_len h k
    have h2 := h (k + 1)
    have e : (k + 1 + 1) * (L + 1) = (k + 1) * (L + 1) + (L + 1) := by rw [Nat.add_mul (k + 1) 1]; omega
    simp only [List.length_append, List.length_cons]
    omega
theorem str_info : (Tryz.prog.info? 9).map (fun i => (i.zero, i.size, i.bytes)) = some (some (.string ByteArray.empty), 1, 16) := by kernel_rfl
/-- a slice of strings of the call's own -/
def SOwn (w : World) (B : Nat) (v : Value) (f : Nat → List UInt8) (k : Nat) : Prop := w.ownsRow B 9 1 v k ((List.range k).map fun i => strV (f i))
theorem SOwn.more {w : World} {B : Nat} {v : Value} {f : Nat → List UInt8} {k : Nat} (h : w.ownsRow B 9 1 v (k + 1) (((List.range k).map fun i => strV (f i)) ++ [strV (f k)])) : SOwn w B v f (k + 1) := by
  unfold SOwn
  rw [List.range_succ, List.map_append]
  exact h
theorem byteArray_eta (x : ByteArray) : (⟨x.data.toList.toArray⟩ : ByteArray) = x := by cases x; rfl
theorem heap_lt' {w : World} {g : Nat} {o : Obj} (h : w.heap[g]? = some o) : g < w.heap.size := by
  rcases Nat.lt_or_ge g w.heap.size with hlt | hge
  · exact hlt
  · rw [Array.getElem?_eq_none hge] at h; cases h
theorem joined_none (A : Option Addr) (c : Nat) (w : World) :
    Calls Tryz.prog 48 #[.slice A 0 c] w fun e w' => e = .returned (strV none4) ∧ Below w.heap.size w w' := by
  go_enter Tryz.func48, Tryz.ntmps48
  go_wp2
  go_ret
  exact ⟨rfl, Below.refl _ _⟩
theorem join_any (f : Nat → List UInt8) (n g cap L : Nat) (B : Nat) (w : World) (h : SOwn w B (.slice (some ⟨g, 0, none⟩) (n + 1) cap) f (n + 1)) (hL : ∀ i, (f i).length ≤ L) (hb : (n + 1) * (L + 1) ≤ 1000000) :
    Calls Tryz.prog 74 #[.slice (some ⟨g, 0, none⟩) (n + 1) cap, .string ⟨#[44]⟩] w fun e w' => e = .returned (strV (joinT f (n + 1))) ∧ Below w.heap.size w w' := by
  have hx : ((List.range (n + 1)).map fun i => (⟨(f i).toArray⟩ : ByteArray)).length = n + 1 := by simp
  have hm : ((List.range (n + 1)).map fun i => (⟨(f i).toArray⟩ : ByteArray)).map (·.data.toList) = txts f (n + 1) := by simp [txts]
  have hlen := joinT_len hL n
  have hj : joinT f (n + 1) = Lib.join (txts f (n + 1)) [44] := by unfold joinT; rw [if_neg (by omega)]
  have hcap : n + 1 ≤ cap ∧ g < w.heap.size := by
    rcases h.2 with ⟨h0, _⟩ | ⟨g2, cap2, cur, e2, _, hh, hn, _⟩
    · cases h0
    · cases e2
      exact ⟨hn, heap_lt' hh⟩
  have key := Any.strings_Join Tryz.lays156 Tryz.Builder_Extra_156 g 0 cap ((List.range (n + 1)).map fun i => (⟨(f i).toArray⟩ : ByteArray)) ⟨#[44]⟩ w (fun j x hjx => by
      have hj2 : j < n + 1 := by
        have := (List.getElem?_eq_some_iff.1 hjx).1
        simpa using this
      simp [hj2] at hjx
      subst hjx
      rw [Nat.zero_add, World.ownsRow.cellAt h j (by omega)]
      simp [hj2, strV]) hcap.2 (by rw [hx]; have := Nat.le_mul_of_pos_right (n + 1) (show 0 < L + 1 by omega); omega) (by rw [hx]; exact hcap.1) (by rw [hm]; show (Lib.join (txts f (n + 1)) [44]).length ≤ _; rw [← hj]; omega)
  rw [hx, hm] at key
  have e44 : (⟨#[44]⟩ : ByteArray).data.toList = [44] := rfl
  rw [e44, ← hj] at key
  exact key
theorem joined_some (f : Nat → List UInt8) (n g cap L : Nat) (B : Nat) (w : World) (h : SOwn w B (.slice (some ⟨g, 0, none⟩) (n + 1) cap) f (n + 1)) (hL : ∀ i, (f i).length ≤ L) (hb : (n + 1) * (L + 1) ≤ 1000000) :
    Calls Tryz.prog 48 #[.slice (some ⟨g, 0, none⟩) (n + 1) cap] w fun e w' => e = .returned (strV (joinT f (n + 1))) ∧ Below w.heap.size w w' := by
  have HC := Lib.hid (join_any f n g cap L B w h hL hb)
  clear h hL hb
  have hne : (((n : Int) + 1) == 0) = false := by simp; omega
  go_enter Tryz.func48, Tryz.ntmps48
  go_wp2_with fail
  refine HC.out.mono ?_
  rintro e w' ⟨rfl, hb⟩
  have Hb := Lib.hid hb
  clear hb
  go_wp2
  go_ret
  exact ⟨rfl, Hb.out⟩
theorem joined_any (f : Nat → List UInt8) (n L : Nat) (v : Value) (B : Nat) (w : World) (h : SOwn w B v f n) (hL : ∀ i, (f i).length ≤ L) (hb : n * (L + 1) ≤ 1000000) :
    Calls Tryz.prog 48 #[v] w fun e w' => e = .returned (strV (joinT f n)) ∧ Below w.heap.size w w' := by
  cases n with
  | zero =>
    rcases h.2 with ⟨rfl, _⟩ | ⟨g, cap, cur, rfl, _⟩
    · exact joined_none _ _ _
    · exact joined_none _ _ _
  | succ n =>
    rcases h.2 with ⟨_, h0⟩ | ⟨g, cap, cur, rfl, _⟩
    · omega
    · exact joined_some f n g cap L B w h hL hb
end Go.Proofs.YtmpeogpmlgnmfaaGreatDoor
