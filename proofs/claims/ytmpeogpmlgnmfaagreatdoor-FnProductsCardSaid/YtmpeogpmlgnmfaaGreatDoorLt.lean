/- Both texts' text of a list of values: the decimals with commas between them. -/
import Derived.Test.YtmpeogpmlgnmfaaGreatDoorI64
import Derived.Test.YtmpeogpmlgnmfaaGreatDoorJoin
import Derived.Lib.ItoaLen
import Derived.Laws.Concat
namespace Go.Proofs.YtmpeogpmlgnmfaaGreatDoor
set_option maxRecDepth 100000
open Go.RowKit Go.Deep Flt

def itX (X : Nat → Int) (i : Nat) : List UInt8 := Lib.itoa (X i)
theorem itX_len {X : Nat → Int} (h : In64 X) (i : Nat) : (itX X i).length ≤ 21 := Lib.itoa_length_le _ (h i).1 (h i).2
theorem cat3 (a l : List UInt8) : (⟨a.toArray⟩ : ByteArray) ++ (⟨#[44]⟩ ++ ⟨l.toArray⟩) = ⟨(a ++ 44 :: l).toArray⟩ := by
  have e : (⟨#[44]⟩ : ByteArray) = ⟨[(44 : UInt8)].toArray⟩ := rfl
  rw [e, ByteArray.mk_append_mk, ByteArray.mk_append_mk]
  rfl
theorem owns_below {w w' : World} {B : Nat} {e : TypeId} {size : Nat} {v : Value} {n : Nat} {xs : List Value} (h : w.ownsRow B e size v n xs) (hb : Below w.heap.size w w') : w'.ownsRow B e size v n xs :=
  ⟨h.1, by
    rcases h.2 with h0 | ⟨g, cap, cur, e1, hB, hh, r⟩
    · exact .inl h0
    · exact .inr ⟨g, cap, cur, e1, hB, (hb.block _ (heap_lt' hh)).trans hh, r⟩⟩
/-- the law's two answers: the text, or none -/
def ltT (X : Nat → Int) (n : Nat) : List UInt8 := if okL X n = true then joinT (itX X) n else []
end Go.Proofs.YtmpeogpmlgnmfaaGreatDoor
