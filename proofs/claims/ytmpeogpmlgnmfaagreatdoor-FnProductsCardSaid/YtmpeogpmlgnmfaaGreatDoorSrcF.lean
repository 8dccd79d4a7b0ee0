/- The reference's source of choices: a struct with some bytes, a place and a seed; what its methods leave. -/
import Derived.Test.YtmpeogpmlgnmfaaGreatDoorOwn
import Derived.Test.YtmpeogpmlgnmfaaGreatDoorArr
import Derived.Deep.QuietTactic
import Derived.BigQuiet
import Derived.Test.YtmpeogpmlgnmfaaGreatDoorHxS
namespace Go.Proofs.YtmpeogpmlgnmfaaGreatDoor
set_option maxRecDepth 100000
open Go.RowKit Go.Deep Flt

/-- bytes that came in, in a block ahead of p -/
def CodeB (w : World) (A : Option Addr) (n p : Nat) : Prop := n = 0 ∨ ∃ (b off : Nat) (X : Nat → Nat), A = some ⟨b, off, none⟩ ∧ b < p ∧ ∀ i, i < n → X i < 256 ∧ w.cell? ⟨b, off + i, none⟩ = some (.int .u8 (X i))
/-- the struct's cells -/
def srcF (A : Option Addr) (n c : Nat) (at' sd : Int) (i : Nat) : Value := if i = 0 then .slice A n c else if i = 1 then .int .i64 at' else .int .u64 sd
/-- a source in block p, at most m places read -/
def Src (w : World) (p : Nat) (A : Option Addr) (n m : Nat) : Prop := n ≤ 1048576 ∧ ∃ (c k : Nat) (sd : Int), w.rowIs p 87 3 (srcF A n c k sd) ∧ k ≤ m ∧ 0 ≤ sd ∧ sd ≤ 18446744073709551615 ∧ CodeB w A n p
theorem CodeB.touched {w w' : World} {A : Option Addr} {n p : Nat} (h : CodeB w A n p) (hp : p < w.heap.size) (ht : Touched w w' p (p + 1)) : CodeB w' A n p := by
  rcases h with h | ⟨b, off, X, e, hb, hc⟩
  · exact .inl h
  · refine .inr ⟨b, off, X, e, hb, fun i hi => ⟨(hc i hi).1, ?_⟩⟩
    exact (World.cell?_of_block (ht.block b (by omega) (.inl (by omega)))).trans (hc i hi).2
theorem Src.mono {w : World} {p n m m' : Nat} {A : Option Addr} (h : Src w p A n m) (hm : m ≤ m') : Src w p A n m' := by
  obtain ⟨h0, c, k, sd, hr, hk, h1⟩ := h
  exact ⟨h0, c, k, sd, hr, by omega, h1⟩
theorem Src.lt {w : World} {p n m : Nat} {A : Option Addr} (h : Src w p A n m) : p < w.heap.size := by
  obtain ⟨h0, c, k, sd, hr, _⟩ := h
  exact hr.lt
theorem Src.later {w w' : World} {p n m : Nat} {A : Option Addr} (h : Src w p A n m) (hb : ∀ g, g ≤ p → w'.heap[g]? = w.heap[g]?) : Src w' p A n m := by
  obtain ⟨h0, c, k, sd, hr, hk, h1, h2, hc⟩ := h
  refine ⟨h0, c, k, sd, hr.of_block (hb p (Nat.le_refl _)), hk, h1, h2, ?_⟩
  rcases hc with hc | ⟨b, off, X, e, hbp, hcc⟩
  · exact .inl hc
  · exact .inr ⟨b, off, X, e, hbp, fun i hi => ⟨(hcc i hi).1, (World.cell?_of_block (hb b (by omega))).trans (hcc i hi).2⟩⟩
theorem Src.alloc {w : World} {p n m : Nat} {A : Option Addr} (h : Src w p A n m) (o : Obj) : Src (w.alloc o) p A n m :=
  h.later fun g hg => blk_alloc_lt _ _ _ (by have := h.lt; omega)
theorem Src.drewN {w : World} {p n m : Nat} {A : Option Addr} (h : Src w p A n m) (k : Nat) : Src (w.drewN k) p A n m := h.later fun _ _ => rfl
theorem Touched.trans {a b c : World} {lo hi : Nat} (h : Touched a b lo hi) (k : Touched b c lo hi) : Touched a c lo hi :=
  ⟨k.os.trans h.os, k.tape.trans h.tape, k.output.trans h.output, Nat.le_trans h.size k.size, fun g hg hf => (k.block g (by have := h.size; omega) hf).trans (h.block g hg hf)⟩
theorem Touched.alloc {w w' : World} {lo hi : Nat} (h : Touched w w' lo hi) (o : Obj) : Touched w (w'.alloc o) lo hi :=
  ⟨h.os, h.tape, h.output, by have := h.size; simp; omega, fun k hk hf => (blk_alloc_lt _ _ _ (by have := h.size; omega)).trans (h.block k hk hf)⟩
theorem Touched.drews {w w' : World} {lo hi : Nat} (h : Touched w w' lo hi) (n : Nat) : Touched w (w'.drewN n) lo hi := ⟨h.os, h.tape, h.output, h.size, h.block⟩
theorem bits255 (x : Int) : 0 ≤ bits .and .u64 x 255 ∧ bits .and .u64 x 255 ≤ 255 := by
  have h255 : (BitVec.ofInt 64 255).toNat = 2 ^ 8 - 1 := by decide
  have key : (BitVec.ofInt 64 x &&& BitVec.ofInt 64 255).toNat = (BitVec.ofInt 64 x).toNat % 2 ^ 8 := by
    rw [BitVec.toNat_and, h255, Nat.and_two_pow_sub_one_eq_mod]
  have e : bits .and .u64 x 255 = IntKind.u64.wrap (((BitVec.ofInt 64 x &&& BitVec.ofInt 64 255).toNat : Nat) : Int) := rfl
  rw [e, key, IntKind.wrap_u64]
  omega
theorem from_any (A : Option Addr) (n c : Nat) (w : World) (hn : n ≤ 1048576) (hc : CodeB w A n w.heap.size) :
    Calls Tryz.prog 38 #[.slice A n c] w fun e w' => e = .returned (.pointer (some ⟨w.heap.size, 0, none⟩)) ∧ Src w' w.heap.size A n 0 ∧ Below w.heap.size w w' := by
  have HC := Lib.hid hc
  clear hc
  go_enter Tryz.func38, Tryz.ntmps38
  go_wp2
  go_ret
  refine ⟨rfl, ⟨hn, c, 0, 0, ?_, Nat.le_refl _, by decide, by decide, ?_⟩, (Below.refl _ _).alloc (Nat.le_refl _) _⟩
  · refine ⟨#[.slice A n c, .int .i64 0, .int .u64 0], heap_alloc_new w _, rfl, fun i hi => ?_⟩
    rcases (show i = 0 ∨ i = 1 ∨ i = 2 by omega) with rfl | rfl | rfl <;> rfl
  · rcases HC.out with h | ⟨b, off, X, e, hb, hcc⟩
    · exact .inl h
    · exact .inr ⟨b, off, X, e, hb, fun i hi => ⟨(hcc i hi).1, (World.cell?_of_block (blk_alloc_lt _ _ _ hb)).trans (hcc i hi).2⟩⟩
end Go.Proofs.YtmpeogpmlgnmfaaGreatDoor
/- The methods of the reference's source of choices. -/
namespace Go.Proofs.YtmpeogpmlgnmfaaGreatDoor
set_option maxRecDepth 100000
open Go.RowKit Go.Deep Flt

theorem srcF_0 (A : Option Addr) (n c : Nat) (k sd : Int) : srcF A n c k sd 0 = .slice A n c := rfl
theorem srcF_1 (A : Option Addr) (n c : Nat) (k sd : Int) : srcF A n c k sd 1 = .int .i64 k := rfl
theorem srcF_2 (A : Option Addr) (n c : Nat) (k sd : Int) : srcF A n c k sd 2 = .int .u64 sd := rfl
theorem Src.next {w w' : World} {p n m k c : Nat} {sd sd' : Int} {A : Option Addr} (hn : n ≤ 1048576) (hr : w.rowIs p 87 3 (srcF A n c k sd)) (hk : k ≤ m) (hc : CodeB w A n p) 
    (a b : Nat) (e : w' = (((w.drewN a).setCell ⟨p, 1, none⟩ (.int .i64 ((k : Int) + 1))).setCell ⟨p, 2, none⟩ (.int .u64 sd')).drewN b) (h0 : 0 ≤ sd') (h1 : sd' ≤ 18446744073709551615) : Src w' p A n (m + 1) ∧ Touched w w' p (p + 1) := by
  have ht : Touched w w' p (p + 1) := by
    rw [e]
    exact ((((Touched.refl w p (p + 1)).drews a).set (Nat.le_refl _) (Nat.lt_succ_self _) 1 _).set (Nat.le_refl _) (Nat.lt_succ_self _) 2 _).drews b
  refine ⟨⟨hn, c, k + 1, sd', ?_, by omega, h0, h1, hc.touched hr.lt ht⟩, ht⟩
  rw [e]
  refine row_drewN ((((row_drewN hr a).set 1 _).set 2 _).congr fun i hi => ?_) b
  rcases (show i = 0 ∨ i = 1 ∨ i = 2 by omega) with rfl | rfl | rfl <;> rfl
/-- a byte was read, or drawn -/
def NextE (p : Nat) (A : Option Addr) (n m : Nat) (w w' : World) (e : Ending) : Prop := ∃ x : Int, e = .returned (.int .i64 x) ∧ 0 ≤ x ∧ x ≤ 255 ∧ Src w' p A n m ∧ Touched w w' p (p + 1)
theorem wrap_u (x : Int) : 0 ≤ IntKind.u64.wrap x ∧ IntKind.u64.wrap x ≤ 18446744073709551615 := by rw [IntKind.wrap_u64]; omega
theorem w255 (x : Int) : 0 ≤ wrap64 (bits .and .u64 x 255) ∧ wrap64 (bits .and .u64 x 255) ≤ 255 := by
  have := bits255 x
  unfold wrap64
  omega
set_option maxHeartbeats 2000000 in
theorem next_any (p : Nat) (A : Option Addr) (n m : Nat) (w : World) (h : Src w p A n m) (hm : m ≤ 1000000) :
    Calls Tryz.prog 68 #[.pointer (some ⟨p, 0, none⟩)] w fun e w' => NextE p A n (m + 1) w w' e := by
  obtain ⟨hn, c, k, sd, hr, hk, hs0, hs1, hc⟩ := h
  have c0 : w.cell? ⟨p, 0, none⟩ = some (.slice A n c) := hr.cell (i := 0) (by omega)
  have c1 : w.cell? ⟨p, 1, none⟩ = some (.int .i64 (k : Int)) := hr.cell (i := 1) (by omega)
  have c2 : w.cell? ⟨p, 2, none⟩ = some (.int .u64 sd) := hr.cell (i := 2) (by omega)
  have f0 := hr.frozen 0
  have f1 := hr.frozen 1
  have f2 := hr.frozen 2
  have HR := Lib.hid hr
  have HC := Lib.hid hc
  clear hr hc
  by_cases hlt : k < n
  · have hlt' : (k : Int) < (n : Int) := by omega
    have hle : (k : Int) + 1 ≤ (n : Int) := by omega
    have hk0 : (0 : Int) ≤ (k : Int) := by omega
    rcases HC.out with h0 | ⟨b, off, X, rfl, hb, hcc⟩
    · omega
    obtain ⟨hx, cx⟩ := hcc k hlt
    generalize X k = x at hx cx
    clear hcc
    go_enter Tryz.func68, Tryz.ntmps68
    go_wp2
    go_quiet (fail)
    go_wp2
    go_quiet (fail)
    go_wp2
    go_quiet (fail)
    go_wp2
    go_ret
    exact ⟨_, rfl, by omega, by omega, Src.next hn HR.out hk HC.out _ _ rfl (wrap_u _).1 (wrap_u _).2⟩
  · have hlt' : ¬ (k : Int) < (n : Int) := by omega
    have hle : ¬ (k : Int) + 1 ≤ (n : Int) := by omega
    go_enter Tryz.func68, Tryz.ntmps68
    go_wp2
    go_quiet (fail)
    go_wp2
    go_quiet (fail)
    go_wp2
    go_ret
    exact ⟨_, rfl, (w255 _).1, (w255 _).2, Src.next hn HR.out hk HC.out _ _ rfl (wrap_u _).1 (wrap_u _).2⟩
end Go.Proofs.YtmpeogpmlgnmfaaGreatDoor
/- The reference's drawers of numbers. -/
namespace Go.Proofs.YtmpeogpmlgnmfaaGreatDoor
set_option maxRecDepth 100000
open Go.RowKit Go.Deep Flt

/-- an integer below k was picked -/
def PickE (p : Nat) (A : Option Addr) (n m : Nat) (k : Int) (w w' : World) (e : Ending) : Prop := ∃ x : Int, e = .returned (.int .i64 x) ∧ 0 ≤ x ∧ x < k ∧ Src w' p A n m ∧ Touched w w' p (p + 1)
set_option maxHeartbeats 2000000 in
theorem pick_any (p : Nat) (A : Option Addr) (n m : Nat) (k : Int) (w : World) (h : Src w p A n m) (hm : m ≤ 900000) (h1 : 2 ≤ k) (h2 : k ≤ 65536) :
    Calls Tryz.prog 39 #[.pointer (some ⟨p, 0, none⟩), .int .i64 k] w fun e w' => PickE p A n (m + 2) k w w' e := by
  have HN := Lib.hid (next_any p A n m w h (by omega))
  have HN2 := Lib.hid (fun W h => next_any p A n (m + 1) W h (by omega))
  clear h
  by_cases h200 : 200 < k
  · go_enter Tryz.func39, Tryz.ntmps39
    go_wp2_with fail
    refine HN.out.mono ?_
    rintro e w1 ⟨x, rfl, x0, x1, s1, t1⟩
    have S1 := Lib.hid s1
    have T1 := Lib.hid t1
    clear s1 t1
    go_wp2_with fail
    refine (HN2.out _ S1.out).mono ?_
    rintro e w2 ⟨y, rfl, y0, y1, s2, t2⟩
    have S2 := Lib.hid s2
    have T2 := Lib.hid (T1.out.trans t2)
    clear s2 t2
    go_wp2
    go_ret
    exact ⟨_, rfl, Int.emod_nonneg _ (by omega), Int.emod_lt_of_pos _ (by omega), S2.out, T2.out⟩
  · go_enter Tryz.func39, Tryz.ntmps39
    go_wp2_with fail
    refine HN.out.mono ?_
    rintro e w1 ⟨x, rfl, x0, x1, s1, t1⟩
    have S1 := Lib.hid s1
    have T1 := Lib.hid t1
    clear s1 t1
    go_wp2
    go_ret
    exact ⟨_, rfl, Int.emod_nonneg _ (by omega), Int.emod_lt_of_pos _ (by omega), S1.out.mono (by omega), T1.out⟩
def OneE (p : Nat) (A : Option Addr) (n m : Nat) (w w' : World) (e : Ending) : Prop := ∃ b : Bool, e = .returned (.bool b) ∧ Src w' p A n m ∧ Touched w w' p (p + 1)
theorem one_any (p : Nat) (A : Option Addr) (n m : Nat) (k : Int) (w : World) (h : Src w p A n m) (hm : m ≤ 900000) (h1 : 2 ≤ k) (h2 : k ≤ 65536) :
    Calls Tryz.prog 51 #[.pointer (some ⟨p, 0, none⟩), .int .i64 k] w fun e w' => OneE p A n (m + 2) w w' e := by
  have HN := Lib.hid (pick_any p A n m k w h hm h1 h2)
  clear h
  go_enter Tryz.func51, Tryz.ntmps51
  go_wp2_with fail
  refine HN.out.mono ?_
  rintro e w1 ⟨x, rfl, x0, x1, s1, t1⟩
  have S1 := Lib.hid s1
  have T1 := Lib.hid t1
  clear s1 t1
  go_wp2
  go_ret
  exact ⟨_, rfl, S1.out, T1.out⟩
/-- a list of k numbers in a block of its own, all from 0 on and below 2^32 -/
def Few (w : World) (g k : Nat) : Prop := ∃ X : Nat → Int, w.rowIs g 2 k (fun i => .int .i64 (X i)) ∧ ∀ i, i < k → 0 ≤ X i ∧ X i < 4294967296
theorem among_any (p : Nat) (A : Option Addr) (n m g k c : Nat) (w : World) (h : Src w p A n m) (hm : m ≤ 900000) (hg : Few w g k) (hgp : g ≠ p) (h1 : 2 ≤ k) (h2 : k ≤ 65536) :
    Calls Tryz.prog 78 #[.pointer (some ⟨p, 0, none⟩), .slice (some ⟨g, 0, none⟩) k c] w fun e w' => PickE p A n (m + 2) 4294967296 w w' e := by
  obtain ⟨X, hr, hX⟩ := hg
  have HN := Lib.hid (pick_any p A n m k w h hm (by omega) (by omega))
  have HR := Lib.hid hr
  have HX := Lib.hid hX
  clear h hr hX
  go_enter Tryz.func78, Tryz.ntmps78
  go_wp2_with fail
  refine HN.out.mono ?_
  rintro e w1 ⟨x, rfl, x0, x1, s1, t1⟩
  obtain ⟨j, rfl⟩ : ∃ j : Nat, x = (j : Int) := ⟨x.toNat, by omega⟩
  have hj : j < k := by omega
  have S1 := Lib.hid s1
  have T1 := Lib.hid t1
  have cj := (HR.out.of_block (t1.block g HR.out.lt (by omega))).cell (i := j) hj
  clear s1 t1
  go_wp2
  go_ret
  exact ⟨_, rfl, (HX.out j hj).1, (HX.out j hj).2, S1.out, T1.out⟩
/-- a number was drawn -/
def DrawE (p : Nat) (A : Option Addr) (n m : Nat) (w w' : World) (e : Ending) : Prop := ∃ x : Nat, e = .returned (.float .f32 x) ∧ x < 4294967296 ∧ Src w' p A n m ∧ Touched w w' p (p + 1)
theorem drawPlain_any (p : Nat) (A : Option Addr) (n m : Nat) (w : World) (h : Src w p A n m) (hm : m ≤ 800000) :
    Calls Tryz.prog 77 #[.pointer (some ⟨p, 0, none⟩)] w fun e w' => DrawE p A n (m + 4) w w' e := by
  have HP := Lib.hid (pick_any p A n m 129 w h (by omega) (by omega) (by omega))
  have HO := Lib.hid (fun W h => one_any p A n (m + 2) 4 W h (by omega) (by omega) (by omega))
  clear h
  go_enter Tryz.func77, Tryz.ntmps77
  go_wp2_with fail
  refine HP.out.mono ?_
  rintro e w1 ⟨x, rfl, x0, x1, s1, t1⟩
  have S1 := Lib.hid s1
  have T1 := Lib.hid t1
  clear s1 t1
  go_wp2_with fail
  refine (HO.out _ S1.out).mono ?_
  rintro e w2 ⟨b, rfl, s2, t2⟩
  have S2 := Lib.hid s2
  have T2 := Lib.hid (T1.out.trans t2)
  clear s2 t2
  cases b
  · go_wp2_with (first | (refine wpList_fop rfl .quo _ _ _ _ rfl rfl .f32 _ _ rfl rfl ?_; intro τ q))
    go_ret
    exact ⟨_, rfl, rep_lt (wfc_fop _ _ _ _) _, S2.out.drewN _, T2.out.drews _⟩
  · go_wp2_with (first | (refine wpList_fop rfl .quo _ _ _ _ rfl rfl .f32 _ _ rfl rfl ?_; intro τ q))
    go_ret
    exact ⟨_, rfl, rep_lt (wfc_fop _ _ _ _) _, S2.out.drewN _, T2.out.drews _⟩
theorem few_list (w : World) (L : List Int) (hL : ∀ x ∈ L, 0 ≤ x ∧ x < 4294967296) : Few (w.alloc (.cells (L.map (Value.int .i64)).toArray 2)) w.heap.size L.length := by
  refine ⟨fun i => L.getD i 0, ⟨_, heap_alloc_new w _, by simp, fun i hi => ?_⟩, fun i hi => ?_⟩
  · simp [List.getD, hi]
  · have e : L.getD i 0 = L[i] := by simp [List.getD, hi]
    show 0 ≤ L.getD i 0 ∧ L.getD i 0 < 4294967296
    rw [e]
    exact hL _ (List.getElem_mem hi)
set_option maxHeartbeats 4000000 in
theorem drawFloat_any (p : Nat) (A : Option Addr) (n m : Nat) (w : World) (h : Src w p A n m) (hm : m ≤ 700000) :
    Calls Tryz.prog 53 #[.pointer (some ⟨p, 0, none⟩)] w fun e w' => DrawE p A n (m + 12) w w' e := by
  have HO := Lib.hid (one_any p A n m 12 w h (by omega) (by omega) (by omega))
  have HD := Lib.hid (fun (M : Nat) W (hM : M ≤ m + 8) h => drawPlain_any p A n M W h (by omega))
  have HP := Lib.hid (fun (M : Nat) (k : Int) W (hM : M ≤ m + 8) (h1 : 2 ≤ k) (h2 : k ≤ 65536) h => pick_any p A n M k W h (by omega) h1 h2)
  have HA := Lib.hid (fun (M g k c : Nat) W (hM : M ≤ m + 8) h hg hgp h1 h2 => among_any p A n M g k c W h (by omega) hg hgp h1 h2)
  clear h
  go_enter Tryz.func53, Tryz.ntmps53
  go_wp2_with fail
  refine HO.out.mono ?_
  rintro e w1 ⟨b, rfl, s1, t1⟩
  have S1 := Lib.hid s1
  have T1 := Lib.hid t1
  clear s1 t1
  cases b
  · go_wp2_with fail
    refine (HD.out _ _ (by omega) S1.out).mono ?_
    rintro e w2 ⟨x, rfl, hx, s2, t2⟩
    have S2 := Lib.hid s2
    have T2 := Lib.hid (T1.out.trans t2)
    clear s2 t2
    go_wp2
    go_ret
    exact ⟨_, rfl, hx, S2.out.mono (by omega), T2.out⟩
  go_wp2_with fail
  refine (HP.out _ 4 _ (by omega) (by omega) (by omega) S1.out).mono ?_
  rintro e w2 ⟨x, rfl, x0, x1, s2, t2⟩
  have S2 := Lib.hid s2
  have T2 := Lib.hid (T1.out.trans t2)
  clear s2 t2
  obtain rfl | rfl | rfl | rfl : x = 0 ∨ x = 1 ∨ x = 2 ∨ x = 3 := by omega
  · go_wp2_with fail
    refine (HA.out _ _ 10 10 _ (by omega) (S2.out.alloc _) (few_list w2 [0, 2147483648, 2139095040, 4286578688, 2143289344, 1, 2139095039, 8388608, 8388607, 2147483649] (by decide)) (by have := S2.out.lt; omega) (by omega) (by omega)).mono ?_
    rintro e w3 ⟨y, rfl, y0, y1, s3, t3⟩
    have S3 := Lib.hid s3
    have T3 := Lib.hid ((T2.out.alloc _).trans t3)
    clear s3 t3
    go_wp2_with (first | (go_at_call 52; refine (l01From_any _ _ (by omega) (by omega)).mono ?_; rintro e w' ⟨rfl, rfl⟩))
    go_ret
    exact ⟨_, rfl, by omega, S3.out.mono (by omega), T3.out⟩
  · go_wp2_with fail
    refine (HP.out _ 65536 _ (by omega) (by omega) (by omega) S2.out).mono ?_
    rintro e w3 ⟨y, rfl, y0, y1, s3, t3⟩
    have S3 := Lib.hid s3
    have T3 := Lib.hid (T2.out.trans t3)
    clear s3 t3
    go_wp2_with fail
    refine (HP.out _ 65536 _ (by omega) (by omega) (by omega) S3.out).mono ?_
    rintro e w4 ⟨z, rfl, z0, z1, s4, t4⟩
    have S4 := Lib.hid s4
    have T4 := Lib.hid (T3.out.trans t4)
    clear s4 t4
    go_wp2_with (first | (go_at_call 52; refine (l01From_any _ _ (by omega) (by omega)).mono ?_; rintro e w' ⟨rfl, rfl⟩))
    go_ret
    exact ⟨_, rfl, by omega, S4.out.mono (by omega), T4.out⟩
  · go_wp2_with fail
    refine (HP.out _ 65536 _ (by omega) (by omega) (by omega) S2.out).mono ?_
    rintro e w3 ⟨y, rfl, y0, y1, s3, t3⟩
    have S3 := Lib.hid s3
    have T3 := Lib.hid (T2.out.trans t3)
    clear s3 t3
    go_wp2_with (first | (go_at_call 52; refine (l01From_any _ _ (by omega) (by omega)).mono ?_; rintro e w' ⟨rfl, rfl⟩))
    go_ret
    exact ⟨_, rfl, by omega, S3.out.mono (by omega), T3.out⟩
  · go_wp2_with fail
    refine (HD.out _ _ (by omega) S2.out).mono ?_
    rintro e w3 ⟨y, rfl, hy, s3, t3⟩
    have S3 := Lib.hid s3
    have T3 := Lib.hid (T2.out.trans t3)
    clear s3 t3
    go_wp2_with fail
    refine (HA.out _ _ 4 4 _ (by omega) (S3.out.alloc _) (few_list w3 [8388608, 2130706432, 1610612736, 536870912] (by decide)) (by have := S3.out.lt; omega) (by omega) (by omega)).mono ?_
    rintro e w4 ⟨z, rfl, z0, z1, s4, t4⟩
    have S4 := Lib.hid s4
    have T4 := Lib.hid ((T3.out.alloc _).trans t4)
    clear s4 t4
    go_wp2_with (first | (go_at_call 52; refine (l01From_any _ _ (by omega) (by omega)).mono ?_; rintro e w' ⟨rfl, rfl⟩) | (refine wpList_fop rfl .mul _ _ _ _ rfl rfl .f32 _ _ rfl rfl ?_; intro τ q))
    go_ret
    exact ⟨_, rfl, rep_lt (wfc_fop _ _ _ _) _, (S4.out.drewN _).mono (by omega), T4.out.drews _⟩
/-- a number came back, nothing that was there has turned -/
def NumE (w w' : World) (e : Ending) : Prop := ∃ x : Nat, e = .returned (.float .f32 x) ∧ x < 4294967296 ∧ Below w.heap.size w w'
theorem Touched.below1 {w w1 w' : World} (hb : Below w.heap.size w w1) (ht : Touched w1 w' w.heap.size (w.heap.size + 1)) : Below w.heap.size w w' := ht.below hb (Nat.le_refl _) hb.size
set_option maxHeartbeats 4000000 in
theorem b10Number_any (A : Option Addr) (n c : Nat) (w : World) (hn : n ≤ 1048576) (hc : CodeB w A n w.heap.size) :
    Calls Tryz.prog 19 #[.slice A n c] w fun e w' => NumE w w' e := by
  have HF := Lib.hid (from_any A n c w hn hc)
  clear hc
  go_enter Tryz.func19, Tryz.ntmps19
  go_wp2_with fail
  refine HF.out.mono ?_
  rintro e w1 ⟨rfl, s1, b1⟩
  have S1 := Lib.hid s1
  have B1 := Lib.hid b1
  clear s1 b1
  go_wp2_with fail
  refine (one_any _ A n 0 2 w1 S1.out (by omega) (by omega) (by omega)).mono ?_
  rintro e w2 ⟨b, rfl, s2, t2⟩
  have S2 := Lib.hid s2
  have T2 := Lib.hid t2
  clear s2 t2
  cases b
  · go_wp2_with fail
    refine (drawFloat_any _ A n _ w2 S2.out (by omega)).mono ?_
    rintro e w3 ⟨x, rfl, hx, s3, t3⟩
    have T3 := Lib.hid (T2.out.trans t3)
    clear s3 t3
    go_wp2
    go_ret
    exact ⟨_, rfl, hx, Touched.below1 B1.out T3.out⟩
  · go_wp2_with fail
    refine (pick_any _ A n _ 65536 w2 S2.out (by omega) (by omega) (by omega)).mono ?_
    rintro e w3 ⟨x, rfl, x0, x1, s3, t3⟩
    have S3 := Lib.hid s3
    have T3 := Lib.hid (T2.out.trans t3)
    clear s3 t3
    go_wp2_with fail
    refine (pick_any _ A n _ 65536 w3 S3.out (by omega) (by omega) (by omega)).mono ?_
    rintro e w4 ⟨y, rfl, y0, y1, s4, t4⟩
    have T4 := Lib.hid (T3.out.trans t4)
    clear s4 t4
    go_wp2_with (first | (go_at_call 52; refine (l01From_any _ _ (by omega) (by omega)).mono ?_; rintro e w' ⟨rfl, rfl⟩))
    go_ret
    exact ⟨_, rfl, by omega, Touched.below1 B1.out T4.out⟩
end Go.Proofs.YtmpeogpmlgnmfaaGreatDoor
/- The reference's drawers of lists of numbers. -/
namespace Go.Proofs.YtmpeogpmlgnmfaaGreatDoor
set_option maxRecDepth 100000
open Go.RowKit Go.Deep Flt

theorem owns_touched {w w' : World} {B p : Nat} {e : TypeId} {size : Nat} {v : Value} {n : Nat} {xs : List Value} (h : w.ownsRow B e size v n xs) (ht : Touched w w' p (p + 1)) (hB : p + 1 ≤ B) : w'.ownsRow B e size v n xs :=
  ⟨h.1, by
    rcases h.2 with h0 | ⟨g, cap, cur, e1, hg, hh, r⟩
    · exact .inl h0
    · exact .inr ⟨g, cap, cur, e1, hg, (ht.block _ (heap_lt' hh) (.inr (by omega))).trans hh, r⟩⟩
theorem Touched.grown {w wx w3 : World} {lo hi : Nat} {row : Option Nat} (h : Touched w wx lo hi) (hg : wx.grownBy w3 row) (hr : ∀ q, row = some q → w.heap.size ≤ q) : Touched w w3 lo hi :=
  ⟨hg.os.trans h.os, hg.tape.trans h.tape, hg.output.trans h.output, Nat.le_trans h.size hg.size, fun k hk hf => (hg.block k (by have := h.size; omega) (fun e => by have := hr k e.symm; omega)).trans (h.block k hk hf)⟩
theorem Src.grown {wx w3 : World} {p n m : Nat} {A : Option Addr} {row : Option Nat} (h : Src wx p A n m) (hg : wx.grownBy w3 row) (hr : ∀ q, row = some q → p < q) : Src w3 p A n m :=
  h.later fun g hgp => hg.block g (by have := h.lt; omega) (fun e => by have := hr g e.symm; omega)
/-- a list was drawn -/
def DrawsE (p N : Nat) (w w' : World) (e : Ending) : Prop :=
  ∃ (A' : Option Addr) (c : Nat) (f : Nat → Nat), e = .returned (.slice A' N c) ∧ OwnV w' 28 A' N (fun i => .float .f32 (f i)) w.heap.size w'.heap.size ∧ (∀ i, f i < 4294967296) ∧ Touched w w' p (p + 1)
set_option maxHeartbeats 4000000 in
theorem drawFloats_any (p : Nat) (A : Option Addr) (n m N : Nat) (w : World) (h : Src w p A n m) (hm : m ≤ 1000) (hN : N ≤ 100) :
    Calls Tryz.prog 64 #[.pointer (some ⟨p, 0, none⟩), .int .i64 (N : Int)] w fun e w' => DrawsE p N w w' e := by
  obtain ⟨i0, hi0, hz0, hz1, hz2⟩ := info_parts info_f32
  have hp : p < w.heap.size := h.lt
  have HO := Lib.hid (one_any p A n m 4 _ (h.alloc (.cells #[] 28)) (by omega) (by omega) (by omega))
  have HDF := Lib.hid (fun (M : Nat) W (hM : M ≤ 700000) h => drawFloat_any p A n M W h hM)
  have HDP := Lib.hid (fun (M : Nat) W (hM : M ≤ 700000) h => drawPlain_any p A n M W h (by omega))
  clear h
  go_enter Tryz.func64, Tryz.ntmps64
  go_wp2_with fail
  refine HO.out.mono ?_
  rintro e w1 ⟨b, rfl, s1, t1⟩
  have S1 := Lib.hid s1
  have T1 := Lib.hid (((Touched.refl w p (p + 1)).alloc _).trans t1)
  have O1 := Lib.hid (owns_touched (World.ownsRow_lit (base := w.heap.size) (e := 28) (size := 1) w #[] 0 (Nat.le_refl _) (by decide) rfl) t1 (by omega))
  clear s1 t1
  go_wp2
  go_loopw [1, 5] (fun tn tv wx => ∃ (k : Nat) (v : Value) (f : Nat → Nat), v = tv ∧ tn = .int .i64 ((N : Int) - k) ∧ k ≤ N ∧ FOwn wx w.heap.size v f k ∧ Hid (∀ j, f j < 4294967296) ∧ Hid (Src wx p A n (m + 2 + 12 * k)) ∧ Hid (Touched w wx p (p + 1))) (fun tn _ _ => (intOf tn).toNat)
  case atStart => exact ⟨0, _, fun _ => 0, rfl, by simp, Nat.zero_le _, O1.out, Lib.hid fun _ => (by show (0 : Nat) < 4294967296; decide), S1, T1⟩
  case round =>
    obtain ⟨k, v, f, rfl, rfl, hk, hown, HF, HS, HT⟩ := hrel
    have HN := Lib.hid hown
    clear hown
    by_cases hlt : k < N
    · have hlt' : (0 : Int) < (N : Int) - (k : Int) := by omega
      have HC := Lib.hid (show Calls Tryz.prog (if b = true then 53 else 77) #[.pointer (some ⟨p, 0, none⟩)] wr fun e w' => DrawE p A n (m + 2 + 12 * (k + 1)) wr w' e by
        cases b
        · exact (HDP.out _ wr (by omega) HS.out).mono fun _ _ ⟨x, e, hx, s, t⟩ => ⟨x, e, hx, s.mono (by omega), t⟩
        · exact (HDF.out _ wr (by omega) HS.out).mono fun _ _ ⟨x, e, hx, s, t⟩ => ⟨x, e, hx, s.mono (by omega), t⟩)
      cases b
      all_goals
        go_wp2_with fail
        refine HC.out.mono ?_
        rintro e w2 ⟨x, rfl, hx, s2, t2⟩
        have S2 := Lib.hid s2
        have T2 := Lib.hid (HT.out.trans t2)
        have HN2 := Lib.hid (show w2.ownsRow w.heap.size 28 1 v k ((List.range k).map fun i => .float .f32 (f i)) from owns_touched HN.out t2 (by omega))
        clear s2 t2
        go_wp2_with (first | (at_builtin; refine wpList_append_own _ rfl _ _ 52 rfl w.heap.size 28 i0 (.float .f32 0) 1 4 Tryz.underlying52 hi0 hz0 hz1 hz2 rfl (by decide) _ _ _ rfl (HN2.out.alloc _) ⟨w2.heap.size, 0, none⟩ 1 1 [.float .f32 x] rfl rfl ?c1 ?c2 ?c3 ?c4 ?c5 ?_))
        case c1 => exact news_cells rfl
        case c2 => intro u hu; simp at hu; rcases hu with rfl; rfl
        case c3 => unfold maxLen; omega
        case c4 => omega
        case c5 => have := T2.out.size; simp <;> omega
        intro v' w3 hown1 hgrow _
        have HN3 := Lib.hid (show FOwn w3 w.heap.size v' (fun j => if j = k then x else f j) (k + 1) by
          refine FOwn.more (f := fun j => if j = k then x else f j) (if_pos rfl).symm ?_
          have e : ((List.range k).map fun i => Value.float .f32 (f i)) = (List.range k).map fun i => Value.float .f32 (if i = k then x else f i) := List.map_congr_left fun i hi => by rw [if_neg (Nat.ne_of_lt (by simpa using hi))]
          rw [← e]
          exact hown1)
        have T3 := Lib.hid ((T2.out.alloc _).grown hgrow (fun q hq => (HN2.out.lt q hq).1))
        have S3 := Lib.hid ((S2.out.alloc _).grown hgrow (fun q hq => Nat.lt_of_lt_of_le hp (HN2.out.lt q hq).1))
        have HF3 := Lib.hid (show ∀ j, (if j = k then x else f j) < 4294967296 from fun j => by split; (· exact hx); (· exact HF.out j))
        clear hown1 hgrow
        go_wp2
        go_roundw
        case rel => exact ⟨k + 1, _, _, rfl, congrArg (Value.int .i64) (by omega), by omega, HN3.out, HF3, S3, T3⟩
        case measure => simp [intOf]; omega
    · obtain rfl : k = N := by omega
      obtain ⟨A', cA, rfl, ho⟩ := OwnV.of_map HN.out
      have HO3 := Lib.hid ho
      have hnl : ¬ (0 : Int) < (k : Int) - (k : Int) := by omega
      clear ho hlt
      go_wp2
      go_ret
      exact ⟨A', cA, f, rfl, HO3.out, HF.out, HT.out⟩
def NumsE (N : Nat) (w w' : World) (e : Ending) : Prop :=
  ∃ (A' : Option Addr) (c : Nat) (f : Nat → Nat), e = .returned (.slice A' N c) ∧ OwnV w' 28 A' N (fun i => .float .f32 (f i)) w.heap.size w'.heap.size ∧ (∀ i, f i < 4294967296) ∧ Below w.heap.size w w'
theorem b10Numbers_any (A : Option Addr) (n c N : Nat) (w : World) (hn : n ≤ 1048576) (hN : N ≤ 100) (hc : CodeB w A n w.heap.size) :
    Calls Tryz.prog 29 #[.slice A n c, .int .i64 (N : Int)] w fun e w' => NumsE N w w' e := by
  have HF := Lib.hid (from_any A n c w hn hc)
  clear hc
  go_enter Tryz.func29, Tryz.ntmps29
  go_wp2_with fail
  refine HF.out.mono ?_
  rintro e w1 ⟨rfl, s1, b1⟩
  have S1 := Lib.hid s1
  have B1 := Lib.hid b1
  clear s1 b1
  go_wp2_with fail
  refine (drawFloats_any _ A n 0 N w1 S1.out (by omega) hN).mono ?_
  rintro e w2 ⟨A', c', f, rfl, ho, hf, t2⟩
  have HO := Lib.hid (ho.more (lo' := w.heap.size) B1.out.size (Nat.le_refl _))
  have HF2 := Lib.hid hf
  have HB := Lib.hid (Touched.below1 B1.out t2)
  clear ho hf t2
  go_wp2
  go_ret
  exact ⟨A', c', f, rfl, HO.out, HF2.out, HB.out⟩
/-- the choice of a byte -/
def AtE (k : Int) (w w' : World) (e : Ending) : Prop := ∃ x : Int, e = .returned (.int .i64 x) ∧ 0 ≤ x ∧ x < k ∧ w = w'
theorem b10At_any (A : Option Addr) (n c p : Nat) (i : Nat) (k : Int) (w : World) (hi : i ≤ 100) (h1 : 2 ≤ k) (h2 : k ≤ 65536) (hc : CodeB w A n p) :
    Calls Tryz.prog 16 #[.slice A n c, .int .i64 (i : Int), .int .i64 k] w fun e w' => AtE k w w' e := by
  by_cases hlt : i < n
  · rcases hc with h0 | ⟨b, off, X, rfl, hb, hcc⟩
    · omega
    obtain ⟨hx, cx⟩ := hcc i hlt
    generalize X i = x at hx cx
    have hlt' : (i : Int) < (n : Int) := by omega
    clear hcc
    go_enter Tryz.func16, Tryz.ntmps16
    go_wp2
    go_ret
    exact ⟨_, rfl, Int.emod_nonneg _ (by omega), Int.emod_lt_of_pos _ (by omega), rfl⟩
  · have hlt' : ¬ (i : Int) < (n : Int) := by omega
    clear hc
    go_enter Tryz.func16, Tryz.ntmps16
    go_wp2
    go_ret
    exact ⟨_, rfl, Int.emod_nonneg _ (by omega), Int.emod_lt_of_pos _ (by omega), rfl⟩
theorem b10Long_any (A B : Option Addr) (n c k d : Nat) (w : World) :
    Calls Tryz.prog 5 #[.slice A n c, .slice B k d] w fun e w' => e = .returned (.bool (decide (1048576 < n) || decide (1048576 < k))) ∧ w = w' := by
  by_cases h : 1048576 < n
  · have h' : (1048576 : Int) < (n : Int) := by omega
    go_enter Tryz.func5, Tryz.ntmps5
    go_wp2
    go_ret
    exact ⟨by first | rfl | (rw [decide_eq_true h]; rfl), rfl⟩
  · have h' : ¬ (1048576 : Int) < (n : Int) := by omega
    have hd := decide_eq_false h
    by_cases h2 : 1048576 < k
    · have h2' : (1048576 : Int) < (k : Int) := by omega
      go_enter Tryz.func5, Tryz.ntmps5
      go_wp2
      go_ret
      exact ⟨by first | rfl | (rw [hd, decide_eq_true h2]; rfl), rfl⟩
    · have h2' : ¬ (1048576 : Int) < (k : Int) := by omega
      have hd2 := decide_eq_false h2
      go_enter Tryz.func5, Tryz.ntmps5
      go_wp2
      go_ret
      exact ⟨by first | rfl | (rw [hd, hd2]; rfl), rfl⟩
end Go.Proofs.YtmpeogpmlgnmfaaGreatDoor
