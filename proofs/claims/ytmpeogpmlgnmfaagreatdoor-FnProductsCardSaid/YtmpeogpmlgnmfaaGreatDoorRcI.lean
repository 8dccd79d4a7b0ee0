/- The program's text of a list of complex numbers. -/
import Derived.Test.YtmpeogpmlgnmfaaGreatDoorHexI
import Derived.Test.YtmpeogpmlgnmfaaGreatDoorNt
import Derived.Test.YtmpeogpmlgnmfaaGreatDoorCx
import Derived.Test.YtmpeogpmlgnmfaaGreatDoorHxS
import Derived.Test.YtmpeogpmlgnmfaaGreatDoorHxI
import Derived.Deep.RegionLaw
namespace Go.Proofs.YtmpeogpmlgnmfaaGreatDoor
set_option maxRecDepth 100000
open Go.RowKit Go.Deep Flt

/-- the sixteen digits of a complex number -/
def hcX (X Y : Nat → Nat) (i : Nat) : List UInt8 := hx (X i) ++ hx (Y i)
theorem hcX_len (X Y : Nat → Nat) (i : Nat) : (hcX X Y i).length = 16 := by unfold hcX; rw [List.length_append, hx_len, hx_len]
/-- a slice of complex64 that came in, or a call's own, reads as the numbers X, Y -/
def RowC (w : World) (a : Option Addr) (X Y : Nat → Nat) (n : Nat) : Prop := n = 0 ∨ ∃ b off, a = some ⟨b, off, none⟩ ∧ ∀ i, i < n → w.cell? ⟨b, off + i, none⟩ = some (.complex .f32 (X i) (Y i))
theorem RowC.below {w w' : World} {a : Option Addr} {X Y : Nat → Nat} {n : Nat} (h : RowC w a X Y n) (hb : Below w.heap.size w w') : RowC w' a X Y n := by
  rcases h with h | ⟨b, off, e, hc⟩
  · exact .inl h
  · exact .inr ⟨b, off, e, fun i hi => (hb.cell (World.block_lt_of_cell? w _ (hc i hi))).trans (hc i hi)⟩
theorem OwnV.rowC {w : World} {A : Option Addr} {n lo hi : Nat} {f g : Nat → Nat} (h : OwnV w 24 A n (fun i => .complex .f32 (f i) (g i)) lo hi) : RowC w A f g n := by
  rcases h with h0 | ⟨b, m, k, rfl, _, _, hr, hm, hf⟩
  · exact .inl h0
  · exact .inr ⟨b, 0, rfl, fun i hi => by rw [Nat.zero_add, hr.cell (i := i) (by omega), hf i hi]⟩
set_option maxRecDepth 100000 in
set_option maxHeartbeats 4000000 in
theorem complexText_yes (a : Option Addr) (X Y : Nat → Nat) (n c : Nat) (w : World) (h : RowC w a X Y n) (hI : ∀ i, X i < 4294967296 ∧ Y i < 4294967296) (hp : Tz w) (hn : n ≤ 256) :
    Calls Tryz.prog 17 #[.slice a n c] w fun e w' => e = .returned (.tuple #[strV (joinT (hcX X Y) n), .bool true]) ∧ Below w.heap.size w w' := by
  obtain ⟨i0, hi0, hz0, hz1, hz2⟩ := info_parts str_info
  have HR := Lib.hid h
  have HI := Lib.hid hI
  have HP := Lib.hid hp
  have hn' : ¬ (256 : Int) < (n : Int) := by omega
  clear h hI hp
  go_enter Tryz.func17, Tryz.ntmps17
  go_wp2
  go_loopw [4, 13] (fun tv ti wx => ∃ (v : Value) (k : Nat), v = tv ∧ k ≤ n ∧ ti = .int .i64 k ∧ SOwn wx w.heap.size v (hcX X Y) k ∧ Below w.heap.size w wx) (fun _ ti _ => n - (intOf ti).toNat)
  case atStart => exact ⟨_, 0, rfl, Nat.zero_le _, rfl, World.ownsRow_lit w #[] 0 (Nat.le_refl _) (by decide) rfl, (Below.refl _ _).alloc (Nat.le_refl _) _⟩
  case round =>
    obtain ⟨v, k, rfl, hk, rfl, hown, hbel⟩ := hrel
    have HN := Lib.hid hown
    have HB := Lib.hid hbel
    clear hown hbel
    by_cases hlt : k < n
    · have hlt' : (k : Int) < (n : Int) := by omega
      rcases HR.out.below HB.out with h0 | ⟨b, off, rfl, hcc⟩
      · omega
      have ck := hcc k hlt
      clear hcc
      obtain ⟨l1, hl1⟩ : ∃ l, l = hx (X k) := ⟨_, rfl⟩
      obtain ⟨l2, hl2⟩ : ∃ l, l = hx (Y k) := ⟨_, rfl⟩
      have hs1 : l1.length = 8 := by rw [hl1, hx_len]
      have hs2 : l2.length = 8 := by rw [hl2, hx_len]
      have hb1 : l1.length ≤ 8 := by omega
      have hb2 : l2.length ≤ 8 := by omega
      have HC1 := Lib.hid (show Calls Tryz.prog 47 #[.float .f32 (X k)] wr fun e w' => e = .returned (.string ⟨l1.toArray⟩) ∧ Below wr.heap.size wr w' by
        rw [hl1]; exact hexOf_any (X k) wr (HI.out k).1 (HP.out.below HB.out))
      have HC2 := Lib.hid (fun W (hb : Below w.heap.size w W) => show Calls Tryz.prog 47 #[.float .f32 (Y k)] W fun e w' => e = .returned (.string ⟨l2.toArray⟩) ∧ Below W.heap.size W w' by
        rw [hl2]; exact hexOf_any (Y k) W (HI.out k).2 (HP.out.below hb))
      have HL := Lib.hid (show (⟨l1.toArray⟩ : ByteArray) ++ ⟨l2.toArray⟩ = ⟨(hcX X Y k).toArray⟩ by rw [ByteArray.mk_append_mk, hl1, hl2]; rfl)
      clear hl1 hl2 hs1 hs2
      go_wp2_with fail
      refine HC1.out.mono ?_
      rintro e w1 ⟨rfl, hw1⟩
      have HB1 := Lib.hid (HB.out.trans (hw1.mono HB.out.size))
      have HN1 := Lib.hid (show w1.ownsRow w.heap.size 9 1 v k ((List.range k).map fun i => strV (hcX X Y i)) from owns_below HN.out hw1)
      clear hw1
      go_wp2_with fail
      refine (HC2.out _ HB1.out).mono ?_
      rintro e w2 ⟨rfl, hw2⟩
      have HB2 := Lib.hid (HB1.out.trans (hw2.mono HB1.out.size))
      have HN2 := Lib.hid (show w2.ownsRow w.heap.size 9 1 v k ((List.range k).map fun i => strV (hcX X Y i)) from owns_below HN1.out hw2)
      clear hw2
      go_wp2_with (first | (at_builtin; refine wpList_append_own _ rfl _ _ 69 rfl w.heap.size 9 i0 (.string ByteArray.empty) 1 16 Tryz.underlying69 hi0 hz0 hz1 hz2 rfl (by decide) _ _ _ rfl (HN2.out.alloc _) ⟨w2.heap.size, 0, none⟩ 1 1 [.string ⟨(l1 ++ l2).toArray⟩] rfl rfl ?c1 ?c2 ?c3 ?c4 ?c5 ?_))
      case c1 => exact news_cells rfl
      case c2 => intro u hu; simp at hu; rcases hu with rfl; rfl
      case c3 => unfold maxLen; omega
      case c4 => omega
      case c5 => have := HB2.out.size; simp; omega
      intro v' w3 hown1 hgrow _
      rw [← ByteArray.mk_append_mk, HL.out] at hown1
      have HN3 := Lib.hid (SOwn.more hown1)
      have HB3 := Lib.hid ((HB2.out.alloc HB2.out.size _).grown hgrow (by have := HB2.out.size; simp; omega) (fun k hk => (HN2.out.lt k hk).1))
      clear hown1 hgrow
      go_wp2
      go_roundw
      case rel => exact ⟨_, k + 1, rfl, by omega, by go_num, HN3.out, HB3.out⟩
      case measure => simp [intOf]; omega
    · obtain rfl : k = n := by omega
      have HJ := Lib.hid (joined_any (hcX X Y) k 16 v w.heap.size wr HN.out (fun i => Nat.le_of_eq (hcX_len X Y i)) (by omega))
      go_wp2_with fail
      refine HJ.out.mono ?_
      rintro e w1 ⟨rfl, hb1⟩
      have HB1 := Lib.hid (HB.out.trans (hb1.mono HB.out.size))
      clear hb1
      go_wp2
      go_ret2
      exact ⟨rfl, HB1.out⟩
end Go.Proofs.YtmpeogpmlgnmfaaGreatDoor
/- The plain law of reading sixteen hexadecimal digits, and the reference's reading of a list of complex numbers. -/
namespace Go.Proofs.YtmpeogpmlgnmfaaGreatDoor
set_option maxRecDepth 100000
open Go.RowKit Go.Deep Flt

/-- the complex number with sixteen digits -/
def rc (p : List UInt8) : Option (Nat × Nat) := (rn (p.take 8)).bind fun a => (rn (p.drop 8)).map fun b => (a, b)
theorem rc_some {p : List UInt8} {x : Nat × Nat} (h : rc p = some x) : rn (p.take 8) = some x.1 ∧ rn (p.drop 8) = some x.2 ∧ p.length = 16 := by
  unfold rc at h
  cases h1 : rn (p.take 8) with
  | none => rw [h1] at h; cases h
  | some a =>
    rw [h1, Option.bind_some] at h
    cases h2 : rn (p.drop 8) with
    | none => rw [h2] at h; cases h
    | some b =>
      rw [h2] at h
      cases h
      refine ⟨rfl, rfl, ?_⟩
      have e1 := (rn_some h1).1
      have e2 := (rn_some h2).1
      rw [List.length_take] at e1
      rw [List.length_drop] at e2
      omega
theorem rc_yes {p : List UInt8} {a b : Nat} (h1 : rn (p.take 8) = some a) (h2 : rn (p.drop 8) = some b) : rc p = some (a, b) := by
  unfold rc
  rw [h1, h2]
  rfl
theorem rc_no1 {p : List UInt8} (h : rn (p.take 8) = none) : rc p = none := by
  unfold rc
  rw [h]
  rfl
theorem rc_no2 {p : List UInt8} (h : rn (p.drop 8) = none) : rc p = none := by
  unfold rc
  rw [h]
  cases rn (p.take 8) <;> rfl
theorem rc_short {p : List UInt8} (h : p.length ≠ 16) : rc p = none := by
  cases hr : rc p with
  | none => rfl
  | some x => exact absurd (rc_some hr).2.2 h
def crOk (l : List UInt8) : Bool := decide (∀ i, i < nPt l → (rc (pt l i)).isSome = true) && decide (nPt l ≤ 256)
def crA (l : List UInt8) (i : Nat) : Nat := ((rc (pt l i)).getD (0, 0)).1
def crB (l : List UInt8) (i : Nat) : Nat := ((rc (pt l i)).getD (0, 0)).2
def crN (l : List UInt8) : Nat := if crOk l then nPt l else 0
theorem crOk_bad {l : List UInt8} {k : Nat} (hk : k < nPt l) (h : rc (pt l k) = none) : crOk l = false := by
  unfold crOk
  rw [Bool.and_eq_false_iff]
  exact .inl (by rw [decide_eq_false_iff_not]; exact fun hh => by have := hh k hk; rw [h] at this; cases this)
theorem crOk_many {l : List UInt8} (h : 256 < nPt l) : crOk l = false := by
  unfold crOk
  rw [Bool.and_eq_false_iff]
  exact .inr (by rw [decide_eq_false_iff_not]; omega)
theorem crOk_yes {l : List UInt8} (h : ∀ i, i < nPt l → (rc (pt l i)).isSome = true) (h2 : nPt l ≤ 256) : crOk l = true := by
  unfold crOk
  rw [decide_eq_true h, decide_eq_true h2]
  rfl
theorem crN_le (l : List UInt8) : crN l ≤ 256 := by
  unfold crN
  split
  · rename_i h
    unfold crOk at h
    simp at h
    omega
  · omega
theorem crN_no {l : List UInt8} (h : crOk l = false) : crN l = 0 := by unfold crN; rw [h]; rfl
theorem crN_yes {l : List UInt8} (h : crOk l = true) : crN l = nPt l := by unfold crN; rw [h]; rfl
theorem crOk_none {s : ByteArray} (h : noneB s) : crOk s.data.toList = true ∧ crN s.data.toList = 0 := by
  have h0 := nPt_none h
  have h1 : crOk s.data.toList = true := crOk_yes (by intro i hi; omega) (by omega)
  exact ⟨h1, by rw [crN_yes h1, h0]⟩
theorem cr_of {l : List UInt8} {k a b : Nat} (h : rc (pt l k) = some (a, b)) : crA l k = a ∧ crB l k = b := by
  unfold crA crB
  rw [h]
  exact ⟨rfl, rfl⟩
/-- the two numbers read stand to their piece -/
def Rd2 (p : List UInt8) (x y : Nat) : Prop := p.length = 16 ∧ (∀ v, hv (p.take 8) = some v → x = v) ∧ ∀ v, hv (p.drop 8) = some v → y = v
theorem hc_split {p : List UInt8} {x y : Nat} : hx x ++ hx y = p ↔ hx x = p.take 8 ∧ hx y = p.drop 8 := by
  constructor
  · intro e
    have h1 : (hx x ++ hx y).take 8 = hx x := List.take_left' (hx_len x)
    have h2 : (hx x ++ hx y).drop 8 = hx y := List.drop_left' (hx_len x)
    rw [e] at h1 h2
    exact ⟨h1.symm, h2.symm⟩
  · intro ⟨e1, e2⟩
    rw [e1, e2, List.take_append_drop]
theorem rc_ask {p : List UInt8} {x y : Nat} (h1 : x < 4294967296) (h2 : y < 4294967296) (hr : Rd2 p x y) : hx x ++ hx y = p ↔ rc p = some (x, y) := by
  rw [hc_split, rn_ask h1 hr.2.1, rn_ask h2 hr.2.2]
  constructor
  · intro ⟨e1, e2⟩
    exact rc_yes e1 e2
  · intro e
    have := rc_some e
    exact ⟨this.1, this.2.1⟩
theorem readC_yes {l : List UInt8} {f g : Nat → Nat} (h32 : ∀ j, f j < 4294967296 ∧ g j < 4294967296) (hr : ∀ j, j < nPt l → Rd2 (pt l j) (f j) (g j)) (hn : nPt l ≤ 256) (e : ∀ i, i < nPt l → hcX f g i = pt l i) : crOk l = true ∧ ∀ i, i < nPt l → f i = crA l i ∧ g i = crB l i := by
  have h1 : ∀ i, i < nPt l → rc (pt l i) = some (f i, g i) := fun i hi => (rc_ask (h32 i).1 (h32 i).2 (hr i hi)).1 (e i hi)
  exact ⟨crOk_yes (fun i hi => by rw [h1 i hi]; rfl) hn, fun i hi => ⟨(cr_of (h1 i hi)).1.symm, (cr_of (h1 i hi)).2.symm⟩⟩
theorem readC_no {l : List UInt8} {f g : Nat → Nat} (h32 : ∀ j, f j < 4294967296 ∧ g j < 4294967296) (hr : ∀ j, j < nPt l → Rd2 (pt l j) (f j) (g j)) (e : ¬ ∀ i, i < nPt l → hcX f g i = pt l i) : crOk l = false := by
  cases ho : crOk l with
  | false => rfl
  | true =>
    exfalso
    apply e
    intro i hi
    unfold crOk at ho
    simp only [Bool.and_eq_true, decide_eq_true_eq] at ho
    have hs := ho.1 i hi
    cases h1 : rc (pt l i) with
    | none => rw [h1] at hs; cases hs
    | some v =>
      have h2 := rc_some h1
      have e1 := (hr i hi).2.1 v.1 (rn_some h2.1).2.1
      have e2 := (hr i hi).2.2 v.2 (rn_some h2.2.1).2.1
      exact (rc_ask (h32 i).1 (h32 i).2 (hr i hi)).2 (by rw [h1, e1, e2])
/-- a slice of complex64 of the call's own: the first k of the numbers f, g -/
def COwn (w : World) (B : Nat) (v : Value) (f g : Nat → Nat) (k : Nat) : Prop := w.ownsRow B 24 1 v k ((List.range k).map fun i => .complex .f32 (f i) (g i))
theorem COwn.more {w : World} {B : Nat} {v : Value} {f g : Nat → Nat} {k : Nat} {x y : Nat} (hx : x = f k) (hy : y = g k) (h : w.ownsRow B 24 1 v (k + 1) (((List.range k).map fun i => .complex .f32 (f i) (g i)) ++ [.complex .f32 x y])) : COwn w B v f g (k + 1) := by
  subst hx hy
  unfold COwn
  rw [List.range_succ, List.map_append]
  exact h
theorem info_c64 : (Tryz.prog.info? 24).map (fun i => (i.zero, i.size, i.bytes)) = some (some (.complex .f32 0 0), 1, 8) := by kernel_rfl
/-- what both readings give -/
def GaveC (w w' : World) (e : Ending) (s : ByteArray) : Prop :=
  ∃ A c, e = .returned (.tuple #[.slice A (crN s.data.toList) c, .bool (crOk s.data.toList)]) ∧ OwnV w' 24 A (crN s.data.toList) (fun i => .complex .f32 (crA s.data.toList i) (crB s.data.toList i)) w.heap.size w'.heap.size ∧ Below w.heap.size w w'
end Go.Proofs.YtmpeogpmlgnmfaaGreatDoor
/- The reference's reading of eight digits and of a list of complex numbers. -/
namespace Go.Proofs.YtmpeogpmlgnmfaaGreatDoor
set_option maxRecDepth 100000
open Go.RowKit Go.Deep Flt

theorem head8 (Q : ByteArray) : Q.extract 0 8 = ⟨(Q.data.toList.take 8).toArray⟩ := by rw [extract_piece]; simp
theorem tail8 (Q : ByteArray) (h : Q.size = 16) : Q.extract 8 16 = ⟨(Q.data.toList.drop 8).toArray⟩ := by
  rw [extract_piece]
  have : (Q.data.toList.drop 8).length ≤ 16 - 8 := by rw [List.length_drop, ← Lib.size_eq, h]; omega
  rw [List.take_of_length_le this]
theorem head8_size (Q : ByteArray) (h : Q.size = 16) : (Q.extract 0 8).size = 8 := by rw [ByteArray.size_extract, h]; rfl
theorem tail8_size (Q : ByteArray) (h : Q.size = 16) : (Q.extract 8 16).size = 8 := by rw [ByteArray.size_extract, h]; rfl
end Go.Proofs.YtmpeogpmlgnmfaaGreatDoor
/- The program's reading of a list of complex numbers; both texts' ReadComplex. -/
namespace Go.Proofs.YtmpeogpmlgnmfaaGreatDoor
set_option maxRecDepth 100000
open Go.RowKit Go.Deep Flt

/-- append to a slice of the call's own, as one step of a region that draws its order -/
theorem step_append_own {P : Program} {ops : Array Oper} {o : Oper} {a : Act} {w : World} {K : Act → World → Prop} {Q : Exit → Act → World → Prop} {E : Prop}
    (hg : o.guard = none) (s x : Operand) (t : TypeId) (ho : o.op = .call { callee := .builtin .append, args := #[s, x], argTypes := #[t, t] })
    (base : Nat) (e : TypeId) (i : TypeInfo) (z : Value) (size bytes : Nat) (ht : P.underlying t = some (.slice e)) (hi : P.info? e = some i) (hz : i.zero = some z)
    (hsize : i.size = size) (hby : i.bytes = bytes) (hzs : z.cells.size = size) (hsz : 0 < size)
    (v : Value) (n : Nat) (xs : List Value) (hs : a.eval s = v) (hown : w.ownsRow base e size v n xs)
    (ad : Addr) (m c : Nat) (news : List Value) (hx : a.eval x = .slice (some ad) m c) (hl : news.length = m * size) (hnews : ∀ j u, news[j]? = some u → w.cell? (ad.add j) = some u) (h1 : ∀ u ∈ news, u.oneCell' = true)
    (h63 : n + m ≤ maxLen) (hbytes : (n + m) * bytes ≤ 140737488355328) (hbase : base ≤ w.heap.size)
    (h : ∀ v' w', w'.ownsRow base e size v' (n + m) (xs ++ news) → w.grownBy w' v.ownBlock → (v' = .slice none 0 0 ↔ v = .slice none 0 0 ∧ m = 0) → K (a.put o.dst v') w') :
    if Region.wanted o (yielded ops a.tmps) = true then Oper.wp P o a w K Q else E := by
  have hw : Region.wanted o (yielded ops a.tmps) = true := by simp [Region.wanted, hg]
  rw [if_pos hw]
  exact wp_append_own w s x t ho base e i z size bytes ht hi hz hsize hby hzs hsz v n xs hs hown ad m c news hx hl hnews h1 h63 hbytes hbase h
theorem hcX_ne (f g : Nat → Nat) (i : Nat) : ∀ c ∈ hcX f g i, c ≠ 44 := fun c h => by
  rcases List.mem_append.1 h with h1 | h1
  · exact hexN_ne 8 _ c h1
  · exact hexN_ne 8 _ c h1
set_option maxRecDepth 100000 in
set_option maxHeartbeats 2000000 in
theorem readComplexI (s : ByteArray) (w : World) (hs : s.size ≤ 1048576) (hm : Maxi w) (hp : Tz w) (he : Errs w) :
    Calls Tryz.prog 18 #[.string s] w fun e w' => GaveC w w' e s := by
  obtain ⟨i0, hi0, hz0, hz1, hz2⟩ := info_parts info_c64
  have HM := Lib.hid hm
  have HP := Lib.hid hp
  have HE := Lib.hid he
  have HLL := Lib.hid (show s.data.toList.length = s.size by simp)
  have HCut := Lib.hid (fun W h => pieces_any s W hs h)
  have HTS := Lib.hid (fun F h => text_same s F h)
  have HSE := Lib.hid (fun x h => And.intro (str_eq s x h) (str_eq' s x h))
  have HSN := Lib.hid (fun x h => And.intro (str_ne s x h) (str_ne' s x h))
  have hnp : nPt s.data.toList ≤ s.size + 1 := by
    by_cases hn : noneB s
    · rw [nPt_none hn]; omega
    · rw [(nPt_some hn).1, ← HLL.out]
      exact cutL_count _
  clear hm hp he
  go_enter Tryz.func18, Tryz.ntmps18
  go_wp2_with fail
  refine (HCut.out _ (HM.out.below ((Below.refl _ _).alloc (Nat.le_refl _) _))).mono ?_
  rintro e w1 ⟨hparts, hb⟩
  have HB1 := Lib.hid (((Below.refl w.heap.size w).alloc (Nat.le_refl _) _).trans (hb.mono (by simp)))
  have HO1 := Lib.hid (owns_below (World.ownsRow_lit (base := w.heap.size) (e := 24) (size := 1) w #[] 0 (Nat.le_refl _) (by decide) rfl) hb)
  clear hb
  obtain ⟨A0, c0, HA0, HPA⟩ : ∃ A0 c0, Hid (e = .returned (.slice A0 (nPt s.data.toList) c0)) ∧ Hid (nPt s.data.toList = 0 ∨ ∃ g cur, A0 = some ⟨g, 0, none⟩ ∧ SBlk w1 g cur ∧ ∀ i, i < nPt s.data.toList → w1.cell? ⟨g, i, none⟩ = some (.string ⟨(pt s.data.toList i).toArray⟩)) := by
    rcases hparts with ⟨h0, rfl⟩ | ⟨g, cap, cur, rfl, hblk, hcell⟩
    · exact ⟨none, 0, Lib.hid (by rw [h0]), Lib.hid (.inl h0)⟩
    · exact ⟨_, _, Lib.hid rfl, Lib.hid (.inr ⟨g, cur, rfl, hblk, hcell⟩)⟩
  clear hparts
  obtain rfl := HA0.out
  clear HA0
  go_wp2
  go_loopw [4, 13] (fun tv ti wx => ∃ (v : Value) (k : Nat) (f g : Nat → Nat), v = tv ∧ ti = .int .i64 k ∧ k ≤ nPt s.data.toList ∧ k ≤ 256 ∧ COwn wx w.heap.size v f g k ∧ Hid ((∀ j, f j < 4294967296 ∧ g j < 4294967296) ∧ ∀ j, j < k → Rd2 (pt s.data.toList j) (f j) (g j)) ∧ Below w.heap.size w wx ∧ Hid (∀ g cur, SBlk w1 g cur → wx.heap[g]? = w1.heap[g]?)) (fun _ ti _ => nPt s.data.toList - (intOf ti).toNat)
  case atStart => exact ⟨_, 0, fun _ => 0, fun _ => 0, rfl, rfl, Nat.zero_le _, Nat.zero_le _, HO1.out, Lib.hid ⟨fun _ => (by show (0 : Nat) < 4294967296 ∧ (0 : Nat) < 4294967296; decide), fun j hj => by omega⟩, HB1.out, Lib.hid fun _ _ _ => rfl⟩
  case round =>
    obtain ⟨v, k, f, g2, rfl, rfl, hk, hk256, hown, HF, hbel, HBB⟩ := hrel
    have HN := Lib.hid hown
    have HB := Lib.hid hbel
    clear hown hbel
    by_cases hlt : k < nPt s.data.toList
    · have hlt' : (k : Int) < (nPt s.data.toList : Int) := by omega
      rcases HPA.out with h0 | ⟨g, cur, rfl, hblk, hcell⟩
      · omega
      have ck : wr.cell? ⟨g, k, none⟩ = some (.string ⟨(pt s.data.toList k).toArray⟩) := (World.cell?_of_block (w := w1) (HBB.out g cur hblk)).trans (hcell k hlt)
      have HS1 := Lib.hid hblk
      clear hcell hblk
      have HBad := Lib.hid (fun h => crOk_bad hlt h)
      generalize hpt : pt s.data.toList k = q at ck HBad
      have HPT := Lib.hid hpt
      clear hpt
      obtain ⟨Q, hQ⟩ : ∃ Q : ByteArray, Q = ⟨q.toArray⟩ := ⟨_, rfl⟩
      have hQs : Q.size = q.length := by rw [hQ]; simp [ByteArray.size]
      have hQd : Q.data.toList = q := by rw [hQ]
      rw [← hQ] at ck
      clear hQ
      obtain ⟨A1, c1, hv1⟩ : ∃ A1 c1, v = .slice A1 k c1 := by
        obtain ⟨A, c, e, _⟩ := OwnV.of_map HN.out
        exact ⟨A, c, e⟩
      by_cases h16 : q.length = 16
      · have hs16 : Q.size = 16 := by omega
        have h16' : ((Q.size : Int) != 16) = false := by rw [hs16]; rfl
        have h8a : (8 : Int) ≤ (Q.size : Int) := by rw [hs16]; decide
        by_cases hfull : k = 256
        · have hko := crOk_many (l := s.data.toList) (by omega)
          have E1 := Lib.hid hko
          have E2 := Lib.hid (crN_no hko)
          have hfk : ((k : Int) == 256) = true := by rw [hfull]; rfl
          subst hv1
          clear hko hfull h16 hQs hQd hs16 h8a
          go_wp2
          go_ret2
          exact ⟨_, _, by rw [E1.out, E2.out]; rfl, by rw [E2.out]; exact .inl rfl, HB.out⟩
        · have hfk : ((k : Int) == 256) = false := by simp; omega
          have hd1 : (Q.extract 0 8).data.toList = q.take 8 := by rw [head8, hQd]
          have hd2 : (Q.extract 8 16).data.toList = q.drop 8 := by rw [tail8 Q hs16, hQd]
          have HR1 := Lib.hid (fun W (h : Errs W) => show Calls Tryz.prog 50 #[.string (Q.extract 0 8)] W fun e w' => RhO (q.take 8) e ∧ Below W.heap.size W w' by
            have := readHex_any (Q.extract 0 8) (head8_size Q hs16) W h; rw [hd1] at this; exact this)
          have HR2 := Lib.hid (fun W (h : Errs W) => show Calls Tryz.prog 50 #[.string (Q.extract 8 Q.size)] W fun e w' => RhO (q.drop 8) e ∧ Below W.heap.size W w' by
            have := readHex_any (Q.extract 8 16) (tail8_size Q hs16) W h; rw [hd2] at this; rw [hs16]; exact this)
          have H16 := Lib.hid h16
          subst hv1
          have HBD := Lib.hid (HB.out.trans ((below_drewN' wr 1).mono HB.out.size))
          have HND := Lib.hid (show wr.drew.ownsRow w.heap.size 24 1 (.slice A1 k c1) k ((List.range k).map fun i => .complex .f32 (f i) (g2 i)) from owns_below HN.out (below_drewN' wr 1))
          have HBBD := Lib.hid (show ∀ g cur, SBlk w1 g cur → wr.drew.heap[g]? = w1.heap[g]? from fun g cur h => HBB.out g cur h)
          have HED := Lib.hid (show Errs wr.drew from HE.out.below HBD.out)
          clear h16 hQs hQd hd1 hd2 hs16
          go_wp2
          go_region_law (first
            | ((refine step_append_own rfl (.tmp 25) (.tmp 33) 25 rfl w.heap.size 24 i0 (.complex .f32 0 0) 1 8 Tryz.underlying25 hi0 hz0 hz1 hz2 rfl (by decide) _ k ((List.range k).map fun i => .complex .f32 (f i) (g2 i)) rfl (World.ownsRow.alloc HN3.out _) ⟨w3.heap.size, 0, none⟩ 1 1 [.complex .f32 x y] rfl rfl (news_cells rfl) (by intro u hu; simp at hu; rcases hu with rfl; rfl) (by unfold maxLen; omega) (by omega) (by have := HB3.out.size; simp <;> omega) ?_); intro v' w4 hown1 hgrow _; have HV4 := Lib.hid hown1; have HG4 := Lib.hid hgrow; clear hown1 hgrow)
            | (go_simp; go_at_call 50; (with_reducible refine (HR1.out _ HED.out).mono ?_); rintro e w2 ⟨⟨x, hx, hxv, rfl⟩, hb2⟩; have HX := Lib.hid hxv; have HN2 := Lib.hid (owns_below HND.out hb2); have HB2 := Lib.hid (HBD.out.trans (hb2.mono HBD.out.size)); have HBB2 := Lib.hid (show ∀ g cur, SBlk w1 g cur → w2.heap[g]? = w1.heap[g]? from fun g cur h => (hb2.block g (h.of_eq (HBBD.out g cur h)).lt).trans (HBBD.out g cur h)); clear hb2 hxv)
            | (go_simp; go_at_call 50; (with_reducible refine (HR2.out _ (HE.out.below HB2.out)).mono ?_); rintro e w3 ⟨⟨y, hy, hyv, rfl⟩, hb3⟩; have HY := Lib.hid hyv; have HN3 := Lib.hid (owns_below HN2.out hb3); have HB3 := Lib.hid (HB2.out.trans (hb3.mono HB2.out.size)); have HBB3 := Lib.hid (show ∀ g cur, SBlk w1 g cur → w3.heap[g]? = w1.heap[g]? from fun g cur h => (hb3.block g (h.of_eq (HBB2.out g cur h)).lt).trans (HBB2.out g cur h)); clear hb3 hyv))
          all_goals
            have HN5 := Lib.hid (show COwn w4 w.heap.size v' (updF f k x) (updF g2 k y) (k + 1) by
              refine COwn.more (updF_at f k x).symm (updF_at g2 k y).symm ?_
              have e : ((List.range k).map fun i => Value.complex .f32 (f i) (g2 i)) = (List.range k).map fun i => Value.complex .f32 (updF f k x i) (updF g2 k y i) := List.map_congr_left fun i hi => by rw [updF_lt f (by simpa using hi), updF_lt g2 (by simpa using hi)]
              rw [← e]
              exact HV4.out)
            have HB5 := Lib.hid ((HB3.out.alloc HB3.out.size _).grown HG4.out (by have := HB3.out.size; simp; omega) (fun k hk => (HN3.out.lt k hk).1))
            have HBB5 := Lib.hid (show ∀ g cur, SBlk w1 g cur → w4.heap[g]? = w1.heap[g]? from fun g cur h => by
              have hs2 := h.of_eq (HBB3.out g cur h)
              exact ((HG4.out.block g (by have := hs2.lt; simp; omega) (hs2.not_ownF (by decide) HN3.out)).trans (blk_alloc_lt _ _ _ hs2.lt)).trans (HBB3.out g cur h))
            have HF5 := Lib.hid (show (∀ j, updF f k x j < 4294967296 ∧ updF g2 k y j < 4294967296) ∧ ∀ j, j < k + 1 → Rd2 (pt s.data.toList j) (updF f k x j) (updF g2 k y j) from
              ⟨fun j => by unfold updF; split; (· exact ⟨hx, hy⟩); (· exact HF.out.1 j), fun j hj => by
                by_cases e : j = k
                · subst e
                  rw [updF_at, updF_at, HPT.out]
                  exact ⟨H16.out, HX.out, HY.out⟩
                · rw [updF_lt f (by omega), updF_lt g2 (by omega)]
                  exact HF.out.2 j (by omega)⟩)
            clear HV4 HG4
            go_wp2
            go_roundw
            case rel => exact ⟨_, k + 1, updF f k x, updF g2 k y, rfl, by go_num, by omega, by omega, HN5.out, HF5, HB5.out, HBB5⟩
            case measure => simp [intOf]; omega
      · have h16' : ((Q.size : Int) != 16) = true := by simp; omega
        have hko := HBad.out (rc_short h16)
        have E1 := Lib.hid hko
        have E2 := Lib.hid (crN_no hko)
        clear hko h16 hQs hQd
        go_wp2
        go_ret2
        exact ⟨_, _, by rw [E1.out, E2.out]; rfl, by rw [E2.out]; exact .inl rfl, HB.out⟩
    · have hke : k = nPt s.data.toList := by omega
      obtain ⟨A, cA, rfl, ho⟩ := OwnV.of_map HN.out
      have HO := Lib.hid ho
      have HT := Lib.hid (complexText_yes A f g2 k cA wr ho.rowC HF.out.1 (HP.out.below HB.out) hk256)
      have HK := Lib.hid hke
      have hnl : ¬ (k : Int) < (nPt s.data.toList : Int) := by omega
      clear ho hlt hke
      by_cases hsame : ∀ i, i < nPt s.data.toList → hcX f g2 i = pt s.data.toList i
      · obtain ⟨hko, hvs⟩ := readC_yes (l := s.data.toList) HF.out.1 (fun j hj => HF.out.2 j (by have := HK.out; omega)) (by have := HK.out; omega) hsame
        have E1 := Lib.hid hko
        have E2 := Lib.hid ((crN_yes hko).trans HK.out.symm)
        have E3 := Lib.hid (HO.out.congr (g := fun i => .complex .f32 (crA s.data.toList i) (crB s.data.toList i)) fun i hi => by rw [(hvs i (by have := HK.out; omega)).1, (hvs i (by have := HK.out; omega)).2])
        have hj : joinT (hcX f g2) k = s.data.toList := by rw [HK.out]; exact (HTS.out (hcX f g2) fun i => hcX_ne f g2 i).2 hsame
        obtain ⟨q1, q2⟩ := HSE.out _ hj
        clear hko hvs hj hsame
        generalize joinT (hcX f g2) k = t at *
        unfold strV at HT
        go_wp2_with fail
        refine HT.out.mono ?_
        rintro e w2 ⟨rfl, hb2⟩
        have HB2 := Lib.hid (HB.out.trans (hb2.mono HB.out.size))
        have E4 := Lib.hid ((E3.out.below hb2).more (Nat.le_refl _) hb2.size)
        clear hb2
        go_wp2
        go_ret2
        exact ⟨A, cA, by rw [E1.out, E2.out]; rfl, by rw [E2.out]; exact E4.out, HB2.out⟩
      · have hko := readC_no (l := s.data.toList) HF.out.1 (fun j hj => HF.out.2 j (by have := HK.out; omega)) hsame
        have E1 := Lib.hid hko
        have E2 := Lib.hid (crN_no hko)
        have hj : ¬ joinT (hcX f g2) k = s.data.toList := by rw [HK.out]; exact fun h => hsame ((HTS.out (hcX f g2) fun i => hcX_ne f g2 i).1 h)
        obtain ⟨q1, q2⟩ := HSN.out _ hj
        clear hko hj hsame
        generalize joinT (hcX f g2) k = t at *
        unfold strV at HT
        go_wp2_with fail
        refine HT.out.mono ?_
        rintro e w2 ⟨rfl, hb2⟩
        have HB2 := Lib.hid (HB.out.trans (hb2.mono HB.out.size))
        clear hb2
        go_wp2
        go_ret2
        exact ⟨_, _, by rw [E1.out, E2.out]; rfl, by rw [E2.out]; exact .inl rfl, HB2.out⟩
end Go.Proofs.YtmpeogpmlgnmfaaGreatDoor
