/- Contracts of the two texts' RankSumCount: a table of rows, filled in place. -/
import Derived.Test.YtcjkelnhikhbhaaNum
import Derived.Test.YtcjkelnhikhbhaaRscL
import Derived.LoopTactic
import Derived.Deep.OwnRows
import Derived.RegionTactic
import Derived.BigRegion
namespace Go.Proofs.Ytcjkelnhikhbhaa
open Go.RowKit Go.Deep Flt Rsc

theorem blk_ne {w : World} {g h : Nat} {t u : TypeId} {cs ds : Array Value} (hg : w.heap[g]? = some (.cells cs t (0, 0))) (hh : w.heap[h]? = some (.cells ds u (0, 0))) (hne : t ≠ u) : g ≠ h := by
  rintro rfl
  rw [hg] at hh
  injection hh with hh
  injection hh with _ ht
  exact hne ht
/-- a table of k + 1 rows of m numbers: the rows' blocks G, the numbers f -/
structure Tab (B : Nat) (w : World) (g : Nat) (G : Nat → Nat) (k m : Nat) (f : Nat → Nat → Nat) : Prop where
  outer : ∀ i, i ≤ k → w.cell? ⟨g, i, none⟩ = some (.slice (some ⟨G i, 0, none⟩) m m)
  row : ∀ i, i ≤ k → w.rowIs (G i) 2 m (fun t => .int .i64 (f i t : Int))
  inj : ∀ i j, i ≤ k → j ≤ k → G i = G j → i = j
  far : ∀ i, i ≤ k → G i ≠ g
  base : ∀ i, i ≤ k → B ≤ G i
theorem Tab.congr {B : Nat} {w : World} {g : Nat} {G : Nat → Nat} {k m : Nat} {f h : Nat → Nat → Nat} (H : Tab B w g G k m f) (e : ∀ i t, i ≤ k → t < m → f i t = h i t) : Tab B w g G k m h :=
  ⟨H.outer, fun i hi => (H.row i hi).congr fun t ht => by rw [e i t hi ht], H.inj, H.far, H.base⟩
theorem Tab.drew {B : Nat} {w : World} {g : Nat} {G : Nat → Nat} {k m : Nat} {f : Nat → Nat → Nat} (H : Tab B w g G k m f) : Tab B w.drew g G k m f := ⟨H.outer, H.row, H.inj, H.far, H.base⟩
theorem Tab.set {B : Nat} {w : World} {g : Nat} {G : Nat → Nat} {k m : Nat} {f : Nat → Nat → Nat} (H : Tab B w g G k m f) {i s : Nat} (hi : i ≤ k) (v : Nat) :
    Tab B (w.setCell ⟨G i, s, none⟩ (.int .i64 (v : Int))) g G k m (fun j t => if j = i ∧ t = s then v else f j t) := by
  refine ⟨fun j hj => ?_, fun j hj => ?_, H.inj, H.far, H.base⟩
  · rw [World.cell?_setCell_other _ _ _ _ (fun e => H.far i hi (by first | exact congrArg Addr.block e | exact (congrArg Addr.block e).symm))]
    exact H.outer j hj
  · by_cases e : j = i
    · subst e
      refine ((H.row j hj).set s _).congr fun t _ => ?_
      by_cases h : t = s
      · simp [h]
      · simp [h]
    · refine ((H.row j hj).setOther (fun h => e (H.inj _ _ hj hi h)) _).congr fun t _ => ?_
      simp [e]
theorem int_info : (Try.prog.info? 2).map (fun i => (i.zero, i.size, i.bytes)) = some (some (.int .i64 0), 1, 8) := by kernel_rfl
theorem row_info : (Try.prog.info? 54).map (fun i => (i.zero, i.size, i.bytes)) = some (some (.slice none 0 0), 1, 24) := by kernel_rfl

/-- what both texts tell -/
def rsOk (n k : Int) : Bool := inB n 1 24 && inB k 0 n
def rsFew (n k sum : Int) : Nat := if rsOk n k then sumTo (few n.toNat k.toNat sum) 301 else 0
def rsAll (n k : Int) : Nat := if rsOk n k then sumTo (T n.toNat k.toNat) 301 else 0

/-- the rows that are made so far -/
structure Made (B : Nat) (w : World) (G : Nat → Nat) (j m : Nat) : Prop where
  row : ∀ i, i < j → w.rowIs (G i) 2 m (fun _ => .int .i64 0)
  mono : ∀ i i', i < i' → i' < j → G i < G i'
  base : ∀ i, i < j → B ≤ G i
theorem Made.none_ (B : Nat) (w : World) (G : Nat → Nat) (m : Nat) : Made B w G 0 m := ⟨fun _ h => by omega, fun _ _ _ h => by omega, fun _ h => by omega⟩
theorem Made.inj {B : Nat} {w : World} {G : Nat → Nat} {j m : Nat} (h : Made B w G j m) : ∀ i i', i < j → i' < j → G i = G i' → i = i' := by
  intro i i' hi hi' e
  rcases Nat.lt_trichotomy i i' with h1 | h1 | h1
  · have := h.mono _ _ h1 hi'; omega
  · exact h1
  · have := h.mono _ _ h1 hi; omega
/-- one row more, in the newest block, the others as they were -/
theorem Made.more {B : Nat} {w w' : World} {G : Nat → Nat} {j m : Nat} (h : Made B w G j m) (hB : B ≤ w.heap.size) (hk : ∀ i, i < j → w'.heap[G i]? = w.heap[G i]?)
    (hn : w'.rowIs w.heap.size 2 m (fun _ => .int .i64 0)) : Made B w' (fun i => if i = j then w.heap.size else G i) (j + 1) m := by
  refine ⟨fun i hi => ?_, fun i i' h1 h2 => ?_, fun i hi => ?_⟩
  · by_cases e : i = j
    · simp only [e, if_true]; exact hn
    · simp only [e, if_false]; exact (h.row i (by omega)).of_block (hk i (by omega))
  · have e : i ≠ j := by omega
    by_cases e' : i' = j
    · simp only [e, e', if_true, if_false]; exact (h.row i (by omega)).lt
    · simp only [e, e', if_false]; exact h.mono _ _ h1 (by omega)
  · by_cases e : i = j
    · simp only [e, if_true]; exact hB
    · simp only [e, if_false]; exact h.base i (by omega)
/-- the slices of the rows -/
def rowsV (G : Nat → Nat) (j m : Nat) : List Value := (List.range j).map fun i => .slice (some ⟨G i, 0, none⟩) m m
theorem rowsV_len (G : Nat → Nat) (j m : Nat) : (rowsV G j m).length = j := by simp [rowsV]
theorem rowsV_at (G : Nat → Nat) (j m i : Nat) (h : i < j) : (rowsV G j m)[i]? = some (.slice (some ⟨G i, 0, none⟩) m m) := by simp [rowsV, h]
theorem rowsV_snoc (G : Nat → Nat) (j m h : Nat) : rowsV G j m ++ [.slice (some ⟨h, 0, none⟩) m m] = rowsV (fun i => if i = j then h else G i) (j + 1) m := by
  unfold rowsV
  rw [List.range_succ, List.map_append]
  simp only [List.map_cons, List.map_nil, if_true]
  congr 1
  apply List.map_congr_left
  intro i hi
  have : i ≠ j := by simp at hi; omega
  simp [this]
/-- the first table: no sets but the empty one -/
theorem tab_first : ∀ i t, (if i = 0 ∧ t = 0 then 1 else (fun _ _ => 0 : Nat → Nat → Nat) i t) = T (1 - 1) i t := by
  intro i t; rfl

theorem heap_lt {w : World} {g : Nat} {o : Obj} (h : w.heap[g]? = some o) : g < w.heap.size := by
  rcases Nat.lt_or_ge g w.heap.size with hlt | hge
  · exact hlt
  · rw [Array.getElem?_eq_none hge] at h; cases h
theorem own_ne {w : World} {base : Nat} {e t : TypeId} {size n m g : Nat} {v : Value} {xs : List Value} {f : Nat → Value} (h : w.ownsRow base e size v n xs) (hr : w.rowIs g t m f) (hne : e ≠ t) : some g ≠ v.ownBlock := by
  rcases h.2 with ⟨rfl, _⟩ | ⟨g', cap, cur, rfl, _, hh, _⟩
  · simp [Value.ownBlock]
  · obtain ⟨c, hc, _⟩ := hr
    intro he
    have hg : g = g' := by simpa [Value.ownBlock] using he
    exact blk_ne hc hh (Ne.symm hne) hg
theorem made_step {B : Nat} {w w1 : World} {G : Nat → Nat} {j m : Nat} {v : Value} {o : Obj} (h : Made B w G j m) (hB : B ≤ w.heap.size) {xs : List Value} (hown : w.ownsRow B 54 1 v j xs)
    (hg : ((w.alloc (.cells (madeCells #[.int .i64 0] m) 2)).alloc o).grownBy w1 v.ownBlock) : Made B w1 (fun i => if i = j then w.heap.size else G i) (j + 1) m := by
  have hz : ((w.alloc (.cells (madeCells #[.int .i64 0] m) 2)).alloc o).heap.size = w.heap.size + 2 := by simp
  have hnew := ((World.rowIs_made w (.int .i64 0) m 2).alloc o)
  have hne2 : some w.heap.size ≠ v.ownBlock := fun e => by have := (hown.lt _ e.symm).2; omega
  refine h.more hB (fun i hi => ?_) (hnew.of_block (hg.block _ (by omega) hne2))
  have hr := h.row i hi
  have hlt := hr.lt
  refine (hg.block (G i) (by omega) (own_ne hown hr (by decide))).trans ?_
  exact (blk_alloc_lt _ _ _ (by simp; omega)).trans (blk_alloc_lt _ _ _ hlt)
theorem news_one {w : World} {n : Nat} {v : Value} {t : TypeId} (hn : n = w.heap.size) : ∀ j u, [v][j]? = some u → (w.alloc (.cells #[v] t)).cell? ((⟨n, 0, none⟩ : Addr).add j) = some u := by
  subst hn
  intro j u h
  rcases j with _ | j
  · simp at h
    subst h
    show (w.alloc (.cells #[v] t)).cell? ⟨w.heap.size, 0, none⟩ = _
    go_simp
  · simp at h
theorem below_step {B : Nat} {w0 w w1 : World} {v : Value} {o o' : Obj} {base : Nat} {e : TypeId} {size n : Nat} {xs : List Value} (h : Below B w0 w) (hB : B ≤ w.heap.size) (hbase : B ≤ base) (hown : w.ownsRow base e size v n xs)
    (hg : ((w.alloc o).alloc o').grownBy w1 v.ownBlock) : Below B w0 w1 :=
  ((h.alloc hB o).alloc (by simp; omega) o').grown hg (by simp; omega) (fun k hk => Nat.le_trans hbase (hown.lt k hk).1)
theorem tab_made {B : Nat} {w : World} {v : Value} {G : Nat → Nat} {k m : Nat} (hown : w.ownsRow B 54 1 v (k + 1) (rowsV G (k + 1) m)) (hm : Made B w G (k + 1) m) :
    ∃ g cap, v = .slice (some ⟨g, 0, none⟩) (k + 1) cap ∧ B ≤ g ∧ Tab B w g G k m (fun _ _ => 0) := by
  rcases hown.2 with ⟨_, h⟩ | ⟨g, cap, cur, rfl, hb, hh, _⟩
  · omega
  · refine ⟨g, cap, rfl, hb, ⟨fun i hi => ?_, fun i hi => hm.row i (by omega), fun i j hi hj => hm.inj i j (by omega) (by omega), fun i hi => ?_, fun i hi => hm.base i (by omega)⟩⟩
    · rw [hown.cellAt i (by omega)]
      exact rowsV_at G (k + 1) m i (by omega)
    · obtain ⟨c, hc, _⟩ := hm.row i (by omega)
      exact blk_ne hc hh (by decide)
theorem tab_one {B : Nat} {w : World} {g : Nat} {G : Nat → Nat} {k m : Nat} (H : Tab B w g G k m (fun _ _ => 0)) : Tab B (w.setCell ⟨G 0, 0, none⟩ (.int .i64 1)) g G k m (T 0) :=
  (H.set (i := 0) (s := 0) (Nat.zero_le _) 1).congr fun i t _ _ => by unfold T; rfl
theorem Tab.below {B : Nat} {w0 w : World} {g : Nat} {G : Nat → Nat} {k m : Nat} {f : Nat → Nat → Nat} (H : Tab B w g G k m f) (h : Below B w0 w) {i : Nat} (hi : i ≤ k) (s : Nat) (v : Value) : Below B w0 (w.setCell ⟨G i, s, none⟩ v) :=
  h.setCell (H.base i hi) v
theorem Tab.upd {B : Nat} {w : World} {g : Nat} {G : Nat → Nat} {k m x p q av bv : Nat} (H : Tab B w g G k m (mid x (p + 1) (q + x))) (hx : 1 ≤ x) (hp : p + 1 ≤ k)
    (ha : av = mid x (p + 1) (q + x) (p + 1) (q + x)) (hb : bv = mid x (p + 1) (q + x) p q) :
    Tab B (w.setCell ⟨G (p + 1), q + x, none⟩ (.int .i64 ((av : Int) + (bv : Int)))).drew g G k m (mid x (p + 1) (q + x - 1)) := by
  have h := H.set hp (s := q + x) (av + bv)
  rw [Int.natCast_add] at h
  refine (h.congr fun j t _ _ => ?_).drew
  rw [mid_step hx (show 1 ≤ p + 1 by omega) (show x ≤ q + x by omega), show p + 1 - 1 = p by omega, show q + x - x = q by omega, ← ha, ← hb]
/-- the outer row while rows are made -/
def outerV (G : Nat → Nat) (j m i : Nat) : Value := if i < j then .slice (some ⟨G i, 0, none⟩) m m else .slice none 0 0
theorem fill_step {B g : Nat} {w : World} {G : Nat → Nat} {j m n : Nat} (h : Made B w G j m) (hg : g < B) (hB : B ≤ w.heap.size) (hr : w.rowIs g 54 n (outerV G j m)) :
    Made B ((w.alloc (.cells (madeCells #[.int .i64 0] m) 2)).setCell ⟨g, j, none⟩ (.slice (some ⟨w.heap.size, 0, none⟩) m m)) (fun i => if i = j then w.heap.size else G i) (j + 1) m ∧
    ((w.alloc (.cells (madeCells #[.int .i64 0] m) 2)).setCell ⟨g, j, none⟩ (.slice (some ⟨w.heap.size, 0, none⟩) m m)).rowIs g 54 n (outerV (fun i => if i = j then w.heap.size else G i) (j + 1) m) := by
  refine ⟨h.more hB (fun i hi => ?_) ((World.rowIs_made w (.int .i64 0) m 2).setOther (by show w.heap.size ≠ g; omega) _), ((hr.alloc _).set j _).congr fun i _ => ?_⟩
  · have hb := h.base i hi
    exact (blk_setCell_other _ _ _ _ (by show G i ≠ g; omega)).trans (blk_alloc_lt _ _ _ (h.row i hi).lt)
  · unfold outerV
    by_cases e : i = j
    · simp [e]
    · by_cases e2 : i < j
      · simp [e, e2, show i < j + 1 by omega]
      · simp [e, e2, show ¬ i < j + 1 by omega]
theorem tab_filled {B g : Nat} {w : World} {G : Nat → Nat} {k m : Nat} (h : Made (B + 1) w G (k + 1) m) (hr : w.rowIs B 54 (k + 1) (outerV G (k + 1) m)) (hg : g = B) : Tab B w g G k m (fun _ _ => 0) := by
  subst hg
  refine ⟨fun i hi => ?_, fun i hi => h.row i (by omega), fun i j hi hj => h.inj i j (by omega) (by omega), fun i hi => ?_, fun i hi => ?_⟩
  · rw [hr.cell (by omega)]
    unfold outerV
    rw [if_pos (by omega)]
  · have := h.base i (by omega); omega
  · have := h.base i (by omega); omega
end Go.Proofs.Ytcjkelnhikhbhaa
