/- The program's reading of a decimal: the library's ParseInt, and the decimal of what it gives held against the text; the library's two errors as the rows list them. -/
import Derived.Test.YtmpeogpmlgnmfaaDoorRdS
import Derived.Test.YtmpeogpmlgnmfaaDoorDecI
import Derived.Test.YtmpeogpmlgnmfaaDoorShPI
import Derived.LaidLaws
import Derived.Stop.LaidErr
namespace Go.Proofs.YtmpeogpmlgnmfaaDoor
open Go.ChangeShapes Go.WideShapes Go.ChangeAt Go.RowKit Go.Deep Flt

def synName : String := Rows.fnExactReadDecimalRow.named.headD default
def rngName : String := (Rows.fnExactReadDecimalRow.named.drop 1).headD default
theorem syn_block : Tryd.prog.globalNamed synName = some 2 := by kernel_rfl
theorem rng_block : Tryd.prog.globalNamed rngName = some 3 := by kernel_rfl
theorem syn_type : (Tryd.prog.globals[2]?).map (·.type) = some 59 := by kernel_rfl
theorem rng_type : (Tryd.prog.globals[3]?).map (·.type) = some 59 := by kernel_rfl
theorem err_cells : Tryd.prog.cellsOf 132 = 1 := by kernel_rfl
theorem text_cells : Tryd.prog.cellsOf 9 = 1 := by kernel_rfl
theorem err_star : "*" ++ "errors.errorString" = "*errors.errorString" := by decide
theorem err_row (u : TypeId) (h : Tryd.prog.typeName? 3 u = some "*errors.errorString") : u = 130 :=
  typeName_ptr_named (nm := "errors.errorString") (by rw [err_star]; kernel_rfl) (by kernel_rfl) (by decide) u (by rw [err_star]; exact h)
/-- a variable of the library's that holds an error -/
def Sent (w : World) (n : String) : Prop := ∃ tp p, w.var? Tryd.prog n = some #[.iface tp p]
theorem Sent.below {w w' : World} {n : String} {g : Nat} (hg : Tryd.prog.globalNamed n = some g) (h : Sent w n) (hb : Below w.heap.size w w') : Sent w' n := by
  obtain ⟨tp, p, h⟩ := h
  have hc : w.cell? ⟨g, 0, none⟩ = some (.iface tp p) := by have h0 := World.var?_cell hg h 0; simpa using h0
  have hl := World.block_lt_of_cell? w _ hc
  refine ⟨tp, p, ?_⟩
  unfold World.var? at h ⊢
  rw [hg] at h ⊢
  simp only [Option.bind_some] at h ⊢
  rw [hb.block _ hl]
  exact h
/-- both of the library's errors stand in their variables -/
def Errs (w : World) : Prop := Sent w synName ∧ Sent w rngName
theorem Errs.below {w w' : World} (h : Errs w) (hb : Below w.heap.size w w') : Errs w' := ⟨h.1.below syn_block hb, h.2.below rng_block hb⟩
theorem sent_syn {W : World} {r : List (String × DataW Unit)} (h : laidMet Tryd.prog ((synName, Rows.laid_strconv_ErrSyntax) :: r) W) : Sent W synName := by
  obtain ⟨a, _, hv, _⟩ := laid_sentinel h syn_block syn_type Tryd.underlying59 err_row Tryd.underlying130 Tryd.underlying132 rfl rfl Tryd.underlying9 err_cells text_cells
  exact ⟨_, _, hv⟩
theorem sent_rng {W : World} {r : List (String × DataW Unit)} (h : laidMet Tryd.prog ((rngName, Rows.laid_strconv_ErrRange) :: r) W) : Sent W rngName := by
  obtain ⟨a, _, hv, _⟩ := laid_sentinel h rng_block rng_type Tryd.underlying59 err_row Tryd.underlying130 Tryd.underlying132 rfl rfl Tryd.underlying9 err_cells text_cells
  exact ⟨_, _, hv⟩

theorem parse_ok (s : ByteArray) (hs : s.size ≤ 1048576) (v : Int) (h : Lib.parseIntB 64 s.data.toList = .ok v) (w : World) :
    Calls Tryd.prog 47 #[.string s, .int .i64 10, .int .i64 64] w fun e w' => e = .returned (.tuple #[.int .i64 v, .nilIface]) ∧ Below w.heap.size w w' :=
  (show Calls Tryd.prog 47 #[.string s, .int .i64 10, .int .i64 64] w fun e w' => e = .returned (.tuple #[.int .i64 v, .nilIface]) ∧ (w' = w ∨ ∃ t, w' = Lib.bytesWorld w _ t) from Any.strconv_ParseInt_10_at64_ok Tryd.laysC174 s (by omega) v h w).mono
    fun _ _ ⟨he, hw⟩ => ⟨he, by
      rcases hw with rfl | ⟨t, rfl⟩
      · exact Below.refl _ _
      · exact Lib.bytesWorld_below _ _ _⟩
theorem parse_no (s : ByteArray) (hs : s.size ≤ 1048576) (h : ∀ v, ¬ Lib.parseIntB 64 s.data.toList = .ok v) (w : World) (he : Errs w) :
    Calls Tryd.prog 47 #[.string s, .int .i64 10, .int .i64 64] w fun e w' => (∃ v T N, e = .returned (.tuple #[.int .i64 v, .iface T (.pointer (some ⟨N, 0, none⟩))])) ∧ Below w.heap.size w w' := by
  obtain ⟨⟨tp, p, h1⟩, ⟨tq, q, h2⟩⟩ := he
  rcases hp : Lib.parseIntB 64 s.data.toList with v | _ | _
  · exact absurd hp (h v)
  · exact (Any.strconv_ParseInt_10_at64_syntax_var Tryd.laysC174 s (by omega) hp tp p w h1).mono fun _ _ ⟨N, e1, _, _, e4⟩ => ⟨⟨_, _, N, e1⟩, e4⟩
  · exact (Any.strconv_ParseInt_10_at64_range_var Tryd.laysC174 s (by omega) hp tq q w h2).mono fun _ _ ⟨N, e1, _, _, e4⟩ => ⟨⟨_, _, N, e1⟩, e4⟩
set_option maxHeartbeats 1000000 in
theorem readDecI (s : ByteArray) (w : World) (hs : s.size ≤ 1048576) (hp : Pow w) (he : Errs w) :
    Calls Tryd.prog 21 #[.string s] w fun e w' => e = .returned (rdT (rdR s.data.toList)) ∧ Below w.heap.size w w' := by
  by_cases hv : ∃ v, Lib.parseIntB 64 s.data.toList = .ok v
  · obtain ⟨v, hv⟩ := hv
    have hb := Lib.parseIntB_bounds hv
    have hb1 : -9223372036854775808 ≤ v ∧ v ≤ 9223372036854775807 := by have := hb; simp at this; omega
    have HP := Lib.hid (parse_ok s hs v hv w)
    clear hb
    cases hin : inB v (-1000000000000000) 1000000000000000
    · have HR := Lib.hid (rdR_parse (l := s.data.toList) (fun u hu h => by
        rw [hv] at hu
        cases hu
        have := h.1
        unfold okV at this
        rw [hin] at this
        cases this))
      clear hv hp he
      go_enter Tryd.func21, Tryd.ntmps21
      go_wp2_with fail
      refine HP.out.mono ?_
      rintro e w1 ⟨rfl, b1⟩
      have B1 := Lib.hid b1
      clear b1 HP
      go_wp2_with (first | (go_at_call 48; refine (isValue_any _ _).mono ?_; rw [hin]; rintro e w' ⟨rfl, rfl⟩))
      go_ret2
      exact ⟨by rw [HR.out]; rfl, B1.out⟩
    · have HD := Lib.hid (fun W (h : Pow W) => decimalI v hb1.1 hb1.2 W h)
      have HW := Lib.hid hp
      by_cases heq : Lib.itoa v = s.data.toList
      · have HR := Lib.hid (rdR_yes (l := s.data.toList) (v := v) ⟨hin, heq⟩)
        have q1 := str_eq s _ heq
        have q2 := str_eq' s _ heq
        clear hv hp he heq
        generalize Lib.itoa v = x at *
        go_enter Tryd.func21, Tryd.ntmps21
        go_wp2_with fail
        refine HP.out.mono ?_
        rintro e w1 ⟨rfl, b1⟩
        have B1 := Lib.hid b1
        clear b1 HP
        go_wp2_with (first | (go_at_call 48; refine (isValue_any _ _).mono ?_; rw [hin]; rintro e w' ⟨rfl, rfl⟩) | (go_at_call 11; refine (HD.out _ (HW.out.below B1.out)).mono ?_; rintro e w2 ⟨rfl, b2⟩; have B2 := Lib.hid (B1.out.trans (b2.mono B1.out.size)); clear b2))
        go_ret2
        exact ⟨by rw [HR.out]; rfl, B2.out⟩
      · have HR := Lib.hid (rdR_parse (l := s.data.toList) (fun u hu h => by
          rw [hv] at hu
          cases hu
          exact heq h.2))
        have q1 := str_ne s _ heq
        have q2 := str_ne' s _ heq
        clear hv hp he heq
        generalize Lib.itoa v = x at *
        go_enter Tryd.func21, Tryd.ntmps21
        go_wp2_with fail
        refine HP.out.mono ?_
        rintro e w1 ⟨rfl, b1⟩
        have B1 := Lib.hid b1
        clear b1 HP
        go_wp2_with (first | (go_at_call 48; refine (isValue_any _ _).mono ?_; rw [hin]; rintro e w' ⟨rfl, rfl⟩) | (go_at_call 11; refine (HD.out _ (HW.out.below B1.out)).mono ?_; rintro e w2 ⟨rfl, b2⟩; have B2 := Lib.hid (B1.out.trans (b2.mono B1.out.size)); clear b2))
        go_ret2
        exact ⟨by rw [HR.out]; rfl, B2.out⟩
  · have hn : ∀ v, ¬ Lib.parseIntB 64 s.data.toList = .ok v := fun v h => hv ⟨v, h⟩
    have HR := Lib.hid (rdR_parse (l := s.data.toList) (fun u hu _ => hn u hu))
    have HP := Lib.hid (parse_no s hs hn w he)
    clear hv hn hp he
    go_enter Tryd.func21, Tryd.ntmps21
    go_wp2_with fail
    refine HP.out.mono ?_
    rintro e w1 ⟨⟨v, T, N, rfl⟩, b1⟩
    have B1 := Lib.hid b1
    clear b1 HP
    go_wp2
    go_ret2
    exact ⟨by rw [HR.out]; rfl, B1.out⟩
end Go.Proofs.YtmpeogpmlgnmfaaDoor
