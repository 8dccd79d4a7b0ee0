/- The closed facts behind FnCircles: phasors of 64ths of turns, their angles and powers. The tables were printed by tools/mkcir.py. -/
import Derived.Test.YtmpeogpmlgnmfaaPhaI
import Derived.Test.YtmpeogpmlgnmfaaAngX
import Derived.Test.YtmpeogpmlgnmfaaRgI
namespace Go.Proofs.Ytmpeogpmlgnmfaa
open Go.RowKit Flt
set_option exponentiation.threshold 3000
def cirFs : List Nat := [0, 4580160821035794432, 4584664420663164928, 4586916220476850176, 4589168020290535424, 4590293920197378048, 4591419820104220672, 4592545720011063296, 4593671619917905920, 4594234569871327232, 4594797519824748544, 4595360469778169856, 4595923419731591168, 4596486369685012480, 4597049319638433792, 4597612269591855104, 4598175219545276416, 4598456694521987072, 4598738169498697728, 4599019644475408384, 4599301119452119040, 4599582594428829696, 4599864069405540352, 4600145544382251008, 4600427019358961664, 4600708494335672320, 4600989969312382976, 4601271444289093632, 4601552919265804288, 4601834394242514944, 4602115869219225600, 4602397344195936256, 4602678819172646912, 4602819556661002240, 4602960294149357568, 4603101031637712896, 4603241769126068224, 4603382506614423552, 4603523244102778880, 4603663981591134208, 4603804719079489536, 4603945456567844864, 4604086194056200192, 4604226931544555520, 4604367669032910848, 4604508406521266176, 4604649144009621504, 4604789881497976832, 4604930618986332160, 4605071356474687488, 4605212093963042816, 4605352831451398144, 4605493568939753472, 4605634306428108800, 4605775043916464128, 4605915781404819456, 4606056518893174784, 4606197256381530112, 4606337993869885440, 4606478731358240768, 4606619468846596096, 4606760206334951424, 4606900943823306752, 4607041681311662080]
def cirRs : List Nat := [1065353216, 1065272429, 1065030846, 1064630795, 1064076126, 1063372184, 1062525745, 1061544963, 1060439283, 1059219353, 1057896922, 1056004842, 1053028117, 1049927729, 1044891074, 1036565814, 0, 3184049462, 3192374722, 3197411377, 3200511765, 3203488490, 3205380570, 3206703001, 3207922931, 3209028611, 3210009393, 3210855832, 3211559774, 3212114443, 3212514494, 3212756077, 3212836864, 3212756077, 3212514494, 3212114443, 3211559774, 3210855832, 3210009393, 3209028611, 3207922931, 3206703001, 3205380570, 3203488490, 3200511765, 3197411377, 3192374722, 3184049462, 0, 1036565814, 1044891074, 1049927729, 1053028117, 1056004842, 1057896922, 1059219353, 1060439283, 1061544963, 1062525745, 1063372184, 1064076126, 1064630795, 1065030846, 1065272429]
def cirIs : List Nat := [0, 1036565814, 1044891074, 1049927729, 1053028117, 1056004842, 1057896922, 1059219353, 1060439283, 1061544963, 1062525745, 1063372184, 1064076126, 1064630795, 1065030846, 1065272429, 1065353216, 1065272429, 1065030846, 1064630795, 1064076126, 1063372184, 1062525745, 1061544963, 1060439283, 1059219353, 1057896922, 1056004842, 1053028117, 1049927729, 1044891074, 1036565814, 0, 3184049462, 3192374722, 3197411377, 3200511765, 3203488490, 3205380570, 3206703001, 3207922931, 3209028611, 3210009393, 3210855832, 3211559774, 3212114443, 3212514494, 3212756077, 3212836864, 3212756077, 3212514494, 3212114443, 3211559774, 3210855832, 3210009393, 3209028611, 3207922931, 3206703001, 3205380570, 3203488490, 3200511765, 3197411377, 3192374722, 3184049462]
def cirAs : List Nat := [0, 1015021568, 1023410176, 1027604479, 1031798784, 1033895936, 1035993088, 1038090240, 1040187392, 1041235968, 1042284544, 1043333120, 1044381696, 1045430272, 1046478848, 1047527424, 1048576000, 1049100288, 1049624576, 1050148864, 1050673152, 1051197440, 1051721728, 1052246016, 1052770304, 1053294592, 1053818880, 1054343168, 1054867456, 1055391744, 1055916032, 1056440320, 1056964608, 3203923968, 3203399680, 3202875392, 3202351104, 3201826816, 3201302528, 3200778240, 3200253952, 3199729664, 3199205376, 3198681088, 3198156800, 3197632512, 3197108224, 3196583936, 3196059648, 3195011072, 3193962496, 3192913920, 3191865344, 3190816768, 3189768192, 3188719616, 3187671040, 3185573888, 3183476736, 3181379584, 3179282432, 3175088127, 3170893824, 3162505216]
def cirPs : List Nat := [1065353216, 1065353216, 1065353215, 1065353216, 1065353215, 1065353216, 1065353216, 1065353215, 1065353215, 1065353215, 1065353216, 1065353216, 1065353215, 1065353216, 1065353215, 1065353216, 1065353216, 1065353216, 1065353215, 1065353216, 1065353215, 1065353216, 1065353216, 1065353215, 1065353215, 1065353215, 1065353216, 1065353216, 1065353215, 1065353216, 1065353215, 1065353216, 1065353216, 1065353216, 1065353215, 1065353216, 1065353215, 1065353216, 1065353216, 1065353215, 1065353215, 1065353215, 1065353216, 1065353216, 1065353215, 1065353216, 1065353215, 1065353216, 1065353216, 1065353216, 1065353215, 1065353216, 1065353215, 1065353216, 1065353216, 1065353215, 1065353215, 1065353215, 1065353216, 1065353216, 1065353215, 1065353216, 1065353215, 1065353216]
def cirRl : List Int := [1048576, 1043526, 1028427, 1003424, 968757, 924761, 871859, 810560, 741455, 665209, 582557, 494295, 401272, 304385, 204567, 102778, 0, -102779, -204568, -304386, -401273, -494296, -582558, -665210, -741456, -810561, -871860, -924762, -968758, -1003425, -1028428, -1043527, -1048576, -1043527, -1028428, -1003425, -968758, -924762, -871860, -810561, -741456, -665210, -582558, -494296, -401273, -304386, -204568, -102779, 0, 102778, 204567, 304385, 401272, 494295, 582557, 665209, 741455, 810560, 871859, 924761, 968757, 1003424, 1028427, 1043526]
def cirIl : List Int := [0, 102778, 204567, 304385, 401272, 494295, 582557, 665209, 741455, 810560, 871859, 924761, 968757, 1003424, 1028427, 1043526, 1048576, 1043526, 1028427, 1003424, 968757, 924761, 871859, 810560, 741455, 665209, 582557, 494295, 401272, 304385, 204567, 102778, 0, -102779, -204568, -304386, -401273, -494296, -582558, -665210, -741456, -810561, -871860, -924762, -968758, -1003425, -1028428, -1043527, -1048576, -1043527, -1028428, -1003425, -968758, -924762, -871860, -810561, -741456, -665210, -582558, -494296, -401273, -304386, -204568, -102779]
def fracW (k : Nat) : Nat := cirFs.getD k 0
def reT (k : Nat) : Nat := cirRs.getD k 0
def imT (k : Nat) : Nat := cirIs.getD k 0
def cirA (k : Nat) : Nat := cirAs.getD k 0
def powT (k : Nat) : Nat := cirPs.getD k 0
def lR (k : Nat) : Int := cirRl.getD k 0
def lI (k : Nat) : Int := cirIl.getD k 0
/-- 64ths of turns -/
def cirW (a : Int) : Option Nat := fop .quo .f64 (cls .f64 (floatOfInt .f64 a)) (cls .f64 4634204016564240384)
def cirB (s : Nat) : Nat := (cirW ((s : Int) - 256)).getD 0
def cirN (s : Nat) : Int := (Go.floatToIntVal .f64 (cirB s) .i64).getD 0
set_option maxRecDepth 100000 in
theorem cir_turn : ∀ s : Nat, s < 511 → (cirW ((s : Int) - 256) = some (cirB s) ∧ finC .f64 (cls .f64 (cirB s)) = true ∧ rung FloatKind.f64.format (cirB s) < 4841369599423283200 ∧ cirB s < 18446744073709551616 ∧ fr1 (fr0 (cirB s) (cirN s)) = some (fracW (s % 64))) := by decide +kernel
set_option maxRecDepth 100000 in
theorem cir_stop : ∀ k : Nat, k < 64 → ((∀ i : Nat, i < k / 16 → qtr (phF (some (fracW k)) i) = true) ∧ qtr (phF (some (fracW k)) (k / 16)) = false) := by decide +kernel
set_option maxRecDepth 100000 in
theorem cir_val : ∀ k : Nat, k < 64 → (phRe (k / 16) (phC (some (fracW k)) (k / 16)) (phS (some (fracW k)) (k / 16)) = some (reT k) ∧ phIm (k / 16) (phC (some (fracW k)) (k / 16)) (phS (some (fracW k)) (k / 16)) = some (imT k)) := by decide +kernel
set_option maxRecDepth 100000 in
theorem cir_ang : ∀ k : Nat, k < 64 → AngX.angC (imT k) (reT k) = some (cirA k) := by decide +kernel
theorem pha_at {s re im : Nat} (hs : s < 511) (h : Pha (cirB s) re im) : re = reT (s % 64) ∧ im = imT (s % 64) := by
  obtain ⟨_, h1, h2, _, h3⟩ := cir_turn s hs
  have hk := Nat.mod_lt s (show 0 < 64 by omega)
  obtain ⟨v1, v2⟩ := cir_val _ hk
  unfold Pha at h
  rw [if_pos h1, if_neg (by omega)] at h
  obtain ⟨j, hj, e1, e2⟩ := h
  have e : (Go.floatToIntVal .f64 (cirB s) .i64).getD 0 = cirN s := rfl
  rw [e, h3] at hj e1 e2
  obtain rfl := Stops.unique hj (show Stops _ (s % 64 / 16) from cir_stop _ hk)
  rw [v1] at e1
  rw [v2] at e2
  exact ⟨(cls_some e1).1.symm, (cls_some e2).1.symm⟩
theorem cir_fin : ∀ k : Nat, k < 64 → (cls .f32 (reT k) = some (reT k) ∧ cls .f32 (imT k) = some (imT k) ∧ cls .f32 (cirA k) = some (cirA k)) := by decide +kernel
/-- whether a class is no more than a number -/
def leB (c d : Option Nat) : Bool := ford .f64 c d == some .lt || ford .f64 c d == some .eq
def gtB (c d : Option Nat) : Bool := ford .f64 c d == some .gt
/-- the absolute difference -/
def gapC (a b : Option Nat) : Option Nat := if (ford .f64 a b == some .lt) = true then fop .sub .f64 b a else fop .sub .f64 a b
/-- the power, in 64 bits -/
def powD (k : Nat) : Nat := (fop .add .f64 (fop .mul .f64 (cls .f64 (conv .f32 .f64 (reT k))) (cls .f64 (conv .f32 .f64 (reT k)))) (fop .mul .f64 (cls .f64 (conv .f32 .f64 (imT k))) (cls .f64 (conv .f32 .f64 (imT k))))).getD 0
def sqR (k : Nat) : Nat := (fop .mul .f64 (cls .f64 (conv .f32 .f64 (reT k))) (cls .f64 (conv .f32 .f64 (reT k)))).getD 0
def sqI (k : Nat) : Nat := (fop .mul .f64 (cls .f64 (conv .f32 .f64 (imT k))) (cls .f64 (conv .f32 .f64 (imT k)))).getD 0
set_option maxRecDepth 100000 in
theorem cir_pow : ∀ k : Nat, k < 64 → (fop .mul .f64 (cls .f64 (conv .f32 .f64 (reT k))) (cls .f64 (conv .f32 .f64 (reT k))) = some (sqR k) ∧ fop .mul .f64 (cls .f64 (conv .f32 .f64 (imT k))) (cls .f64 (conv .f32 .f64 (imT k))) = some (sqI k) ∧ fop .add .f64 (cls .f64 (sqR k)) (cls .f64 (sqI k)) = some (powD k) ∧ fconv .f64 .f32 (cls .f64 (powD k)) = some (powT k) ∧ rungOf FloatKind.f32.format (rval FloatKind.f64.format (rung FloatKind.f64.format (powD k))) FloatKind.f64.format.leastPlace < FloatKind.f32.format.infRung ∧ gtB (gapC (cls .f64 (conv .f32 .f64 (powT k))) (cls .f64 4607182418800017408)) (cls .f64 4547007122018943789) = false) := by decide +kernel
/-- 64 times the angle, and what it exceeds its number by -/
def cirD (k : Nat) : Nat := (fop .mul .f64 (cls .f64 (conv .f32 .f64 (cirA k))) (cls .f64 4634204016564240384)).getD 0
def turnD (s : Nat) : Nat := (fop .sub .f64 (cls .f64 (cirD (s % 64))) (cls .f64 (floatOfInt .f64 ((s : Int) - 128)))).getD 0
def plusD (s : Nat) : Nat := (fop .add .f64 (cls .f64 (turnD s)) (cls .f64 4666723447345250304)).getD 0
def wholeD (s : Nat) : Int := (Go.floatToIntVal .f64 (plusD s) .i64).getD 0
set_option maxRecDepth 100000 in
theorem cir_angD : ∀ k : Nat, k < 64 → (fop .mul .f64 (cls .f64 (conv .f32 .f64 (cirA k))) (cls .f64 4634204016564240384) = some (cirD k)) := by decide +kernel
set_option maxRecDepth 100000 in
theorem cir_whole : ∀ s : Nat, s < 256 → (fop .sub .f64 (cls .f64 (cirD (s % 64))) (cls .f64 (floatOfInt .f64 ((s : Int) - 128))) = some (turnD s) ∧ fop .add .f64 (cls .f64 (turnD s)) (cls .f64 4666723447345250304) = some (plusD s) ∧ Go.floatToIntVal .f64 (plusD s) .i64 = some (wholeD s) ∧ 9000 ≤ wholeD s ∧ wholeD s ≤ 11000 ∧ (wholeD s - 10000).tmod 64 = 0 ∧ gtB (gapC (cls .f64 (turnD s)) (cls .f64 (floatOfInt .f64 (wholeD s - 10000)))) (cls .f64 4562254508917369340) = false) := by decide +kernel
set_option maxRecDepth 100000 in
theorem cir_axis : ∀ s : Nat, s < 256 → ((s : Int) - 128).tmod 16 = 0 → ((ford .f64 (gapC (cls .f64 (conv .f32 .f64 (reT (s % 64)))) (cls .f64 0)) (cls .f64 0) != some .eq) = false ∨ (ford .f64 (gapC (cls .f64 (conv .f32 .f64 (reT (s % 64)))) (cls .f64 0)) (cls .f64 4607182418800017408) != some .eq) = false) := by decide +kernel
/-- the bounds of the parts, in 2^-20 -/
def rgB32 (b : Nat) (l : Int) : Bool := decide (rung FloatKind.f64.format (conv .f32 .f64 b) < FloatKind.f64.format.infRung) && decide (l * ((2 ^ 1074 : Nat) : Int) ≤ sval FloatKind.f64.format (conv .f32 .f64 b) * ((2 ^ 20 : Nat) : Int)) && decide (sval FloatKind.f64.format (conv .f32 .f64 b) * ((2 ^ 20 : Nat) : Int) ≤ (l + 1) * ((2 ^ 1074 : Nat) : Int)) && decide (-1048576 ≤ l) && decide (l ≤ 1048576)
theorem cir_rg' : ∀ k : Nat, k < 64 → (rgB32 (reT k) (lR k) = true ∧ rgB32 (imT k) (lI k) = true) := by decide +kernel
theorem rgB32_some {b : Nat} {l : Int} (h : rgB32 b l = true) : Rg .f64 20 (some (conv .f32 .f64 b)) l (l + 1) ∧ -1048576 ≤ l ∧ l ≤ 1048576 := by
  simp only [rgB32, Bool.and_eq_true, decide_eq_true_eq] at h
  exact ⟨⟨_, rfl, h.1.1.1.1, conv_lt _ _ _, h.1.1.1.2, h.1.1.2⟩, h.1.2, h.2⟩
def nearB (k j : Nat) : Bool :=
  decide (lR k * lR j / 1048576 - lI k * lI j / 1048576 - lR ((k + j) % 64) ≤ 80) && decide (-80 ≤ lR k * lR j / 1048576 - lI k * lI j / 1048576 - lR ((k + j) % 64)) &&
  decide (lR k * lI j / 1048576 + lI k * lR j / 1048576 - lI ((k + j) % 64) ≤ 80) && decide (-80 ≤ lR k * lI j / 1048576 + lI k * lR j / 1048576 - lI ((k + j) % 64))
set_option maxRecDepth 100000 in
theorem cir_near : ∀ k : Nat, k < 64 → ∀ j : Nat, j < 64 → nearB k j = true := by decide +kernel
/-- the angle of the unit of the imaginary axis -/
theorem cir_unit : AngX.angC 1065353216 0 = some 1048576000 := by decide +kernel
end Go.Proofs.Ytmpeogpmlgnmfaa
