/- Plain laws: permutations that keep the code: any five places are moved to the first five; tables of movers; what fixes seven places fixes all. -/
import Derived.Test.YteedbejlbjfkgaaWKp
import Derived.Test.YteedbejlbjfkgaaStn
set_option linter.unusedVariables false
namespace Go.Proofs.Yteedbejlbjfkgaa
open Res

/-- A permutation as one number: five bits a place. -/
def pk (P i : Nat) : Nat := Nat.mod (Nat.div P (Nat.pow 32 i)) 32
def unL (P : Nat) : List Int := (List.range 24).map fun i => ((pk P i : Nat) : Int)
theorem unL_goes {P i : Nat} (hi : i < 24) : goes (unL P) i = pk P i := by
  unfold goes unL
  simp [List.getD, hi]
theorem unL_length (P : Nat) : (unL P).length = 24 := by simp [unL]

/-- Movers: the mover of the place x in row j fixes the rows' places before and moves x to the row's place. -/
def pT0 : List Nat := [984818244535754528103549039458486304, 727676631497327073735880915801966593, 517259427091746057422751631969189953, 903001333916822251726501233127590977, 653402313742794741222546576853044289, 804460793117191519750035980294425665, 733951576970522758216657162854337601, 444689760240049916986145283364752449, 894755622058155668331037059495103553, 733951147754509572374526758762974273, 444690143917217076366871321364270145, 804460838656037544909785846710930497, 970294849285738406351707212762713153, 487568276761732890825636977483844673, 889882271895039791916596031584865345, 937633745458807571807843875750546497, 439345165248751144702978055464946753, 761581909263096087858983152663006273, 980511537355864104794567107502279745, 562929412700366416285418650062687297, 298760312454599997046735033958796353, 258323833266424016147012353957956673, 291019286335410087861969626895354945, 8079274127422772626658704215903297]
def pT1 : List Nat := [0, 984818244535754528103549039458486304, 558796292865298251285157408185353280, 770549594538337025791379052699880512, 645574808853648476713202442835201088, 844457585007636856501771042980760640, 979246804784878731936708257912065088, 478561337275081533957500832972934208, 777927436169344475955215220097551424, 979246562498151303926181256021281856, 478561648107019782731072686740606016, 844457516462426034251122462274227264, 719767682096184142852752022926658624, 438282255356877765747380518018747456, 764212494293275380410874456973642816, 692338321856310652782022156255104064, 484770118482290970432953338210421824, 887251757582371776760295375239253056, 732538759204193996525869740335434816, 529057829475640173633861176478796864, 258521322771975278094437950544809024, 298604818587301461549510209409518656, 250819314015625051349503986953751616, 50875126088406802230160244611353664]
def pT2 : List Nat := [0, 0, 984818244535754528103549039458486304, 773064942862715753597327394943863840, 897390671632442358341084080555297824, 512239331122276742367386924634737696, 564190102461677442987312723652643872, 395251342002021349553990682341936160, 765038044316746358243585002530016288, 564189869843643574910516043303750688, 395251660179168570195707912257670176, 512239245563163388352052492069112864, 803077667250862244692198076776057888, 440561095307141850684988013320211488, 774193895668906516337882378639903776, 684478571306907016319120562651794464, 394229480388928334493256963024096288, 635435462810401379129753369221139488, 805238561940542852898961123128249376, 848386659991257222564531377629432864, 298762804729978450279779489087097888, 258404842602169708555251388998880288, 293615267611234908874682950012242976, 91156296096919387133414731350674464]
def pT3 : List Nat := [0, 0, 0, 984818244535754528103549039458486304, 735171958573087400342977539512338464, 513654222309531014401011525428054048, 570517103822288116832381236025624608, 400399314412462928271509990371624992, 972684403161971266202264298498164768, 570516757312410704781500526054475808, 400399782384245981537417605287118880, 513654100847625371772760583315785760, 928828804820350960286840710303451168, 485988628250706080411477241554405408, 976692210410575757737542440796162080, 849330194962787246012740480803145760, 392814743944330191717225055089985568, 594055582681983885121784865521535008, 929889142424734196977684087285352480, 682434757776915983919659369269168160, 258523770377886919691505014266791968, 298685668612097712437397365725464608, 253415650653075163584511071934875680, 133952022096668520196287765055408160]
def pT4 : List Nat := [0, 0, 0, 0, 984818244535754528103549039458486304, 858949331863002823319395354394331168, 811968732261179393142894961643063328, 639237760459021636985054523603126304, 731567130415172208020888424978417696, 811969098896639932853523422826825760, 639237594530554124825820047033337888, 858949131156009795284523478383953952, 942062847139407977688196501012056096, 901704731657234238994470131441174560, 727715719094702273680021714060281888, 517259308327541368524591195559659552, 641791501411087120790722979154724896, 601511865175290338467669250697955360, 940687031051031146934243822355449888, 689989993769417119227650086239569952, 298765576124846477203476638609803296, 258485939888939864223872324286384160, 296211545214183876856733029319673888, 174232894774416605849428777572075552]
def pT5 : List Nat := [0, 0, 0, 0, 0, 984818244535754528103549039458486304, 731566766103196255771554168461953056, 599036795462628385207956410495764512, 0, 0, 0, 0, 0, 0, 0, 0, 0, 0, 0, 0, 0, 0, 0, 0]
def pT6 : List Nat := [0, 0, 0, 0, 0, 0, 0, 0, 984818244535754528103549039458486304, 944538608299847986500403404283676704, 899228929685213603604377143448012832, 858949293449307062001231508273203232, 813305281892382493809563050358966304, 773025645656475952206417415184156704, 727715967041841569310391154348492832, 687436330805935027707245519173683232, 641791664978980845196560935860406304, 601512028743074303593415300685596704, 556202350128439920697389039849932832, 515922713892533379094243404675123232, 470278702335608810902574946760886304, 429999066099702269299429311586076704, 384689387485067886403403050750412832, 344409751249161344800257415575603232]
def pS : Nat := 930125494120438601888793841793827844

theorem keep0 : pT0.all (fun P => keepB (unL P)) = true := by decide +kernel
theorem keep1 : pT1.all (fun P => Nat.beq P 0 || keepB (unL P)) = true := by decide +kernel
theorem keep2 : pT2.all (fun P => Nat.beq P 0 || keepB (unL P)) = true := by decide +kernel
theorem keep3 : pT3.all (fun P => Nat.beq P 0 || keepB (unL P)) = true := by decide +kernel
theorem keep4 : pT4.all (fun P => Nat.beq P 0 || keepB (unL P)) = true := by decide +kernel
theorem keep5 : pT5.all (fun P => Nat.beq P 0 || keepB (unL P)) = true := by decide +kernel
theorem keep6 : pT6.all (fun P => Nat.beq P 0 || keepB (unL P)) = true := by decide +kernel
theorem keepS : keepB (unL pS) = true := by decide +kernel
theorem go0 : ∀ x, x < 24 → pk (pT0.getD x 0) x = 0 := by decide +kernel
theorem go1 : ∀ x, x < 24 → x ≠ 0 → pT1.getD x 0 ≠ 0 ∧ pk (pT1.getD x 0) 0 = 0 ∧ pk (pT1.getD x 0) x = 1 := by decide +kernel
theorem go2 : ∀ x, x < 24 → x ≠ 0 → x ≠ 1 → pT2.getD x 0 ≠ 0 ∧ pk (pT2.getD x 0) 0 = 0 ∧ pk (pT2.getD x 0) 1 = 1 ∧ pk (pT2.getD x 0) x = 2 := by decide +kernel
theorem go3B : ∀ x, x < 24 → (Nat.ble x 2 || (!Nat.beq (pT3.getD x 0) 0 && (Nat.beq (pk (pT3.getD x 0) 0) 0 && (Nat.beq (pk (pT3.getD x 0) 1) 1 && (Nat.beq (pk (pT3.getD x 0) 2) 2 && Nat.beq (pk (pT3.getD x 0) x) 3))))) = true := by decide +kernel
theorem go3 : ∀ x, x < 24 → x ≠ 0 → x ≠ 1 → x ≠ 2 → pT3.getD x 0 ≠ 0 ∧ pk (pT3.getD x 0) 0 = 0 ∧ pk (pT3.getD x 0) 1 = 1 ∧ pk (pT3.getD x 0) 2 = 2 ∧ pk (pT3.getD x 0) x = 3 := by
  intro x hx h0 h1 h2
  have h := go3B x hx
  simp only [Bool.or_eq_true, Bool.and_eq_true] at h
  rcases h with h | ⟨e0, e1, e2, e3, e4⟩
  · have := Nat.le_of_ble_eq_true h
    omega
  · exact ⟨fun e => by rw [e] at e0; exact absurd e0 (by decide), Nat.eq_of_beq_eq_true e1, Nat.eq_of_beq_eq_true e2, Nat.eq_of_beq_eq_true e3, Nat.eq_of_beq_eq_true e4⟩
theorem go4B : ∀ x, x < 24 → (Nat.ble x 3 || (!Nat.beq (pT4.getD x 0) 0 && (Nat.beq (pk (pT4.getD x 0) 0) 0 && (Nat.beq (pk (pT4.getD x 0) 1) 1 && (Nat.beq (pk (pT4.getD x 0) 2) 2 && (Nat.beq (pk (pT4.getD x 0) 3) 3 && Nat.beq (pk (pT4.getD x 0) x) 4)))))) = true := by decide +kernel
theorem go4 : ∀ x, x < 24 → x ≠ 0 → x ≠ 1 → x ≠ 2 → x ≠ 3 → pT4.getD x 0 ≠ 0 ∧ pk (pT4.getD x 0) 0 = 0 ∧ pk (pT4.getD x 0) 1 = 1 ∧ pk (pT4.getD x 0) 2 = 2 ∧ pk (pT4.getD x 0) 3 = 3 ∧ pk (pT4.getD x 0) x = 4 := by
  intro x hx h0 h1 h2 h3
  have h := go4B x hx
  simp only [Bool.or_eq_true, Bool.and_eq_true] at h
  rcases h with h | ⟨e0, e1, e2, e3, e4, e5⟩
  · have := Nat.le_of_ble_eq_true h
    omega
  · exact ⟨fun e => by rw [e] at e0; exact absurd e0 (by decide), Nat.eq_of_beq_eq_true e1, Nat.eq_of_beq_eq_true e2, Nat.eq_of_beq_eq_true e3, Nat.eq_of_beq_eq_true e4, Nat.eq_of_beq_eq_true e5⟩
theorem go5 : ∀ x, x < 8 → 5 ≤ x → pT5.getD x 0 ≠ 0 ∧ pk (pT5.getD x 0) 0 = 0 ∧ pk (pT5.getD x 0) 1 = 1 ∧ pk (pT5.getD x 0) 2 = 2 ∧ pk (pT5.getD x 0) 3 = 3 ∧ pk (pT5.getD x 0) 4 = 4 ∧ pk (pT5.getD x 0) x = 5 := by decide +kernel
theorem go6 : ∀ x, x < 24 → 8 ≤ x → pT6.getD x 0 ≠ 0 ∧ pk (pT6.getD x 0) 0 = 0 ∧ pk (pT6.getD x 0) 1 = 1 ∧ pk (pT6.getD x 0) 2 = 2 ∧ pk (pT6.getD x 0) 3 = 3 ∧ pk (pT6.getD x 0) 4 = 4 ∧ pk (pT6.getD x 0) 5 = 5 ∧ pk (pT6.getD x 0) x = 8 := by decide +kernel
theorem goS : pk pS 1 = 0 ∧ pk pS 2 = 1 ∧ pk pS 3 = 2 ∧ pk pS 4 = 3 := by decide +kernel
theorem row_keep {T : List Nat} (h : T.all (fun P => Nat.beq P 0 || keepB (unL P)) = true) {x : Nat} (hx : T.getD x 0 ≠ 0) : keepB (unL (T.getD x 0)) = true := by
  have hl : x < T.length := by
    rcases Nat.lt_or_ge x T.length with h1 | h1
    · exact h1
    · exact absurd (by simp [List.getD, h1]) hx
  have hm : T.getD x 0 ∈ T := by simp [List.getD, hl]
  have := List.all_eq_true.1 h _ hm
  rw [Bool.or_eq_true] at this
  rcases this with h1 | h1
  · exact absurd (Nat.eq_of_beq_eq_true h1) hx
  · exact h1
theorem row0_keep {x : Nat} (hx : x < 24) : keepB (unL (pT0.getD x 0)) = true := by
  have hl : x < pT0.length := hx
  have hm : pT0.getD x 0 ∈ pT0 := by simp [List.getD, hl]
  exact List.all_eq_true.1 keep0 _ hm

theorem tm_keep {p q : List Int} (h1 : keepB p = true) (h2 : keepB q = true) : keepB (tmL p q) = true := keep_times (keep_perm h1) (keep_perm h2) h1 h2
theorem keep_inj {p : List Int} (h : keepB p = true) {i j : Nat} (hi : i < 24) (hj : j < 24) (e : goes p i = goes p j) : i = j := goes_inj (permOk_ok (keep_perm h)).2 hi hj e
theorem keep_lt {p : List Int} (h : keepB p = true) {i : Nat} (hi : i < 24) : goes p i < 24 := goes_lt (permOk_ok (keep_perm h)).2 hi

/-- Any five places are moved to the first five. -/
theorem five_move {a b c d e : Nat} (ha : a < 24) (hb : b < 24) (hc : c < 24) (hd : d < 24) (he : e < 24)
    (h1 : b ≠ a) (h2 : c ≠ a) (h3 : c ≠ b) (h4 : d ≠ a) (h5 : d ≠ b) (h6 : d ≠ c) (h7 : e ≠ a) (h8 : e ≠ b) (h9 : e ≠ c) (h10 : e ≠ d) :
    ∃ h, keepB h = true ∧ goes h a = 0 ∧ goes h b = 1 ∧ goes h c = 2 ∧ goes h d = 3 ∧ goes h e = 4 := by
  have k0 := row0_keep ha
  have g0 : goes (unL (pT0.getD a 0)) a = 0 := by rw [unL_goes ha]; exact go0 a ha
  generalize unL (pT0.getD a 0) = u0 at k0 g0
  have hne : ∀ (u : List Int), keepB u = true → ∀ i j, i < 24 → j < 24 → i ≠ j → goes u i ≠ goes u j := fun u hu i j hi hj hij e => hij (keep_inj hu hi hj e)
  -- the second place
  have x1 := keep_lt k0 hb
  have n1 : goes u0 b ≠ 0 := by rw [← g0]; exact hne u0 k0 b a hb ha h1
  obtain ⟨z1, p10, p11⟩ := go1 _ x1 n1
  have r1 := row_keep keep1 z1
  have q10 : goes (unL (pT1.getD (goes u0 b) 0)) 0 = 0 := by rw [unL_goes (by omega)]; exact p10
  have q11 : goes (unL (pT1.getD (goes u0 b) 0)) (goes u0 b) = 1 := by rw [unL_goes x1]; exact p11
  generalize unL (pT1.getD (goes u0 b) 0) = v1 at r1 q10 q11
  have k1 := tm_keep k0 r1
  have g1a : goes (tmL u0 v1) a = 0 := by rw [tmL_goes _ _ ha, g0, q10]
  have g1b : goes (tmL u0 v1) b = 1 := by rw [tmL_goes _ _ hb, q11]
  generalize tmL u0 v1 = u1 at k1 g1a g1b
  -- the third
  have x2 := keep_lt k1 hc
  have n2 : goes u1 c ≠ 0 := by rw [← g1a]; exact hne u1 k1 c a hc ha h2
  have n2' : goes u1 c ≠ 1 := by rw [← g1b]; exact hne u1 k1 c b hc hb h3
  obtain ⟨z2, p20, p21, p22⟩ := go2 _ x2 n2 n2'
  have r2 := row_keep keep2 z2
  have q20 : goes (unL (pT2.getD (goes u1 c) 0)) 0 = 0 := by rw [unL_goes (by omega)]; exact p20
  have q21 : goes (unL (pT2.getD (goes u1 c) 0)) 1 = 1 := by rw [unL_goes (by omega)]; exact p21
  have q22 : goes (unL (pT2.getD (goes u1 c) 0)) (goes u1 c) = 2 := by rw [unL_goes x2]; exact p22
  generalize unL (pT2.getD (goes u1 c) 0) = v2 at r2 q20 q21 q22
  have k2 := tm_keep k1 r2
  have g2a : goes (tmL u1 v2) a = 0 := by rw [tmL_goes _ _ ha, g1a, q20]
  have g2b : goes (tmL u1 v2) b = 1 := by rw [tmL_goes _ _ hb, g1b, q21]
  have g2c : goes (tmL u1 v2) c = 2 := by rw [tmL_goes _ _ hc, q22]
  generalize tmL u1 v2 = u2 at k2 g2a g2b g2c
  -- the fourth
  have x3 := keep_lt k2 hd
  have n3 : goes u2 d ≠ 0 := by rw [← g2a]; exact hne u2 k2 d a hd ha h4
  have n31 : goes u2 d ≠ 1 := by rw [← g2b]; exact hne u2 k2 d b hd hb h5
  have n32 : goes u2 d ≠ 2 := by rw [← g2c]; exact hne u2 k2 d c hd hc h6
  obtain ⟨z3, p30, p31, p32, p33⟩ := go3 _ x3 n3 n31 n32
  have r3 := row_keep keep3 z3
  have q30 : goes (unL (pT3.getD (goes u2 d) 0)) 0 = 0 := by rw [unL_goes (by omega)]; exact p30
  have q31 : goes (unL (pT3.getD (goes u2 d) 0)) 1 = 1 := by rw [unL_goes (by omega)]; exact p31
  have q32 : goes (unL (pT3.getD (goes u2 d) 0)) 2 = 2 := by rw [unL_goes (by omega)]; exact p32
  have q33 : goes (unL (pT3.getD (goes u2 d) 0)) (goes u2 d) = 3 := by rw [unL_goes x3]; exact p33
  generalize unL (pT3.getD (goes u2 d) 0) = v3 at r3 q30 q31 q32 q33
  have k3 := tm_keep k2 r3
  have g3a : goes (tmL u2 v3) a = 0 := by rw [tmL_goes _ _ ha, g2a, q30]
  have g3b : goes (tmL u2 v3) b = 1 := by rw [tmL_goes _ _ hb, g2b, q31]
  have g3c : goes (tmL u2 v3) c = 2 := by rw [tmL_goes _ _ hc, g2c, q32]
  have g3d : goes (tmL u2 v3) d = 3 := by rw [tmL_goes _ _ hd, q33]
  generalize tmL u2 v3 = u3 at k3 g3a g3b g3c g3d
  -- the fifth
  have x4 := keep_lt k3 he
  have n4 : goes u3 e ≠ 0 := by rw [← g3a]; exact hne u3 k3 e a he ha h7
  have n41 : goes u3 e ≠ 1 := by rw [← g3b]; exact hne u3 k3 e b he hb h8
  have n42 : goes u3 e ≠ 2 := by rw [← g3c]; exact hne u3 k3 e c he hc h9
  have n43 : goes u3 e ≠ 3 := by rw [← g3d]; exact hne u3 k3 e d he hd h10
  obtain ⟨z4, p40, p41, p42, p43, p44⟩ := go4 _ x4 n4 n41 n42 n43
  have r4 := row_keep keep4 z4
  have q40 : goes (unL (pT4.getD (goes u3 e) 0)) 0 = 0 := by rw [unL_goes (by omega)]; exact p40
  have q41 : goes (unL (pT4.getD (goes u3 e) 0)) 1 = 1 := by rw [unL_goes (by omega)]; exact p41
  have q42 : goes (unL (pT4.getD (goes u3 e) 0)) 2 = 2 := by rw [unL_goes (by omega)]; exact p42
  have q43 : goes (unL (pT4.getD (goes u3 e) 0)) 3 = 3 := by rw [unL_goes (by omega)]; exact p43
  have q44 : goes (unL (pT4.getD (goes u3 e) 0)) (goes u3 e) = 4 := by rw [unL_goes x4]; exact p44
  generalize unL (pT4.getD (goes u3 e) 0) = v4 at r4 q40 q41 q42 q43 q44
  refine ⟨tmL u3 v4, tm_keep k3 r4, ?_, ?_, ?_, ?_, ?_⟩
  · rw [tmL_goes _ _ ha, g3a, q40]
  · rw [tmL_goes _ _ hb, g3b, q41]
  · rw [tmL_goes _ _ hc, g3c, q42]
  · rw [tmL_goes _ _ hd, g3d, q43]
  · rw [tmL_goes _ _ he, q44]

/-- An octad with five fixed places is moved to itself. -/
theorem oct_fixed {p : List Int} (hk : keepB p = true) {o : Nat} (ho : octP o) {f : Nat} (h5 : wt f = 5) (hf : o &&& f = f) (hfix : mvW p f = f) : mvW p o = o := by
  obtain ⟨hl, hp⟩ := permOk_ok (keep_perm hk)
  refine oct_uniq ⟨mvW_lt hp o, by rw [keep_iff hk ho.1]; exact ho.2.1, by rw [mvW_wt hp]; exact ho.2.2⟩ ho (and_five h5 ?_ hf)
  have h1 := mvW_and hl hp o f
  rw [hf, hfix] at h1
  exact h1.symm
theorem mvW_fix {p : List Int} (hp : okTo p 24) {f : Nat} (hf : f < 16777216) (h : ∀ i, i < 24 → f.testBit i = true → goes p i = i) : mvW p f = f := by
  have hone : ∀ i, i < 24 → f.testBit i = true → (mvW p f).testBit i = true := fun i hi hb => by
    have h1 := mvW_goes hp f hi
    rw [h i hi hb, hb] at h1
    exact h1
  have hand : mvW p f &&& f = f := by
    apply word_ext (Nat.lt_of_le_of_lt Nat.and_le_right hf) hf
    intro i hi
    rw [Nat.testBit_and]
    cases hb : f.testBit i
    · simp
    · rw [hone i hi hb]; rfl
  have h1 := wt_both (mvW p f) f
  rw [hand, mvW_wt hp] at h1
  have h2 := wt_none (x := mvW p f ^^^ f) (Nat.xor_lt_two_pow (n := 24) (mvW_lt hp f) hf) (by omega)
  exact xor_none h2
theorem inv_bit {p : List Int} (hp : okTo p 24) {o : Nat} (h : mvW p o = o) {z : Nat} (hz : z < 24) : o.testBit (goes p z) = o.testBit z := by
  have h1 := mvW_goes hp o hz
  rw [h] at h1
  exact h1

/-- Octads by which the other places are told, each with five of the seven places. -/
def rdO : List (Nat × Nat) := [(3855, 271), (8659246, 302), (2232621, 301), (49980, 316), (4727069, 285), (656694, 310), (2392343, 279), (255, 31), (4276519, 295)]
def rdF : Nat := 319
theorem rdO_ok : rdO.all (fun x => Nat.blt x.1 16777216 && (codeB x.1 && (Nat.beq (wt x.1) 8 && (Nat.beq (wt x.2) 5 && (Nat.beq (Nat.land x.1 x.2) x.2 && Nat.beq (Nat.land x.2 rdF) x.2))))) = true := by decide +kernel
theorem rd_tellB : ∀ z, z < 24 → ∀ y, y < 24 → (Nat.beq z 6 || (Nat.beq z 7 || (rdF.testBit y || (!(rdO.all (fun x => x.1.testBit y == x.1.testBit z)) || (Nat.beq y z || rdF.testBit z))))) = true := by decide +kernel
theorem rd_tell : ∀ z, z < 24 → z ≠ 6 → z ≠ 7 → ∀ y, y < 24 → rdF.testBit y = true ∨ (rdO.all (fun x => x.1.testBit y == x.1.testBit z) = true → y = z) ∨ rdF.testBit z = true := by
  intro z hz n6 n7 y hy
  have h := rd_tellB z hz y hy
  simp only [Bool.or_eq_true] at h
  rcases h with h | h | h | h | h | h
  · exact absurd (Nat.eq_of_beq_eq_true h) n6
  · exact absurd (Nat.eq_of_beq_eq_true h) n7
  · exact .inl h
  · refine .inr (.inl fun e => ?_)
    rw [e] at h
    cases h
  · exact .inr (.inl fun _ => Nat.eq_of_beq_eq_true h)
  · exact .inr (.inr h)
theorem rdF_mem : ∀ i, i < 24 → rdF.testBit i = true → i = 0 ∨ i = 1 ∨ i = 2 ∨ i = 3 ∨ i = 4 ∨ i = 5 ∨ i = 8 := by decide +kernel
/-- What keeps the code and fixes seven places fixes all. -/
theorem seven_fix {p : List Int} (hk : keepB p = true) (h0 : goes p 0 = 0) (h1 : goes p 1 = 1) (h2 : goes p 2 = 2) (h3 : goes p 3 = 3) (h4 : goes p 4 = 4) (h5 : goes p 5 = 5) (h8 : goes p 8 = 8) :
    ∀ i, i < 24 → goes p i = i := by
  obtain ⟨hl, hp⟩ := permOk_ok (keep_perm hk)
  have hF : ∀ i, i < 24 → rdF.testBit i = true → goes p i = i := fun i hi hb => by
    rcases rdF_mem i hi hb with rfl | rfl | rfl | rfl | rfl | rfl | rfl <;> assumption
  have hO : ∀ x, x ∈ rdO → mvW p x.1 = x.1 := fun x hx => by
    have := List.all_eq_true.1 rdO_ok x hx
    simp only [Bool.and_eq_true] at this
    obtain ⟨a1, a2, a3, a4, a5, a6⟩ := this
    have a1 : x.1 < 16777216 := by simpa using a1
    have a5 : x.1 &&& x.2 = x.2 := Nat.eq_of_beq_eq_true a5
    have a6 : x.2 &&& rdF = x.2 := Nat.eq_of_beq_eq_true a6
    have hx2 : x.2 < 16777216 := by rw [← a5]; exact Nat.lt_of_le_of_lt Nat.and_le_left a1
    refine oct_fixed hk ⟨a1, a2, Nat.eq_of_beq_eq_true a3⟩ (Nat.eq_of_beq_eq_true a4) a5 (mvW_fix hp hx2 fun i hi hb => hF i hi ?_)
    rw [← a6, Nat.testBit_and, Bool.and_eq_true] at hb
    exact hb.2
  have hR : ∀ z, z < 24 → z ≠ 6 → z ≠ 7 → goes p z = z := fun z hz n6 n7 => by
    have hy := goes_lt hp hz
    rcases rd_tell z hz n6 n7 (goes p z) hy with h | h | h
    · have h9 := hF _ hy h
      exact goes_inj hp hy hz h9
    · refine h ?_
      rw [List.all_eq_true]
      intro x hx
      rw [inv_bit hp (hO x hx) hz]
      exact beq_self_eq_true _
    · exact hF z hz h
  -- the last two
  have hlast : mvW p 13017248 = 13017248 := by
    refine oct_fixed hk (f := 434208) ⟨by decide, by decide +kernel, by decide +kernel⟩ (by decide +kernel) (by decide +kernel) (mvW_fix hp (by decide) fun i hi hb => hR i hi ?_ ?_)
    · rintro rfl; revert hb; decide
    · rintro rfl; revert hb; decide
  have hb6 : Nat.testBit 13017248 6 ≠ Nat.testBit 13017248 7 := by decide +kernel
  have h6 : goes p 6 = 6 := by
    have hy := goes_lt hp (show 6 < 24 by omega)
    by_cases e7 : goes p 6 = 7
    · have := inv_bit hp hlast (show 6 < 24 by omega)
      rw [e7] at this
      exact absurd this.symm hb6
    · by_cases e6 : goes p 6 = 6
      · exact e6
      · exact goes_inj hp hy (by omega) (hR _ hy e6 e7)
  have h7 : goes p 7 = 7 := by
    have hy := goes_lt hp (show 7 < 24 by omega)
    by_cases e6 : goes p 7 = 6
    · have := inv_bit hp hlast (show 7 < 24 by omega)
      rw [e6] at this
      exact absurd this hb6
    · by_cases e7 : goes p 7 = 7
      · exact e7
      · exact goes_inj hp hy (by omega) (hR _ hy e6 e7)
  intro i hi
  by_cases e6 : i = 6
  · subst e6; exact h6
  · by_cases e7 : i = 7
    · subst e7; exact h7
    · exact hR i hi e6 e7

/-- What fixes five places of an octad moves its others among themselves, and so those outside. -/
theorem oct255 {p : List Int} (hk : keepB p = true) (h0 : goes p 0 = 0) (h1 : goes p 1 = 1) (h2 : goes p 2 = 2) (h3 : goes p 3 = 3) (h4 : goes p 4 = 4) {z : Nat} (hz : z < 24) : goes p z < 8 ↔ z < 8 := by
  obtain ⟨hl, hp⟩ := permOk_ok (keep_perm hk)
  have hfix : mvW p 31 = 31 := mvW_fix hp (by decide) fun i hi hb => by
    have : ∀ i, i < 24 → Nat.testBit 31 i = true → i = 0 ∨ i = 1 ∨ i = 2 ∨ i = 3 ∨ i = 4 := by decide +kernel
    rcases this i hi hb with rfl | rfl | rfl | rfl | rfl <;> assumption
  have ho := oct_fixed hk (o := 255) (f := 31) ⟨by decide, by decide +kernel, by decide +kernel⟩ (by decide +kernel) (by decide +kernel) hfix
  have hb := inv_bit hp ho hz
  have h8 : ∀ i, i < 24 → Nat.testBit 255 i = decide (i < 8) := by decide +kernel
  rw [h8 _ (goes_lt hp hz), h8 _ hz] at hb
  exact decide_eq_decide.1 hb

end Go.Proofs.Yteedbejlbjfkgaa
