/- Plain laws: there is just one octad through five places. -/
import Derived.Test.YtmgdcnibmifdeaaGreatDoorCdLin
import Derived.Test.YtmgdcnibmifdeaaGreatDoorOct
import Derived.Test.YtmgdcnibmifdeaaGreatDoorPr
set_option linter.unusedVariables false
namespace Go.Proofs.YtmgdcnibmifdeaaGreatDoor.Res

theorem bitN_both (x y k : Nat) : bitN (x ^^^ y) k + 2 * bitN (x &&& y) k = bitN x k + bitN y k := by
  have h1 : (x ^^^ y).testBit k = (x.testBit k ^^ y.testBit k) := Nat.testBit_xor x y k
  have h2 : (x &&& y).testBit k = (x.testBit k && y.testBit k) := Nat.testBit_and x y k
  cases hx : x.testBit k <;> cases hy : y.testBit k <;> rw [hx, hy] at h1 h2
  · rw [bitN_false h1, bitN_false h2, bitN_false hx, bitN_false hy]
  · rw [bitN_true h1, bitN_false h2, bitN_false hx, bitN_true hy]
  · rw [bitN_true h1, bitN_false h2, bitN_true hx, bitN_false hy]
  · rw [bitN_false h1, bitN_true h2, bitN_true hx, bitN_true hy]
theorem wtTo_both (x y k : Nat) : wtTo (x ^^^ y) k + 2 * wtTo (x &&& y) k = wtTo x k + wtTo y k := by
  induction k with
  | zero => rfl
  | succ k ih =>
    have h := bitN_both x y k
    simp only [wtTo]
    show wtTo (x ^^^ y) k + bitN (x ^^^ y) k + 2 * (wtTo (x &&& y) k + bitN (x &&& y) k) = wtTo x k + bitN x k + (wtTo y k + bitN y k)
    omega
theorem wt_both (x y : Nat) : wt (x ^^^ y) + 2 * wt (x &&& y) = wt x + wt y := wtTo_both x y 24
theorem wtTo_none {x k : Nat} (h : wtTo x k = 0) : ∀ i, i < k → x.testBit i = false := by
  induction k with
  | zero => intro i hi; omega
  | succ k ih =>
    have h1 : wtTo x k + bitN x k = 0 := h
    intro i hi
    by_cases e : i = k
    · subst e
      cases hx : x.testBit i
      · rfl
      · rw [bitN_true hx] at h1; omega
    · exact ih (by omega) i (by omega)
theorem wt_none {x : Nat} (hx : x < 16777216) (h : wt x = 0) : x = 0 := by
  apply word_ext hx (by omega)
  intro i hi
  rw [wtTo_none h i hi, Nat.zero_testBit]

theorem xor_none {a b : Nat} (h : a ^^^ b = 0) : a = b := by
  have h1 : a ^^^ b ^^^ b = 0 ^^^ b := by rw [h]
  rwa [Nat.xor_assoc, Nat.xor_self, Nat.xor_zero, Nat.zero_xor] at h1
/-- An octad. -/
def octP (n : Nat) : Prop := n < 16777216 ∧ codeB n = true ∧ wt n = 8
theorem oct_uniq {a b : Nat} (ha : octP a) (hb : octP b) (h : 5 ≤ wt (a &&& b)) : a = b := by
  have h1 := wt_both a b
  rw [ha.2.2, hb.2.2] at h1
  have hlt : a ^^^ b < 16777216 := Nat.xor_lt_two_pow (n := 24) ha.1 hb.1
  have h2 := codeB_wt hlt (codeB_xor ha.1 hb.1 ha.2.1 hb.2.1)
  have h3 := wt_none hlt (by omega)
  exact xor_none h3

/-- The octads written out. -/
def ocL : List Nat := [255, 3855, 4080, 13107, 13260, 15420, 15555, 21845, 21930, 23130, 23205, 26214, 26265, 26985, 27030, 38505, 38550, 39270, 39321, 42330, 42405, 43605, 43690, 49980, 50115, 52275, 52428, 61455, 61680, 65280, 197482, 197525, 199781, 199834, 208985, 209062, 218816, 219440, 222476, 223747, 234755, 236044, 239152, 240064, 245846, 245929, 329017, 329158, 330294, 330441, 341514, 342277, 348268, 348307, 353184, 355408, 365392, 367776, 368739, 368796, 378373, 379146, 394835, 394924, 395612, 395683, 406880, 408208, 414470, 416777, 417845, 417994, 430138, 430277, 434953, 437254, 443792, 445024, 591452, 591523, 592211, 592300, 603536, 604768, 611081, 613382, 614458, 614597, 626741, 626890, 631558, 633865, 640352, 641680, 656694, 656841, 657977, 658118, 669189, 669962, 675939, 675996, 680784, 683168, 693152, 695376, 696428, 696467, 706058, 706821, 787301, 787354, 789610, 789653, 798806, 798889, 808496, 809408, 812291, 813580, 824588, 825859, 829120, 829744, 835673, 835750, 983055, 983280, 986880, 1044480, 1118494, 1118689, 1121809, 1122861, 1123026, 1125666, 1131595, 1131700, 1133380, 1144968, 1148808, 1149048, 1149063, 1160260, 1167906, 1171729, 1184372, 1184395, 1187204, 1188167, 1188280, 1191496, 1197857, 1198126, 1198289, 1209362, 1213469, 1213666, 1215250, 1226785, 1233224, 1237636, 1315879, 1316056, 1317672, 1320724, 1320987, 1321188, 1327474, 1327501, 1330818, 1339969, 1344078, 1344177, 1346881, 1356162, 1366036, 1369128, 1513538, 1516673, 1524248, 1540388, 1578818, 1579085, 1579186, 1582193, 1582222, 1584001, 1589783, 1589992, 1592600, 1601828, 1605931, 1606100, 1609252, 1618456, 1627265, 1632322, 1774632, 1779732, 1786242, 1802817, 1905284, 1909064, 1919009, 1934354, 1970449, 1974818, 1983556, 2001032, 2167367, 2167480, 2170184, 2171252, 2171275, 2174596, 2180882, 2181149, 2181346, 2192417, 2196526, 2196689, 2198305, 2209810, 2216324, 2220616, 2232621, 2232786, 2235938, 2236958, 2237153, 2239761, 2245752, 2245767, 2247560, 2259012, 2262852, 2263115, 2263220, 2274440, 2282001, 2285858, 2365313, 2365553, 2365582, 2368589, 2368690, 2370370, 2376235, 2376404, 2379044, 2388248, 2392343, 2392552, 2395672, 2404900, 2413634, 2418817, 2561044, 2566184, 2572609, 2589314, 2626587, 2626788, 2628372, 2631464, 2631719, 2631896, 2638158, 2638257, 2641473, 2650754, 2654834, 2654861, 2657666, 2666817, 2676776, 2679828, 2824321, 2827330, 2834980, 2851096, 2953506, 2957841, 2966664, 2984004, 3019336, 3023236, 3033106, 3048481, 3146585, 3146662, 3148886, 3148969, 3158122, 3158165, 3167756, 3168515, 3171776, 3172912, 3183920, 3185344, 3188227, 3189004, 3194981, 3195034, 3342387, 3342540, 3355392, 3394560, 3475040, 3475856, 3497990, 3510281, 3540234, 3541509, 3559584, 3579984, 3736837, 3738122, 3756112, 3776672, 3802768, 3803488, 3825673, 3837958, 3932220, 3932355, 3947520, 3982080, 4265074, 4265101, 4266882, 4269889, 4270158, 4270257, 4276519, 4276696, 4279848, 4289044, 4293147, 4293348, 4295956, 4305192, 4315201, 4318338, 4331288, 4331543, 4331752, 4334635, 4334804, 4336420, 4342349, 4342450, 4345154, 4354433, 4358513, 4358542, 4361857, 4371010, 4379684, 4384792, 4460875, 4460980, 4464196, 4465272, 4465287, 4468104, 4473886, 4474081, 4475665, 4487202, 4491042, 4491309, 4491474, 4502545, 4510344, 4514116, 4657697, 4661522, 4671620, 4686920, 4723246, 4723409, 4726049, 4727069, 4727266, 4730386, 4736900, 4737140, 4737163, 4748360, 4752455, 4752568, 4754248, 4765828, 4772114, 4776481, 4919620, 4924040, 4932625, 4950050, 5052440, 5055524, 5063234, 5079425, 5117058, 5122113, 5128488, 5145108, 5244268, 5244307, 5245539, 5245596, 5256864, 5257552, 5263417, 5263558, 5268234, 5270533, 5280517, 5282826, 5283894, 5284041, 5293648, 5294496, 5441030, 5441801, 5464160, 5476496, 5570645, 5570730, 5592320, 5614080, 5637056, 5639216, 5648396, 5685251, 5833520, 5835968, 5844995, 5881868, 5898330, 5898405, 5921280, 5940480, 6030857, 6031622, 6054032, 6066272, 6293045, 6293194, 6293818, 6293957, 6305030, 6306313, 6312800, 6315152, 6316115, 6316204, 6328412, 6328483, 6333328, 6335584, 6341897, 6343174, 6489504, 6490704, 6508554, 6529029, 6619916, 6622211, 6631616, 6668336, 6684774, 6684825, 6710784, 6723840, 6881385, 6881430, 6908160, 6919680, 6947587, 6949900, 6959152, 6996160, 7079248, 7080608, 7098373, 7118858, 7411748, 7414808, 7422593, 7438658, 7476289, 7481474, 7487764, 7504424, 7606802, 7610657, 7620680, 7636100, 7868808, 7873092, 7881762, 7899153, 8460068, 8460331, 8460500, 8463383, 8463592, 8465176, 8471153, 8471182, 8473985, 8483138, 8487245, 8487346, 8490562, 8499841, 8508440, 8513572, 8524878, 8524977, 8526657, 8529794, 8530034, 8530061, 8536347, 8536548, 8539668, 8548904, 8552999, 8553176, 8555816, 8565012, 8575106, 8578113, 8655389, 8655586, 8658194, 8659246, 8659409, 8662561, 8669000, 8669255, 8669368, 8680580, 8684660, 8684683, 8686468, 8697928, 8704289, 8708626, 8851848, 8856132, 8864802, 8882193, 8917368, 8917383, 8920712, 8921675, 8921780, 8924484, 8930349, 8930514, 8932130, 8943633, 8947473, 8947742, 8947937, 8959010, 8966724, 8970632, 9114130, 9117985, 9128008, 9143428, 9245761, 9250946, 9257236, 9273896, 9312292, 9315352, 9323137, 9339202, 9438778, 9438917, 9439541, 9439690, 9450761, 9452038, 9458576, 9460832, 9461852, 9461923, 9474131, 9474220, 9479008, 9481360, 9487622, 9488905, 9635152, 9636512, 9654277, 9674762, 9765635, 9767948, 9777200, 9814208, 9830505, 9830550, 9857280, 9868800, 10027110, 10027161, 10053120, 10066176, 10093324, 10095619, 10105024, 10141744, 10225056, 10226256, 10244106, 10264581, 10487139, 10487196, 10488428, 10488467, 10499664, 10500512, 10506294, 10506441, 10511109, 10513418, 10523402, 10525701, 10526777, 10526918, 10536608, 10537296, 10683913, 10684678, 10707088, 10719328, 10813530, 10813605, 10836480, 10855680, 10879792, 10882240, 10891267, 10928140, 11076544, 11078704, 11087884, 11124739, 11141205, 11141290, 11162880, 11184640, 11273734, 11274505, 11296864, 11309200, 11605122, 11610177, 11616552, 11633172, 11671576, 11674660, 11682370, 11698561, 11800900, 11805320, 11813905, 11831330, 12063265, 12067090, 12077188, 12092488, 12583766, 12583849, 12586073, 12586150, 12595301, 12595354, 12604931, 12605708, 12608816, 12610240, 12621248, 12622384, 12625420, 12626179, 12632170, 12632213, 12779580, 12779715, 12794880, 12829440, 12912272, 12912992, 12935177, 12947462, 12977413, 12978698, 12996688, 13017248, 13174026, 13175301, 13193376, 13213776, 13239904, 13240720, 13262854, 13275145, 13369395, 13369548, 13382400, 13421568, 13701704, 13705604, 13715474, 13730849, 13766946, 13771281, 13780104, 13797444, 13899905, 13902914, 13910564, 13926680, 14160916, 14166056, 14172481, 14189186, 14749969, 14754338, 14763076, 14780552, 14815876, 14819656, 14829601, 14844946, 14947368, 14952468, 14958978, 14975553, 15210562, 15213697, 15221272, 15237412, 15728655, 15728880, 15732480, 15790080, 16711680]
theorem ocL_oct : ocL.all (fun o => Nat.blt o 16777216 && (codeB o && Nat.beq (wt o) 8)) = true := by decide +kernel
theorem ocL_mem {o : Nat} (h : o ∈ ocL) : octP o := by
  have := List.all_eq_true.1 ocL_oct o h
  rw [Bool.and_eq_true, Bool.and_eq_true] at this
  refine ⟨?_, this.2.1, Nat.eq_of_beq_eq_true this.2.2⟩
  exact by simpa using this.1

def hasB (o i : Nat) : Bool := Nat.beq (Nat.mod (Nat.div o (Nat.pow 2 i)) 2) 1
theorem hasB_bit (o i : Nat) : hasB o i = o.testBit i := by
  rw [testBit_div]
  show Nat.beq (o / 2 ^ i % 2) 1 = _
  rw [Bool.eq_iff_iff, decide_eq_true_eq]
  exact ⟨Nat.eq_of_beq_eq_true, fun h => by rw [h]; rfl⟩
def orL : List Nat → Nat
  | [] => 0
  | o :: l => Nat.lor o (orL l)
theorem orL_bit {l : List Nat} {i : Nat} (h : (orL l).testBit i = true) : ∃ o, o ∈ l ∧ o.testBit i = true := by
  induction l with
  | nil => rw [show orL [] = 0 from rfl, Nat.zero_testBit] at h; cases h
  | cons o l ih =>
    have h : (o ||| orL l).testBit i = true := h
    rw [Nat.testBit_or, Bool.or_eq_true] at h
    rcases h with h | h
    · exact ⟨o, by simp, h⟩
    · obtain ⟨o', h1, h2⟩ := ih h
      exact ⟨o', by simp [h1], h2⟩
def allTo (p : Nat → Bool) : Nat → Bool
  | 0 => true
  | k + 1 => p k && allTo p k
theorem allTo_get {p : Nat → Bool} {k : Nat} (h : allTo p k = true) : ∀ i, i < k → p i = true := by
  induction k with
  | zero => intro i hi; omega
  | succ k ih =>
    simp only [allTo, Bool.and_eq_true] at h
    intro i hi
    by_cases e : i = k
    · subst e; exact h.1
    · exact ih h.2 i (by omega)
/-- Whatever d further places below hi, and one more: there is one in the list. -/
def covB : Nat → Nat → List Nat → Bool
  | 0, _, l => Nat.beq (orL l) 16777215
  | d + 1, hi, l => allTo (fun i => covB d i (l.filter (fun o => hasB o i))) hi
theorem wtTo_top {w n hi : Nat} (h : wtTo w hi = n + 1) : ∃ i, i < hi ∧ w.testBit i = true ∧ wtTo w i = n ∧ ∀ j, i < j → j < hi → w.testBit j = false := by
  induction hi with
  | zero => cases h
  | succ hi ih =>
    have h1 : wtTo w hi + bitN w hi = n + 1 := h
    cases hb : w.testBit hi
    · rw [bitN_false hb] at h1
      obtain ⟨i, h2, h3, h4, h5⟩ := ih (by omega)
      refine ⟨i, by omega, h3, h4, fun j h6 h7 => ?_⟩
      by_cases e : j = hi
      · subst e; exact hb
      · exact h5 j h6 (by omega)
    · rw [bitN_true hb] at h1
      exact ⟨hi, by omega, hb, by omega, fun j h6 h7 => by omega⟩
theorem cov_get (w : Nat) (d : Nat) : ∀ (hi : Nat) (l : List Nat), hi ≤ 24 → covB d hi l = true → wtTo w hi = d + 1 → ∃ o, o ∈ l ∧ ∀ i, i < hi → w.testBit i = true → o.testBit i = true := by
  induction d with
  | zero =>
    intro hi l h24 hc hw
    obtain ⟨i, h1, h2, h3, h4⟩ := wtTo_top hw
    have hor : orL l = 16777215 := Nat.eq_of_beq_eq_true hc
    obtain ⟨o, ho, hb⟩ := orL_bit (l := l) (i := i) (by rw [hor, show (16777215 : Nat) = 2 ^ 24 - 1 by decide, Nat.testBit_two_pow_sub_one]; simp; omega)
    refine ⟨o, ho, fun j hj hbj => ?_⟩
    rcases Nat.lt_trichotomy j i with hlt | heq | hgt
    · rw [wtTo_none h3 j hlt] at hbj; cases hbj
    · subst heq; exact hb
    · rw [h4 j hgt hj] at hbj; cases hbj
  | succ d ih =>
    intro hi l h24 hc hw
    obtain ⟨i, h1, h2, h3, h4⟩ := wtTo_top hw
    have hc2 := allTo_get hc i h1
    obtain ⟨o, ho, hb⟩ := ih i _ (by omega) hc2 h3
    rw [List.mem_filter] at ho
    refine ⟨o, ho.1, fun j hj hbj => ?_⟩
    rcases Nat.lt_trichotomy j i with hlt | heq | hgt
    · exact hb j hlt hbj
    · subst heq; rw [← hasB_bit]; exact ho.2
    · rw [h4 j hgt hj] at hbj; cases hbj
set_option maxRecDepth 100000 in
theorem ocL_cov : covB 4 24 ocL = true := by decide +kernel
/-- There is an octad through five places. -/
theorem oct_through {w : Nat} (hw : w < 16777216) (h : wt w = 5) : ∃ o, octP o ∧ o &&& w = w := by
  obtain ⟨o, ho, hb⟩ := cov_get w 4 24 ocL (Nat.le_refl _) ocL_cov h
  have hp := ocL_mem ho
  refine ⟨o, hp, ?_⟩
  apply word_ext (Nat.lt_of_le_of_lt Nat.and_le_right hw) hw
  intro i hi
  rw [Nat.testBit_and]
  cases hx : w.testBit i
  · simp
  · rw [hb i hi hx]; rfl

theorem msg_code : allB (fun m => Nat.beq (msg (code m)) m) 12 0 = true := by decide +kernel
theorem code_inj {m n : Nat} (hm : m < 4096) (hn : n < 4096) (h : code m = code n) : m = n := by
  have h1 := Nat.eq_of_beq_eq_true (allB_all 12 msg_code m hm)
  have h2 := Nat.eq_of_beq_eq_true (allB_all 12 msg_code n hn)
  rw [← h1, h, h2]

/-- The octads among the first k words that have all places of a word. -/
def wmTo (w k : Nat) : List Int := (List.range k).flatMap fun m => if wt (code m) = 8 ∧ code m &&& w = w then [((code m : Nat) : Int)] else []
theorem wmTo_hit {w k : Nat} (h : wt (code k) = 8 ∧ code k &&& w = w) : wmTo w (k + 1) = wmTo w k ++ [((code k : Nat) : Int)] := by
  unfold wmTo
  rw [List.range_succ, List.flatMap_append, List.flatMap_singleton, if_pos h]
theorem wmTo_miss {w k : Nat} (h : ¬ (wt (code k) = 8 ∧ code k &&& w = w)) : wmTo w (k + 1) = wmTo w k := by
  unfold wmTo
  rw [List.range_succ, List.flatMap_append, List.flatMap_singleton, if_neg h, List.append_nil]
theorem wmTo_length (w k : Nat) : (wmTo w k).length ≤ k := by
  induction k with
  | zero => simp [wmTo]
  | succ k ih =>
    by_cases h : wt (code k) = 8 ∧ code k &&& w = w
    · rw [wmTo_hit h]; simp; exact ih
    · rw [wmTo_miss h]; omega
def inW (w : Nat) (x : Int) : Bool := decide (x.toNat &&& w = w)
theorem wmTo_filter (w k : Nat) : wmTo w k = (ocsTo k).filter (inW w) := by
  induction k with
  | zero => rfl
  | succ k ih =>
    by_cases h8 : wt (code k) = 8
    · rw [ocsTo_hit h8, List.filter_append, ← ih]
      by_cases h : code k &&& w = w
      · rw [wmTo_hit ⟨h8, h⟩]
        congr 1
        simp [List.filter, inW, h]
      · rw [wmTo_miss (fun e => h e.2)]
        simp [List.filter, inW, h]
    · rw [ocsTo_miss h8, wmTo_miss (fun e => h8 e.1), ih]
theorem wiS_filter (S : List Int) (w k : Nat) (hk : k ≤ S.length) : wiS S w k = (S.take k).filter (inW w) := by
  induction k with
  | zero => rfl
  | succ k ih =>
    have hx : S.take (k + 1) = S.take k ++ [S.getD k 0] := by
      rw [List.take_succ_eq_append_getElem (by omega)]
      simp [List.getD, show k < S.length by omega]
    rw [hx, List.filter_append, ← ih (by omega)]
    by_cases h : (S.getD k 0).toNat &&& w = w
    · rw [wiS_hit h]
      simp only [List.filter, inW, h, decide_true]
    · rw [wiS_miss h]
      simp only [List.filter, inW, h, decide_false, List.append_nil]
/-- The program's sorted list and the reference's list are the same. -/
theorem wi_srt (w : Nat) : wi w = srt (wmTo w 4096) := by
  unfold wi wiTo
  rw [wiS_filter _ _ _ (Nat.le_refl _), List.take_length, wmTo_filter]
  refine srt_uniq ?_ ?_
  · exact (srt_perm (ocsTo 4096)).filter _
  · exact (srt_pair (ocsTo 4096)).sublist List.filter_sublist
theorem wi_length_le (w : Nat) : (wi w).length ≤ 4096 := by
  rw [wi_srt, srt_length]
  exact wmTo_length w 4096
theorem wmTo_mem {w k : Nat} {x : Int} (h : x ∈ wmTo w k) : ∃ m, m < k ∧ x = ((code m : Nat) : Int) ∧ wt (code m) = 8 ∧ code m &&& w = w := by
  rw [wmTo_filter, List.mem_filter] at h
  obtain ⟨m, h1, h2, rfl⟩ := ocsTo_mem h.1
  refine ⟨m, h1, rfl, h2, ?_⟩
  have := h.2
  unfold inW at this
  simpa using this
theorem wi_mem {w : Nat} {x : Int} (h : x ∈ wi w) : ∃ o : Nat, x = (o : Int) ∧ octP o ∧ o &&& w = w := by
  rw [wi_srt] at h
  obtain ⟨m, h1, h2, h3, h4⟩ := wmTo_mem ((srt_perm _).mem_iff.1 h)
  exact ⟨_, h2, ⟨code_lt h1, code_in m, h3⟩, h4⟩
theorem wmTo_nodup (w k : Nat) (hk : k ≤ 4096) : (wmTo w k).Nodup := by
  induction k with
  | zero => simp [wmTo]
  | succ k ih =>
    have ih := ih (by omega)
    by_cases h : wt (code k) = 8 ∧ code k &&& w = w
    · rw [wmTo_hit h, List.nodup_append]
      refine ⟨ih, by simp, fun a ha b hb e => ?_⟩
      rw [List.mem_singleton] at hb
      subst hb
      obtain ⟨m, h1, h2, -⟩ := wmTo_mem ha
      have h5 : code m = code k := by omega
      have := code_inj (show m < 4096 by omega) (show k < 4096 by omega) h5
      omega
    · rw [wmTo_miss h]; exact ih
theorem oct_in {o w : Nat} (ho : octP o) (h : o &&& w = w) : ((o : Nat) : Int) ∈ wi w := by
  rw [wi_srt]
  refine (srt_perm _).mem_iff.2 ?_
  have hm := code_msg ho.1 ho.2.1
  have hl := msg_lt o
  rw [wmTo_filter, List.mem_filter]
  refine ⟨?_, by unfold inW; simpa using h⟩
  unfold ocsTo
  rw [List.mem_flatMap]
  refine ⟨msg o, List.mem_range.2 hl, ?_⟩
  rw [hm, if_pos ho.2.2]
  simp
theorem and_five {o o' w : Nat} (h5 : wt w = 5) (h1 : o &&& w = w) (h2 : o' &&& w = w) : 5 ≤ wt (o &&& o') := by
  have hs : (o &&& o') &&& w = w := by rw [Nat.and_assoc, h2, h1]
  have h3 := wt_both ((o &&& o') ^^^ w) w
  rw [Nat.xor_assoc, Nat.xor_self, Nat.xor_zero, h5] at h3
  have h4 : ((o &&& o') ^^^ w) &&& w = 0 := by
    apply Nat.eq_of_testBit_eq
    intro i
    have hb := congrArg (fun t => t.testBit i) hs
    simp only [Nat.testBit_and] at hb
    rw [Nat.testBit_and, Nat.testBit_xor, Nat.testBit_and, Nat.zero_testBit]
    revert hb
    cases o.testBit i <;> cases o'.testBit i <;> cases w.testBit i <;> decide
  rw [h4] at h3
  have h0 : wt 0 = 0 := by decide +kernel
  omega
/-- Just one octad through five places. -/
theorem wi_five {w : Nat} (hw : w < 16777216) (h : wt w = 5) : ∃ o, wi w = [((o : Nat) : Int)] ∧ octP o ∧ o &&& w = w := by
  obtain ⟨o, ho, hb⟩ := oct_through hw h
  refine ⟨o, ?_, ho, hb⟩
  have hm := oct_in ho hb
  have hn : (wi w).Nodup := by
    rw [wi_srt]
    exact (srt_perm _).nodup_iff.2 (wmTo_nodup w 4096 (Nat.le_refl _))
  have hall : ∀ x, x ∈ wi w → x = ((o : Nat) : Int) := fun x hx => by
    obtain ⟨o', rfl, ho', hb'⟩ := wi_mem hx
    rw [oct_uniq ho' ho (and_five h hb' hb)]
  generalize wi w = l at *
  match l, hn, hall, hm with
  | [x], _, hall, _ => rw [hall x (by simp)]
  | x :: y :: l, hn, hall, _ =>
    exfalso
    have h1 := hall x (by simp)
    have h2 := hall y (by simp)
    rw [List.nodup_cons] at hn
    exact hn.1 (by rw [h1, ← h2]; simp)

end Go.Proofs.YtmgdcnibmifdeaaGreatDoor.Res
