/- Texts laid together. -/
import Derived.Test.YtmgdcnibmifdeaaGreatDoorWCon
import Derived.Test.YtmgdcnibmifdeaaGreatDoorTxtR
import Derived.Test.YtmgdcnibmifdeaaGreatDoorNr
import Derived.Test.YtmgdcnibmifdeaaGreatDoorCdIn
import Derived.Test.YtmgdcnibmifdeaaGreatDoorWOct
import Derived.Test.YtmgdcnibmifdeaaGreatDoorLn
import Derived.Test.YtmgdcnibmifdeaaGreatDoorWNr
import Derived.Test.YtmgdcnibmifdeaaGreatDoorWSx
import Derived.Test.YtmgdcnibmifdeaaGreatDoorWTxt
import Derived.Test.YtmgdcnibmifdeaaGreatDoorWCode
import Derived.Test.YtmgdcnibmifdeaaGreatDoorWCdIn
import Derived.Test.YtmgdcnibmifdeaaGreatDoorWMisc
import Derived.OwnWalk
import Derived.Test.YtmgdcnibmifdeaaGreatDoorWIn
import Derived.Test.YtmgdcnibmifdeaaGreatDoorWNum
import Derived.Test.YtmgdcnibmifdeaaGreatDoorWOcI
import Derived.StillTailTactics
import Derived.WalkSmall
import Derived.Test.YtmgdcnibmifdeaaGreatDoorSpl
import Derived.Test.YtmgdcnibmifdeaaGreatDoorRd
import Derived.Test.YtmgdcnibmifdeaaGreatDoorBit
import Derived.BigQuiet
import Derived.Deep.QuietTactic
import Derived.Test.YtmgdcnibmifdeaaGreatDoorWCdS
/- Plain model: what a line of a script answers, and the word behind it. -/
set_option linter.unusedVariables false
namespace Go.Proofs.YtmgdcnibmifdeaaGreatDoor
open Res

def natsOf (l : List Int) : List Nat := l.map Int.toNat
theorem ints_natsOf {l : List Int} (h : ∀ x, x ∈ l → 0 ≤ x) : ints (natsOf l) = l := by
  unfold ints natsOf
  rw [List.map_map]
  conv => rhs; rw [← List.map_id l]
  refine List.map_congr_left fun x hx => ?_
  have := h x hx
  show ((x.toNat : Nat) : Int) = x
  omega
theorem natsOf_length (l : List Int) : (natsOf l).length = l.length := by simp [natsOf]
def whatB : List UInt8 := [119, 104, 97, 116]
def noB : List UInt8 := [110, 111]
def okB : List UInt8 := [111, 107]
def yesB : List UInt8 := [121, 101, 115]
def notB : List UInt8 := [110, 111, 116]
/-- What is said: of an unknown line, of one that fails, of another. -/
def sayT (told ok : Bool) (out : List UInt8) : List UInt8 := if told then (if ok then out else noB) else whatB
def cShow : List UInt8 := [115, 104, 111, 119]
def cPlaces : List UInt8 := [112, 108, 97, 99, 101, 115]
def cWeight : List UInt8 := [119, 101, 105, 103, 104, 116]
def cScores : List UInt8 := [115, 99, 111, 114, 101, 115]
def cIn : List UInt8 := [105, 110]
def cMend : List UInt8 := [109, 101, 110, 100]
def cNear : List UInt8 := [110, 101, 97, 114]
def cSextet : List UInt8 := [115, 101, 120, 116, 101, 116]
def cMeet : List UInt8 := [109, 101, 101, 116]
/-- A line without a rest. -/
def exW (n : Nat) (c : List UInt8) : Nat × List UInt8 :=
  if c = cShow then (n, wText n) else
  if c = cPlaces then (n, joinT (places n)) else
  if c = cWeight then (n, dec (wt n)) else
  if c = cScores then (n, joinT (scl n)) else
  if c = cIn then (n, if codeB n then yesB else notB) else
  if c = cMend then (if far n ≤ 3 then (mendW n, okB) else (n, noB)) else
  if c = cNear then (n, dec (far n)) else
  if c = cSextet then (n, if wt n = 4 then joinT (natsOf (sxL n)) else noB) else
  if c = cMeet then (n, if octB (n : Int) then joinT (natsOf (omL n)) else noB) else (n, whatB)
def cSet : List UInt8 := [115, 101, 116]
def cAdd : List UInt8 := [97, 100, 100]
def cRead : List UInt8 := [114, 101, 97, 100]
def cCode : List UInt8 := [99, 111, 100, 101]
def cOctad : List UInt8 := [111, 99, 116, 97, 100]
def cLine : List UInt8 := [108, 105, 110, 101]
/-- The one number of a rest. -/
def oneN (s : List UInt8) : Option Nat := match nums s with
  | some [n] => some n
  | _ => none
/-- The octad through five places. -/
def throughM (l : List Nat) : Option Nat := if diff (ints l) = true ∧ l.length = 5 then some ((wi (mk (ints l) 5)).getD 0 0).toNat else none
def fiveN (s : List UInt8) : Option Nat := match nums s with
  | some l => throughM l
  | none => none
/-- The word that a line with a rest makes of a word, if it does. -/
def exR (n : Nat) (c s : List UInt8) : Option (Option Nat) :=
  if c = cSet then some (match oneN s with | some m => if m ≤ 16777215 then some m else none | none => none) else
  if c = cAdd then some (match oneN s with | some m => if m ≤ 16777215 then some (n ^^^ m) else none | none => none) else
  if c = cRead then some (wRead s) else
  if c = cCode then some (match oneN s with | some m => if m ≤ 4095 then some (code m) else none | none => none) else
  if c = cOctad then some (fiveN s) else
  if c = cLine then some (match oneN s with | some m => if m ≤ 22 then some (gen m) else none | none => none) else none
def sayR (n : Nat) : Option (Option Nat) → Nat × List UInt8
  | none => (n, whatB)
  | some none => (n, noB)
  | some (some m) => (m, okB)
/-- A line. -/
def exL (n : Nat) (l : List UInt8) : Nat × List UInt8 :=
  if (cutL 32 l).2.2 then sayR n (exR n (cutL 32 l).1 (cutL 32 l).2.1) else exW n l
/-- Lines, one after the other. -/
def exS (n : Nat) : List (List UInt8) → Nat × List UInt8
  | [] => (n, [])
  | l :: r => ((exS (exL n l).1 r).1, (exL n l).2 ++ [10] ++ (exS (exL n l).1 r).2)
def wordB : List UInt8 := [119, 111, 114, 100, 32]
def tooLong : List UInt8 := [116, 111, 111, 32, 108, 111, 110, 103, 10]
/-- The complete lines of a script. -/
def linesOf (s : List UInt8) : List (List UInt8) := (spl 10 s).dropLast
/-- What a script answers. -/
def exec (s : List UInt8) : List UInt8 :=
  if 600 < s.length then tooLong else (exS 0 (linesOf s)).2 ++ wordB ++ dec (exS 0 (linesOf s)).1 ++ [10]

theorem join_len (l : List (List UInt8)) (c : UInt8) (k : Nat) (h : ∀ x, x ∈ l → x.length ≤ k) : (Go.Lib.join l [c]).length ≤ (k + 1) * l.length := by
  unfold Go.Lib.join
  induction l with
  | nil => simp [List.intercalate]
  | cons x l ih =>
    have hx := h x (by simp)
    have ih := ih (fun y hy => h y (by simp [hy]))
    cases l with
    | nil => simp [List.intercalate] at ih ⊢; omega
    | cons y r =>
      have e : List.intercalate [c] (x :: y :: r) = x ++ [c] ++ List.intercalate [c] (y :: r) := by simp [List.intercalate, List.intersperse]
      rw [e, List.length_append, List.length_append, List.length_cons (a := x), Nat.mul_succ]
      simp only [List.length_cons, List.length_nil] at ih ⊢
      omega
theorem joinT_len {l : List Nat} (h : ∀ x, x ∈ l → x ≤ 100000000) : (joinT l).length ≤ 10 * l.length := by
  have h1 := join_len (l.map dec) 32 9 (fun x hx => by
    obtain ⟨y, hy, rfl⟩ := List.mem_map.1 hx
    have := h y hy
    exact dec_length 8 (by omega))
  rw [List.length_map] at h1
  exact h1
theorem sxL_mem {n : Nat} (hn : n < 16777216) {x : Int} (h : x ∈ sxL n) : 0 ≤ x ∧ x ≤ 16777215 := by
  unfold sxL at h
  have h1 := (srt_perm _).mem_iff.1 h
  unfold sxTo at h1
  rcases List.mem_cons.1 h1 with e | e
  · omega
  · obtain ⟨i, hi, rfl⟩ := List.mem_map.1 e
    obtain ⟨o, ho, hp, -⟩ := wi_get (List.mem_range.1 hi)
    rw [ho, Int.toNat_natCast]
    have := Nat.xor_lt_two_pow (n := 24) hp.1 hn
    omega
theorem sxL_length (n : Nat) : (sxL n).length ≤ 4097 := by
  unfold sxL
  rw [srt_length, sxTo_length]
  have h1 : (wi n).length ≤ 4096 := wi_length_le n
  omega
theorem omL_mem {n : Nat} {x : Int} (h : x ∈ omL n) : 0 ≤ x ∧ x ≤ 100000000 := by
  obtain ⟨i, hi, rfl⟩ := List.getElem_of_mem h
  have h1 := omTo_bd ocs n ocs.length i
  have h2 : (omL n).getD i 0 = (omL n)[i] := getD_get hi
  have h3 := ocs_length
  unfold omL at h2 hi ⊢
  omega
theorem omL_length (n : Nat) : (omL n).length = 9 := omTo_length _ _ _
theorem mendW_ok (n : Nat) : mendW n < 16777216 := mendW_lt n
theorem throughM_lt {l : List Nat} {o : Nat} (h : throughM l = some o) : o < 16777216 := by
  unfold throughM at h
  split at h
  · rename_i hc
    simp only [Option.some.injEq] at h
    have hok := (okTo_iff (ints l)).2 hc.1
    rw [ints_length, hc.2] at hok
    obtain ⟨o', h1, h2, -⟩ := wi_five (mk_lt hok) (mk_wt hok)
    rw [h1] at h
    simp at h
    have := h2.1
    omega
  · cases h
/-- A word stays a word. -/
theorem exL_lt {n : Nat} (hn : n < 16777216) (l : List UInt8) : (exL n l).1 < 16777216 := by
  unfold exL
  split
  · generalize (cutL 32 l).1 = c
    generalize (cutL 32 l).2.1 = s
    cases hr : exR n c s with
    | none => exact hn
    | some o =>
      cases o with
      | none => exact hn
      | some m =>
        show m < 16777216
        unfold exR at hr
        repeat' split at hr
        all_goals simp only [Option.some.injEq, reduceCtorEq] at hr
        · omega
        · rw [← hr]
          exact Nat.xor_lt_two_pow (n := 24) hn (by omega)
        · exact read_lt hr
        · rw [← hr]
          exact code_lt (by omega)
        · unfold fiveN at hr
          split at hr
          · exact throughM_lt hr
          · cases hr
        · rw [← hr]
          exact gen_le _ (by omega)
  · unfold exW
    have hm := mendW_lt n
    generalize mendW n = m at *
    repeat' split
    all_goals first | exact hn | exact hm
theorem len_le {l : List UInt8} {a b : Nat} (h : l.length ≤ a) (h2 : a ≤ b) : l.length ≤ b := Nat.le_trans h h2
/-- Answers are short. -/
theorem exL_len {n : Nat} (hn : n < 16777216) (l : List UInt8) : (exL n l).2.length ≤ 50000 := by
  have hW : whatB.length = 4 := rfl
  have hO : okB.length = 2 := rfl
  have hN : noB.length = 2 := rfl
  have hY : yesB.length = 3 := rfl
  have hT : notB.length = 3 := rfl
  unfold exL
  split
  · cases exR n (cutL 32 l).1 (cutL 32 l).2.1 with
    | none => show whatB.length ≤ _; omega
    | some o => cases o with
      | none => show noB.length ≤ _; omega
      | some m => show okB.length ≤ _; omega
  · unfold exW
    split
    · show (wText n).length ≤ _
      rw [wText_length]; omega
    split
    · show (joinT _).length ≤ _
      refine Nat.le_trans (joinT_len fun x hx => ?_) ?_
      · have := (places_mem.1 hx).1; omega
      · rw [places_length]; have := wt_le n; omega
    split
    · show (dec _).length ≤ _
      have := dec_length (n := wt n) 1 (by have := wt_le n; omega); omega
    split
    · show (joinT _).length ≤ _
      refine Nat.le_trans (joinT_len fun x hx => ?_) ?_
      · obtain ⟨i, hi, rfl⟩ := List.getElem_of_mem hx
        have h1 := scl_le n i
        have h2 : (scl n).getD i 0 = (scl n)[i] := by simp [List.getD, hi]
        omega
      · rw [scl_length]; omega
    split
    · show (if codeB n then yesB else notB).length ≤ _
      cases codeB n
      · show notB.length ≤ _; omega
      · show yesB.length ≤ _; omega
    split
    · by_cases h : far n ≤ 3
      · rw [if_pos h]; show okB.length ≤ _; omega
      · rw [if_neg h]; show noB.length ≤ _; omega
    split
    · show (dec _).length ≤ _
      have := dec_length (n := far n) 1 (by have := farTo_le n 4096; unfold far; omega); omega
    split
    · by_cases h : wt n = 4
      · rw [if_pos h]
        show (joinT _).length ≤ _
        refine Nat.le_trans (joinT_len fun x hx => ?_) ?_
        · obtain ⟨y, hy, rfl⟩ := List.mem_map.1 hx
          have := sxL_mem hn hy
          omega
        · rw [natsOf_length]; have := sxL_length n; omega
      · rw [if_neg h]; show noB.length ≤ _; omega
    split
    · by_cases h : octB (n : Int)
      · rw [if_pos h]
        show (joinT _).length ≤ _
        refine Nat.le_trans (joinT_len fun x hx => ?_) ?_
        · obtain ⟨y, hy, rfl⟩ := List.mem_map.1 hx
          have := omL_mem hy
          omega
        · rw [natsOf_length, omL_length]; omega
      · rw [if_neg h]; show noB.length ≤ _; omega
    · show whatB.length ≤ _; omega

end Go.Proofs.YtmgdcnibmifdeaaGreatDoor

/- Contract of word: a line without a rest. -/
set_option linter.unusedVariables false
namespace Go.Proofs.YtmgdcnibmifdeaaGreatDoor
open Go.RowKit Res

/-- The world has grown, and of what was there the console's block alone has turned. -/
def SaidV (b : Nat) (w : World) (m : Nat) (t : List UInt8) (e : Ending) (w' : World) : Prop :=
  ∃ (out : List UInt8) (ok told : Bool), e = .returned (.tuple #[.string ⟨out.toArray⟩, .bool ok, .bool told]) ∧ sayT told ok out = t ∧ Con b m w' ∧ w.grownBy w' (some b)
theorem below_but {w w' : World} (h : Below w.heap.size w w') (row : Option Nat) : w.grownBy w' row := ⟨h.os, h.tape, h.output, h.size, fun i hi _ => h.block i hi⟩
theorem SaidV.below {b n : Nat} {w w' : World} {out : List UInt8} {ok told : Bool} {t : List UInt8} (hC : Con b n w) (hb : Below w.heap.size w w') (ht : sayT told ok out = t) :
    SaidV b w n t (.returned (.tuple #[.string ⟨out.toArray⟩, .bool ok, .bool told])) w' :=
  ⟨out, ok, told, rfl, ht, hC.kept hb, below_but hb _⟩

theorem readsN_ints {w : World} {a : Option Addr} {l : List Nat} (h : ReadsN w a l) : Reads .i64 w a (ints l) := fun i hi => by
  obtain ⟨b, off, ha, hlt, hc⟩ := h i (by rw [ints_length] at hi; exact hi)
  exact ⟨b, off, ha, hlt, by rw [ints_get]; exact hc⟩
theorem far_le (n : Nat) : far n ≤ 25 := by unfold far; exact farTo_le n _
theorem natsOf_shape {B : Nat} {w : World} {v : Value} {l : List Int} (h : Owns B w v l) (h0 : ∀ x, x ∈ l → 0 ≤ x) : Owns B w v (ints (natsOf l)) := by rw [ints_natsOf h0]; exact h
theorem implScores_ok (n : Int) (w : World) (n0 : 0 ≤ n) (n1 : n ≤ 16777215) :
    Calls Tryz.prog 63 #[.int .i64 n] w fun e w' => ∃ v, e = .returned (.tuple #[v, .bool true]) ∧ Owns w.heap.size w' v (ints (scl n.toNat)) ∧ Below w.heap.size w w' := by
  have hin : inB n 0 16777215 = true := inB_true n0 n1
  have C := Lib.hid (scores_any n w n0 n1)
  generalize ints (scl n.toNat) = c at *
  go_enter Tryz.func63, Tryz.ntmps63
  go_wp2_with fail
  refine (implWordValid_any _ _).mono ?_
  rintro e w' ⟨rfl, rfl⟩
  go_wp2_with fail
  refine C.out.mono ?_
  rintro e w1 ⟨v1, rfl, hO1, hs1⟩
  go_wp2_with fail
  go_ret2
  exact ⟨_, rfl, hO1, hs1⟩
theorem word_show (b n : Nat) (w : World) (hn : n < 16777216) (hC : Con b n w) (hG : Gl w) :
    Calls Tryz.prog 34 #[.pointer (some ⟨b, 0, none⟩), .string ⟨cShow.toArray⟩] w (SaidV b w n (wText n)) := by
  have hb0 := Below.refl w.heap.size w
  have hc := hC.cell
  have HG := Lib.hid hG
  have HT := Lib.hid (fun w => implWordText_ok n w hn)
  have HC := Lib.hid hC
  generalize wText n = T at *
  clear hn hG hC
  unfold cShow
  go_enter Tryz.func34, Tryz.ntmps34
  go_wp2_with fail
  refine (HT.out _).mono ?_
  rintro e w1 ⟨rfl, hs1⟩
  have hb1 := hb0.trans (hs1.mono hb0.size)
  go_wp2_with fail
  go_ret3
  exact SaidV.below HC.out hb1 rfl
theorem word_weight (b n : Nat) (w : World) (hn : n < 16777216) (hC : Con b n w) (hG : Gl w) :
    Calls Tryz.prog 34 #[.pointer (some ⟨b, 0, none⟩), .string ⟨cWeight.toArray⟩] w (SaidV b w n (dec (wt n))) := by
  have hb0 := Below.refl w.heap.size w
  have hc := hC.cell
  have HG := Lib.hid hG
  have HT := Lib.hid (fun w => weight_any (n : Int) w (by omega) (by omega))
  have HC := Lib.hid hC
  rw [Int.toNat_natCast] at HT
  have HI := Lib.hid (fun w hG => ItoaD_any (wt n) (by have := wt_le n; omega) w hG)
  generalize dec (wt n) = T at *
  generalize wt n = t at *
  clear hn hG hC
  unfold cWeight
  go_enter Tryz.func34, Tryz.ntmps34
  go_wp2_with fail
  refine (HT.out _).mono ?_
  rintro e w' ⟨rfl, rfl⟩
  go_wp2_with fail
  refine (HI.out _ HG.out).mono ?_
  rintro e w1 ⟨rfl, hs1⟩
  have hb1 := hb0.trans (hs1.mono hb0.size)
  go_wp2_with fail
  go_ret3
  exact SaidV.below HC.out hb1 rfl
theorem word_near_of (b n t : Nat) (w : World) (ht : t ≤ 25) (hC : Con b n w) (hG : Gl w)
    (HT : Hid (∀ w, Calls Tryz.prog 23 #[.int .i64 (n : Int)] w fun e w' => e = .returned (.int .i64 ((t : Nat) : Int)) ∧ Below w.heap.size w w')) :
    Calls Tryz.prog 34 #[.pointer (some ⟨b, 0, none⟩), .string ⟨cNear.toArray⟩] w (SaidV b w n (dec t)) := by
  have hb0 := Below.refl w.heap.size w
  have hc := hC.cell
  have HG := Lib.hid hG
  have HC := Lib.hid hC
  have HI := Lib.hid (fun w hG => ItoaD_any t (by omega) w hG)
  generalize dec t = T at *
  clear ht hG hC
  unfold cNear
  go_enter Tryz.func34, Tryz.ntmps34
  go_wp2_with fail
  refine (HT.out _).mono ?_
  rintro e w1 ⟨rfl, hs1⟩
  have hb1 := hb0.trans (hs1.mono hb0.size)
  go_wp2_with fail
  refine (HI.out _ (HG.out.kept hb1)).mono ?_
  rintro e w2 ⟨rfl, hs2⟩
  have hb2 := hb1.trans (hs2.mono hb1.size)
  go_wp2_with fail
  go_ret3
  exact SaidV.below HC.out hb2 rfl
theorem word_near (b n : Nat) (w : World) (hn : n < 16777216) (hC : Con b n w) (hG : Gl w) :
    Calls Tryz.prog 34 #[.pointer (some ⟨b, 0, none⟩), .string ⟨cNear.toArray⟩] w (SaidV b w n (dec (far n))) :=
  word_near_of b n (far n) w (far_le n) hC hG (Lib.hid (fun w => implCodeFar_ok n w hn))
theorem word_in (b n : Nat) (w : World) (hn : n < 16777216) (hC : Con b n w) (hG : Gl w) :
    Calls Tryz.prog 34 #[.pointer (some ⟨b, 0, none⟩), .string ⟨cIn.toArray⟩] w (SaidV b w n (if codeB n then yesB else notB)) := by
  have hb0 := Below.refl w.heap.size w
  have hc := hC.cell
  have HG := Lib.hid hG
  have HT := Lib.hid (fun w => implCodeIn_ok (n : Int) w (by omega) (by omega))
  have HC := Lib.hid hC
  rw [Int.toNat_natCast] at HT
  generalize codeB n = t at *
  clear hn hG hC
  unfold cIn
  go_enter Tryz.func34, Tryz.ntmps34
  cases t
  · go_wp2_with fail
    refine (HT.out _).mono ?_
    rintro e w1 ⟨rfl, hs1⟩
    have hb1 := hb0.trans (hs1.mono hb0.size)
    go_wp2_with fail
    go_ret3
    exact SaidV.below (out := notB) HC.out hb1 rfl
  · go_wp2_with fail
    refine (HT.out _).mono ?_
    rintro e w1 ⟨rfl, hs1⟩
    have hb1 := hb0.trans (hs1.mono hb0.size)
    go_wp2_with fail
    go_ret3
    exact SaidV.below (out := yesB) HC.out hb1 rfl
theorem word_places (b n : Nat) (w : World) (hn : n < 16777216) (hC : Con b n w) (hG : Gl w) :
    Calls Tryz.prog 34 #[.pointer (some ⟨b, 0, none⟩), .string ⟨cPlaces.toArray⟩] w (SaidV b w n (joinT (places n))) := by
  have hb0 := Below.refl w.heap.size w
  have hc := hC.cell
  have HG := Lib.hid hG
  have HC := Lib.hid hC
  have hbx : ∀ x, x ∈ places n → x ≤ 100000000 := fun x hx => by have := (places_mem.1 hx).1; omega
  have hbl : (places n).length ≤ 5000 := by rw [places_length]; have := wt_le n; omega
  have HT : Hid (∀ w, Calls Tryz.prog 62 #[.int .i64 (n : Int)] w fun e w' => ∃ v, e = .returned (.tuple #[v, .bool true]) ∧ Owns w.heap.size w' v (ints (places n)) ∧ Below w.heap.size w w') := Lib.hid (fun w => by have h := implWordPlaces_ok (n : Int) w (by omega) (by omega); rw [Int.toNat_natCast] at h; exact h)
  have CL := Lib.hid (fun a c w hr hG => listText_any a c (places n) true w hr hbl hbx hG (by have := joinT_len hbx; omega))
  generalize joinT (places n) = T at *
  generalize places n = LL at *
  clear hn hbx hbl hG hC
  unfold cPlaces
  go_enter Tryz.func34, Tryz.ntmps34
  go_wp2_with fail
  refine (HT.out _).mono ?_
  rintro e w1 ⟨v1, rfl, hO1, hs1⟩
  obtain ⟨a1, c1, rfl, hR1, hl1, hc1⟩ := hO1.shapeN
  have hb1 := hb0.trans (hs1.mono hb0.size)
  go_wp2_with fail
  refine (CL.out _ _ _ (readsN_ints hR1) (HG.out.kept hb1)).mono ?_
  rintro e w2 ⟨rfl, hs2⟩
  have hb2 := hb1.trans (hs2.mono hb1.size)
  go_wp2_with fail
  go_ret3
  exact SaidV.below HC.out hb2 rfl
theorem word_scores (b n : Nat) (w : World) (hn : n < 16777216) (hC : Con b n w) (hG : Gl w) :
    Calls Tryz.prog 34 #[.pointer (some ⟨b, 0, none⟩), .string ⟨cScores.toArray⟩] w (SaidV b w n (joinT (scl n))) := by
  have hb0 := Below.refl w.heap.size w
  have hc := hC.cell
  have HG := Lib.hid hG
  have HC := Lib.hid hC
  have hbx : ∀ x, x ∈ scl n → x ≤ 100000000 := fun x hx => by
    obtain ⟨i, hi, rfl⟩ := List.getElem_of_mem hx
    have h1 := scl_le n i
    have h2 : (scl n).getD i 0 = (scl n)[i] := by simp [List.getD, hi]
    omega
  have hbl : (scl n).length ≤ 5000 := by rw [scl_length]; omega
  have HT : Hid (∀ w, Calls Tryz.prog 63 #[.int .i64 (n : Int)] w fun e w' => ∃ v, e = .returned (.tuple #[v, .bool true]) ∧ Owns w.heap.size w' v (ints (scl n)) ∧ Below w.heap.size w w') := Lib.hid (fun w => by have h := implScores_ok (n : Int) w (by omega) (by omega); rw [Int.toNat_natCast] at h; exact h)
  have CL := Lib.hid (fun a c w hr hG => listText_any a c (scl n) true w hr hbl hbx hG (by have := joinT_len hbx; omega))
  generalize joinT (scl n) = T at *
  generalize scl n = LL at *
  clear hn hbx hbl hG hC
  unfold cScores
  go_enter Tryz.func34, Tryz.ntmps34
  go_wp2_with fail
  refine (HT.out _).mono ?_
  rintro e w1 ⟨v1, rfl, hO1, hs1⟩
  obtain ⟨a1, c1, rfl, hR1, hl1, hc1⟩ := hO1.shapeN
  have hb1 := hb0.trans (hs1.mono hb0.size)
  go_wp2_with fail
  refine (CL.out _ _ _ (readsN_ints hR1) (HG.out.kept hb1)).mono ?_
  rintro e w2 ⟨rfl, hs2⟩
  have hb2 := hb1.trans (hs2.mono hb1.size)
  go_wp2_with fail
  go_ret3
  exact SaidV.below HC.out hb2 rfl
theorem word_sextet_ok (b n : Nat) (w : World) (hn : n < 16777216) (hC : Con b n w) (hG : Gl w) (h : wt n = 4) :
    Calls Tryz.prog 34 #[.pointer (some ⟨b, 0, none⟩), .string ⟨cSextet.toArray⟩] w (SaidV b w n (joinT (natsOf (sxL n)))) := by
  have hb0 := Below.refl w.heap.size w
  have hc := hC.cell
  have HG := Lib.hid hG
  have HC := Lib.hid hC
  have hbx : ∀ x, x ∈ natsOf (sxL n) → x ≤ 100000000 := fun x hx => by
    obtain ⟨y, hy, rfl⟩ := List.mem_map.1 hx
    have := sxL_mem hn hy
    omega
  have hbl : (natsOf (sxL n)).length ≤ 5000 := by rw [natsOf_length]; have := sxL_length n; omega
  have HT : Hid (∀ w, Calls Tryz.prog 65 #[.int .i64 (n : Int)] w fun e w' => ∃ v, e = .returned (.tuple #[v, .bool true]) ∧ Owns w.heap.size w' v (ints (natsOf (sxL n))) ∧ Below w.heap.size w w') := Lib.hid (fun w => by
    have h := implSextetOf_ok n w hn h
    rw [← ints_natsOf (l := sxL n) (fun x hx => (sxL_mem hn hx).1)] at h
    exact h)
  have CL := Lib.hid (fun a c w hr hG => listText_any a c (natsOf (sxL n)) true w hr hbl hbx hG (by have := joinT_len hbx; omega))
  generalize joinT (natsOf (sxL n)) = T at *
  generalize natsOf (sxL n) = LL at *
  clear hn hbx hbl h hG hC
  unfold cSextet
  go_enter Tryz.func34, Tryz.ntmps34
  go_wp2_with fail
  refine (HT.out _).mono ?_
  rintro e w1 ⟨v1, rfl, hO1, hs1⟩
  obtain ⟨a1, c1, rfl, hR1, hl1, hc1⟩ := hO1.shapeN
  have hb1 := hb0.trans (hs1.mono hb0.size)
  go_wp2_with fail
  refine (CL.out _ _ _ (readsN_ints hR1) (HG.out.kept hb1)).mono ?_
  rintro e w2 ⟨rfl, hs2⟩
  have hb2 := hb1.trans (hs2.mono hb1.size)
  go_wp2_with fail
  go_ret3
  exact SaidV.below HC.out hb2 rfl
theorem word_meet_ok (b n : Nat) (w : World) (hn : n < 16777216) (hC : Con b n w) (hG : Gl w) (h : octB (n : Int) = true) :
    Calls Tryz.prog 34 #[.pointer (some ⟨b, 0, none⟩), .string ⟨cMeet.toArray⟩] w (SaidV b w n (joinT (natsOf (omL n)))) := by
  have hb0 := Below.refl w.heap.size w
  have hc := hC.cell
  have HG := Lib.hid hG
  have HC := Lib.hid hC
  have hbx : ∀ x, x ∈ natsOf (omL n) → x ≤ 100000000 := fun x hx => by
    obtain ⟨y, hy, rfl⟩ := List.mem_map.1 hx
    have := omL_mem hy
    omega
  have hbl : (natsOf (omL n)).length ≤ 5000 := by rw [natsOf_length, omL_length]; omega
  have HT : Hid (∀ w, Calls Tryz.prog 66 #[.int .i64 (n : Int)] w fun e w' => ∃ v, e = .returned (.tuple #[v, .bool true]) ∧ Owns w.heap.size w' v (ints (natsOf (omL n))) ∧ Below w.heap.size w w') := Lib.hid (fun w => by
    have h := implOctadMeet_ok n w hn h
    rw [← ints_natsOf (l := omL n) (fun x hx => (omL_mem hx).1)] at h
    exact h)
  have CL := Lib.hid (fun a c w hr hG => listText_any a c (natsOf (omL n)) true w hr hbl hbx hG (by have := joinT_len hbx; omega))
  generalize joinT (natsOf (omL n)) = T at *
  generalize natsOf (omL n) = LL at *
  clear hn hbx hbl h hG hC
  unfold cMeet
  go_enter Tryz.func34, Tryz.ntmps34
  go_wp2_with fail
  refine (HT.out _).mono ?_
  rintro e w1 ⟨v1, rfl, hO1, hs1⟩
  obtain ⟨a1, c1, rfl, hR1, hl1, hc1⟩ := hO1.shapeN
  have hb1 := hb0.trans (hs1.mono hb0.size)
  go_wp2_with fail
  refine (CL.out _ _ _ (readsN_ints hR1) (HG.out.kept hb1)).mono ?_
  rintro e w2 ⟨rfl, hs2⟩
  have hb2 := hb1.trans (hs2.mono hb1.size)
  go_wp2_with fail
  go_ret3
  exact SaidV.below HC.out hb2 rfl
theorem word_sextet_no (b n : Nat) (w : World) (hn : n < 16777216) (hC : Con b n w) (hG : Gl w) (h : wt n ≠ 4) :
    Calls Tryz.prog 34 #[.pointer (some ⟨b, 0, none⟩), .string ⟨cSextet.toArray⟩] w (SaidV b w n noB) := by
  have hb0 := Below.refl w.heap.size w
  have hc := hC.cell
  have HG := Lib.hid hG
  have HC := Lib.hid hC
  have hbx : ∀ x, x ∈ ([] : List Nat) → x ≤ 100000000 := fun x hx => by simp at hx
  have hbl : (([] : List Nat)).length ≤ 5000 := by simp
  have HT : Hid (∀ w, Calls Tryz.prog 65 #[.int .i64 (n : Int)] w fun e w' => ∃ v, e = .returned (.tuple #[v, .bool false]) ∧ Owns w.heap.size w' v (ints (([] : List Nat))) ∧ Below w.heap.size w w') := Lib.hid (fun w => implSextetOf_no n w hn h)
  have CL := Lib.hid (fun a c w hr hG => listText_any a c (([] : List Nat)) false w hr hbl hbx hG (by have := joinT_len hbx; omega))
  generalize joinT (([] : List Nat)) = T at *
  generalize ([] : List Nat) = LL at *
  clear hn hbx hbl h hG hC
  unfold cSextet
  go_enter Tryz.func34, Tryz.ntmps34
  go_wp2_with fail
  refine (HT.out _).mono ?_
  rintro e w1 ⟨v1, rfl, hO1, hs1⟩
  obtain ⟨a1, c1, rfl, hR1, hl1, hc1⟩ := hO1.shapeN
  have hb1 := hb0.trans (hs1.mono hb0.size)
  go_wp2_with fail
  refine (CL.out _ _ _ (readsN_ints hR1) (HG.out.kept hb1)).mono ?_
  rintro e w2 ⟨rfl, hs2⟩
  have hb2 := hb1.trans (hs2.mono hb1.size)
  go_wp2_with fail
  go_ret3
  exact SaidV.below HC.out hb2 rfl
theorem word_meet_no (b n : Nat) (w : World) (hn : n < 16777216) (hC : Con b n w) (hG : Gl w) (h : octB (n : Int) = false) :
    Calls Tryz.prog 34 #[.pointer (some ⟨b, 0, none⟩), .string ⟨cMeet.toArray⟩] w (SaidV b w n noB) := by
  have hb0 := Below.refl w.heap.size w
  have hc := hC.cell
  have HG := Lib.hid hG
  have HC := Lib.hid hC
  have hbx : ∀ x, x ∈ ([] : List Nat) → x ≤ 100000000 := fun x hx => by simp at hx
  have hbl : (([] : List Nat)).length ≤ 5000 := by simp
  have HT : Hid (∀ w, Calls Tryz.prog 66 #[.int .i64 (n : Int)] w fun e w' => ∃ v, e = .returned (.tuple #[v, .bool false]) ∧ Owns w.heap.size w' v (ints (([] : List Nat))) ∧ Below w.heap.size w w') := Lib.hid (fun w => implOctadMeet_no n w h)
  have CL := Lib.hid (fun a c w hr hG => listText_any a c (([] : List Nat)) false w hr hbl hbx hG (by have := joinT_len hbx; omega))
  generalize joinT (([] : List Nat)) = T at *
  generalize ([] : List Nat) = LL at *
  clear hn hbx hbl h hG hC
  unfold cMeet
  go_enter Tryz.func34, Tryz.ntmps34
  go_wp2_with fail
  refine (HT.out _).mono ?_
  rintro e w1 ⟨v1, rfl, hO1, hs1⟩
  obtain ⟨a1, c1, rfl, hR1, hl1, hc1⟩ := hO1.shapeN
  have hb1 := hb0.trans (hs1.mono hb0.size)
  go_wp2_with fail
  refine (CL.out _ _ _ (readsN_ints hR1) (HG.out.kept hb1)).mono ?_
  rintro e w2 ⟨rfl, hs2⟩
  have hb2 := hb1.trans (hs2.mono hb1.size)
  go_wp2_with fail
  go_ret3
  exact SaidV.below HC.out hb2 rfl
theorem word_mend (b n : Nat) (w : World) (hn : n < 16777216) (hC : Con b n w) (hG : Gl w) :
    Calls Tryz.prog 34 #[.pointer (some ⟨b, 0, none⟩), .string ⟨cMend.toArray⟩] w (SaidV b w (if far n ≤ 3 then mendW n else n) (if far n ≤ 3 then okB else noB)) := by
  have hb0 := Below.refl w.heap.size w
  have hc := hC.cell
  have HC := Lib.hid hC
  have HT := Lib.hid (fun w => implCodeMend_ok n w hn)
  unfold mendV at HT
  by_cases h : far n ≤ 3
  · rw [if_pos h] at HT ⊢
    rw [if_pos h]
    have HB := Lib.hid (fun w h => become_any b n (mendW n : Int) true w h (fun _ => by omega))
    rw [Int.toNat_natCast] at HB
    generalize mendW n = m at *
    clear hn hG hC h
    unfold cMend
    go_enter Tryz.func34, Tryz.ntmps34
    go_wp2_with fail
    refine (HT.out _).mono ?_
    rintro e w1 ⟨rfl, hs1⟩
    have hb1 := hb0.trans (hs1.mono hb0.size)
    go_wp2_with fail
    refine (HB.out _ (HC.out.kept hb1)).mono ?_
    rintro e w2 ⟨rfl, hC2, hg2⟩
    go_wp2_with fail
    go_ret3
    exact ⟨okB, true, true, rfl, rfl, hC2, (below_but hb1 _).trans hg2⟩
  · rw [if_neg h] at HT ⊢
    rw [if_neg h]
    have HB := Lib.hid (fun w h => become_any b n 0 false w h (fun h => by cases h))
    clear hn hG hC h
    unfold cMend
    go_enter Tryz.func34, Tryz.ntmps34
    go_wp2_with fail
    refine (HT.out _).mono ?_
    rintro e w1 ⟨rfl, hs1⟩
    have hb1 := hb0.trans (hs1.mono hb0.size)
    go_wp2_with fail
    refine (HB.out _ (HC.out.kept hb1)).mono ?_
    rintro e w2 ⟨rfl, hC2, hg2⟩
    go_wp2_with fail
    go_ret3
    exact ⟨okB, false, true, rfl, rfl, hC2, (below_but hb1 _).trans hg2⟩
theorem word_what (b n : Nat) (l : List UInt8) (w : World) (hC : Con b n w)
    (h1 : l ≠ cShow) (h2 : l ≠ cPlaces) (h3 : l ≠ cWeight) (h4 : l ≠ cScores) (h5 : l ≠ cIn) (h6 : l ≠ cMend) (h7 : l ≠ cNear) (h8 : l ≠ cSextet) (h9 : l ≠ cMeet) :
    Calls Tryz.prog 34 #[.pointer (some ⟨b, 0, none⟩), .string ⟨l.toArray⟩] w (SaidV b w n whatB) := by
  have h1 := beq_eq_false_iff_ne.2 h1
  have h2 := beq_eq_false_iff_ne.2 h2
  have h3 := beq_eq_false_iff_ne.2 h3
  have h4 := beq_eq_false_iff_ne.2 h4
  have h5 := beq_eq_false_iff_ne.2 h5
  have h6 := beq_eq_false_iff_ne.2 h6
  have h7 := beq_eq_false_iff_ne.2 h7
  have h8 := beq_eq_false_iff_ne.2 h8
  have h9 := beq_eq_false_iff_ne.2 h9
  have hc := hC.cell
  unfold cShow at h1
  unfold cPlaces at h2
  unfold cWeight at h3
  unfold cScores at h4
  unfold cIn at h5
  unfold cMend at h6
  unfold cNear at h7
  unfold cSextet at h8
  unfold cMeet at h9
  go_enter Tryz.func34, Tryz.ntmps34
  go_wp2_with fail
  go_ret3
  exact ⟨[], false, false, rfl, rfl, hC, World.grownBy.refl w _⟩
theorem word_any (b n : Nat) (s : ByteArray) (w : World) (hn : n < 16777216) (hC : Con b n w) (hG : Gl w) :
    Calls Tryz.prog 34 #[.pointer (some ⟨b, 0, none⟩), .string s] w (SaidV b w (exW n s.data.toList).1 (exW n s.data.toList).2) := by
  have hs : s = ⟨s.data.toList.toArray⟩ := by simp
  unfold exW
  by_cases h1 : s.data.toList = cShow
  · rw [if_pos h1]; rw [hs, h1]; exact word_show b n w hn hC hG
  rw [if_neg h1]
  by_cases h2 : s.data.toList = cPlaces
  · rw [if_pos h2]; rw [hs, h2]; exact word_places b n w hn hC hG
  rw [if_neg h2]
  by_cases h3 : s.data.toList = cWeight
  · rw [if_pos h3]; rw [hs, h3]; exact word_weight b n w hn hC hG
  rw [if_neg h3]
  by_cases h4 : s.data.toList = cScores
  · rw [if_pos h4]; rw [hs, h4]; exact word_scores b n w hn hC hG
  rw [if_neg h4]
  by_cases h5 : s.data.toList = cIn
  · rw [if_pos h5]; rw [hs, h5]; exact word_in b n w hn hC hG
  rw [if_neg h5]
  by_cases h6 : s.data.toList = cMend
  · rw [if_pos h6]; rw [hs, h6]
    have h := word_mend b n w hn hC hG
    by_cases hf : far n ≤ 3
    · rw [if_pos hf, if_pos hf] at h
      rw [if_pos hf]
      exact h
    · rw [if_neg hf, if_neg hf] at h
      rw [if_neg hf]
      exact h
  rw [if_neg h6]
  by_cases h7 : s.data.toList = cNear
  · rw [if_pos h7]; rw [hs, h7]; exact word_near b n w hn hC hG
  rw [if_neg h7]
  by_cases h8 : s.data.toList = cSextet
  · rw [if_pos h8]; rw [hs, h8]
    by_cases h : wt n = 4
    · rw [if_pos h]; exact word_sextet_ok b n w hn hC hG h
    · rw [if_neg h]; exact word_sextet_no b n w hn hC hG h
  rw [if_neg h8]
  by_cases h9 : s.data.toList = cMeet
  · rw [if_pos h9]; rw [hs, h9]
    by_cases h : octB (n : Int) = true
    · rw [if_pos h]; exact word_meet_ok b n w hn hC hG h
    · rw [if_neg h]; exact word_meet_no b n w hn hC hG (by simpa using h)
  rw [if_neg h9]
  have hh := word_what b n s.data.toList w hC h1 h2 h3 h4 h5 h6 h7 h8 h9
  rw [← hs] at hh
  exact hh

end Go.Proofs.YtmgdcnibmifdeaaGreatDoor

/- Contracts of WordRead. -/
set_option linter.unusedVariables false
namespace Go.Proofs.YtmgdcnibmifdeaaGreatDoor
open Go.RowKit Res

/-- What WordRead answers. -/
def readV (s : List UInt8) : Value := match wRead s with
  | some w => .tuple #[.int .i64 (w : Int), .bool true]
  | none => .tuple #[.int .i64 0, .bool false]
theorem byte_at (s : ByteArray) (k : Nat) (hk : k < s.size) : s[k] = s.data.toList.getD k 0 := by
  have hk2 : k < s.data.toList.length := by rw [Array.length_toList]; exact hk
  rw [← elem_getD hk2]
  rfl
theorem idx_str (s : ByteArray) (c : Nat) (hc : c < s.size) (w : World) :
    (Instr.index 9 (.string s) (.int .i64 (c : Int))).run Tryz.prog w = .ok (.int .u8 (((s.data.toList.getD c 0).toNat : Nat) : Int)) w := by
  rw [run_index_string w 9 s .i64 (c : Int) Tryz.underlying9, dif_pos ⟨by omega, by omega⟩]
  have e : s[(c : Int).toNat]'(by omega) = s.data.toList.getD c 0 := by
    have h := byte_at s c hc
    rw [← h]
    congr 1
  rw [e]
theorem implWordRead_any (s : ByteArray) (w : World) (hs : s.size ≤ 100000) (hG : Gl w) :
    Calls Tryz.prog 58 #[.string s] w fun e w' => e = .returned (readV s.data.toList) ∧ Below w.heap.size w w' := by
  have CS := Lib.hid (Split_any s ⟨#[47]⟩ w (by omega) (by decide) hG)
  have HG := Lib.hid (fun k hk => pieces_get s 47 k hk)
  have hpl := pieces_len s 47
  have hsl := spl_length 47 s.data.toList
  have HPT := Lib.hid (fun p (hp : p ∈ spl 47 s.data.toList) => spl_part 47 s.data.toList p hp)
  have hss : s.data.toList.length = s.size := by rw [Array.length_toList]; rfl
  rw [hss] at hsl HPT
  have HV : Hid (readV s.data.toList = if wText (rdAll (spl 47 s.data.toList) (spl 47 s.data.toList).length) = s.data.toList then .tuple #[.int .i64 ((rdAll (spl 47 s.data.toList) (spl 47 s.data.toList).length : Nat) : Int), .bool true] else .tuple #[.int .i64 0, .bool false]) := Lib.hid (by
    unfold readV wRead
    show (match (if wText (rdAll (spl 47 s.data.toList) (spl 47 s.data.toList).length) = s.data.toList then some (rdAll (spl 47 s.data.toList) (spl 47 s.data.toList).length) else none) with | some w => _ | none => _) = _
    split
    · rename_i h; split at h
      · rename_i h2; rw [if_pos h2]; simp only [Option.some.injEq] at h; rw [h]
      · cases h
    · rename_i h; split at h
      · cases h
      · rename_i h2; rw [if_neg h2])
  generalize readV s.data.toList = RV at *
  generalize spl 47 s.data.toList = F at *
  have HPc := Lib.hid (strs_cell w (piecesB s ⟨#[47]⟩) 9)
  have hb1 : Below w.heap.size w (w.alloc (.cells ((piecesB s ⟨#[47]⟩).map Value.string).toArray 9)) := (Below.refl _ _).alloc (Nat.le_refl _) _
  generalize piecesB s ⟨#[47]⟩ = PS at *
  generalize w.alloc (.cells (PS.map Value.string).toArray 9) = w1 at *
  have HS5 := Lib.hid hs
  have HLN : Hid (F.length ≤ 1000000) := Lib.hid (by omega)
  clear hss hs hsl
  go_enter Tryz.func58, Tryz.ntmps58
  go_wp2_with fail
  refine CS.out.mono ?_
  rintro e w1 ⟨rfl, rfl⟩
  go_wp2_with fail
  go_loop [4, 13] (fun s x => ∃ k : Nat, k ≤ PS.length ∧ x = .int .i64 (k : Int) ∧ s = .int .i64 ((rdAll F k : Nat) : Int)) (fun _ x => (PS.length - (intOf x).toNat))
  case atStart => exact ⟨0, by omega, rfl, rfl⟩
  case round =>
    obtain ⟨k, hk, rfl, rfl⟩ := hrel
    have hrl := rdAll_lt F k
    have hrlI : ((rdAll F k : Nat) : Int) ≤ 16777215 := by omega
    by_cases hlt : k < PS.length
    · have hki : (k : Int) < (PS.length : Int) := by omega
      have hkb : (k : Int) < 1000001 := by have := HLN.out; omega
      have hc := HPc.out k PS[k] (List.getElem?_eq_getElem hlt)
      have hkF : k < F.length := by omega
      have hf := HG.out k hlt
      have hgd : F.getD k [] = F[k] := by simp [List.getD, hkF]
      have hfs := HPT.out (F.getD k []) (by rw [hgd]; exact List.getElem_mem hkF)
      have hfsz : PS[k].size = (F.getD k []).length := by rw [← hf, Array.length_toList]; rfl
      have HFd : Hid (PS[k].data.toList = F.getD k []) := Lib.hid hf
      have D : Hid (rdAll F (k + 1) = rdRow (rdAll F k) (F.getD k []) k (F.getD k []).length) := Lib.hid rfl
      have hflI : ((F.getD k []).length : Int) ≤ 100000 := by have := HS5.out; omega
      have HRL := Lib.hid (rdRow_lt hrl (F.getD k []) k)
      have HRH := Lib.hid (fun c => @rdRow_hit (rdAll F k) (F.getD k []) k c)
      have HRM := Lib.hid (fun c => @rdRow_miss (rdAll F k) (F.getD k []) k c)
      have HRZ : Hid (rdRow (rdAll F k) (F.getD k []) k 0 = rdAll F k) := Lib.hid rfl
      clear hf hgd hfs hrl
      generalize rdRow (rdAll F k) (F.getD k []) k = RR at *
      generalize rdAll F k = acc at *
      have HB := Lib.hid (fun (c : Nat) (h : c < PS[k].size) (w : World) => idx_str PS[k] c h w)
      generalize PS[k] = f at *
      generalize F.getD k [] = fl at *
      go_wp2_with fail
      go_loop [4, 20] (fun s x => ∃ c : Nat, c ≤ fl.length ∧ x = .int .i64 (c : Int) ∧ s = .int .i64 ((RR c : Nat) : Int)) (fun _ x => (fl.length - (intOf x).toNat))
      case atStart => exact ⟨0, by omega, rfl, by rw [HRZ.out]⟩
      case round =>
        obtain ⟨c, hcl, rfl, rfl⟩ := hrel
        have hr2 := HRL.out c
        have hr2I : ((RR c : Nat) : Int) ≤ 16777215 := by omega
        by_cases hlt2 : c < fl.length
        · have hci : (c : Int) < (fl.length : Int) := by omega
          have hcz : c < f.size := by omega
          have hb := fun w => HB.out c hcz w
          rw [HFd.out] at hb
          have H1 := Lib.hid (HRH.out c)
          have H2 := Lib.hid (HRM.out c)
          clear hr2
          by_cases hx : fl.getD c 0 = 120
          · have hbx : (((fl.getD c 0).toNat : Nat) : Int) = 120 := by rw [hx]; rfl
            rw [hbx] at hb
            clear hbx
            by_cases h4 : k < 4
            · by_cases h6 : c < 6
              · have D2 := Lib.hid (H1.out ⟨hx, h4, h6⟩)
                have hor := or_step (m := RR c) (k := 4 * c + k) (by omega) (by omega)
                have HOR := Lib.hid hor
                have h4i : (k : Int) < 4 := by omega
                have h6i : (c : Int) < 6 := by omega
                clear hor hx
                go_wp2_with fail
                go_round
                case rel => exact ⟨c + 1, by omega, by go_num, by rw [D2.out]; exact congrArg _ HOR.out⟩
                case measure => simp [intOf]; omega
              · have D2 := Lib.hid (H2.out (fun e => h6 e.2.2))
                have h4i : (k : Int) < 4 := by omega
                have h6i : ¬ (c : Int) < 6 := by omega
                clear hx
                go_wp2_with fail
                go_round
                case rel => exact ⟨c + 1, by omega, by go_num, by rw [D2.out]⟩
                case measure => simp [intOf]; omega
            · have D2 := Lib.hid (H2.out (fun e => h4 e.2.1))
              have h4i : ¬ (k : Int) < 4 := by omega
              clear hx
              go_wp2_with fail
              go_round
              case rel => exact ⟨c + 1, by omega, by go_num, by rw [D2.out]⟩
              case measure => simp [intOf]; omega
          · have hbx : (((fl.getD c 0).toNat : Nat) : Int) ≠ 120 := by
              intro e
              apply hx
              have e2 : (fl.getD c 0).toNat = 120 := by omega
              rw [← UInt8.ofNat_toNat (x := fl.getD c 0), e2]
              rfl
            have hbx2 : ((((fl.getD c 0).toNat : Nat) : Int) == 120) = false := by rw [beq_eq_false_iff_ne]; exact hbx
            generalize (fl.getD c 0).toNat = bt at *
            have D2 := Lib.hid (H2.out (fun e => hx e.1))
            clear hx
            go_wp2_with fail
            go_round
            case rel => exact ⟨c + 1, by omega, by go_num, by rw [D2.out]⟩
            case measure => simp [intOf]; omega
        · obtain rfl : c = fl.length := by omega
          go_wp2_with fail
          go_round
          case rel => exact ⟨k + 1, by omega, by go_num, by rw [D.out]⟩
          case measure => simp [intOf]; omega
    · have hkl : k = PS.length := by omega
      have CT := Lib.hid (fun w => implWordText_ok (rdAll F k) w hrl)
      have HQ : Hid (RV = if wText (rdAll F k) = s.data.toList then .tuple #[.int .i64 ((rdAll F k : Nat) : Int), .bool true] else .tuple #[.int .i64 0, .bool false]) := Lib.hid (by rw [show k = F.length by omega]; exact HV.out)
      have hkS : (F.length : Int) ≤ (k : Int) := by omega
      have hto : s.toList = s.data.toList := Go.Lib.toList_data s
      clear hk hlt hrl HV HG HPT HPc HS5 HLN hkl
      generalize rdAll F k = v at *
      generalize wText v = T at *
      by_cases hT : T = s.data.toList
      · have HT := Lib.hid HQ.out
        rw [if_pos hT] at HT
        have hbeq : (T == s.toList) = true := by rw [hto, hT]; exact beq_self_eq_true _
        clear HQ hT hto
        go_wp2_with fail
        refine (CT.out _).mono ?_
        rintro e w3 ⟨rfl, hs3⟩
        go_wp2_with fail
        go_ret2
        exact ⟨by rw [HT.out]; rfl, hb1.trans (hs3.mono hb1.size)⟩
      · have HT := Lib.hid HQ.out
        rw [if_neg hT] at HT
        have hbeq : (T == s.toList) = false := by rw [hto, beq_eq_false_iff_ne]; exact hT
        clear HQ hT hto
        go_wp2_with fail
        refine (CT.out _).mono ?_
        rintro e w3 ⟨rfl, hs3⟩
        go_wp2_with fail
        go_ret2
        exact ⟨by rw [HT.out]; rfl, hb1.trans (hs3.mono hb1.size)⟩

end Go.Proofs.YtmgdcnibmifdeaaGreatDoor

/- Contracts of the functions on residues: what each returns; nothing in memory changes. -/
set_option linter.unusedVariables false
namespace Go.Proofs.YtmgdcnibmifdeaaGreatDoor
open Go.RowKit Res

theorem residue_any (n : Int) (w : World) :
    Calls Tryz.prog 89 #[.int .i64 n] w fun e w' => e = .returned (.bool (inB n 0 22)) ∧ w = w' := by
  go_enter Tryz.func89, Tryz.ntmps89
  go_wp2_with (go_at_call 40; refine (within_any _ _ _ _).mono ?_; rintro e w' ⟨rfl, rfl⟩)
  go_ret
  exact ⟨rfl, rfl⟩

theorem square_any (n : Int) (w : World) :
    Calls Tryz.prog 138 #[.int .i64 n] w fun e w' => e = .returned (.bool (sq n)) ∧ w = w' := by
  go_enter Tryz.func138, Tryz.ntmps138
  go_wp2
  go_loop [3] (fun x => ∃ k : Nat, k ≤ 22 ∧ x = .int .i64 ((k : Int) + 1) ∧ ∀ j : Nat, j < k → ¬ (((j : Int) + 1) * ((j : Int) + 1)) % 23 = n)
    (fun x => (24 - (intOf x).toNat))
  case atStart => exact ⟨0, by omega, rfl, by omega⟩
  case round =>
    obtain ⟨k, hk, rfl, hn⟩ := hrel
    have hb := mul_bd 23 23 (a := (k : Int) + 1) (b := (k : Int) + 1) (by omega) (by omega) (by omega) (by omega)
    go_wp2
    · have h1 : (k : Int) + 1 < 23 := by assumption
      have h2 : (((k : Int) + 1) * ((k : Int) + 1) % 23 == n) = true := by assumption
      go_ret
      exact ⟨ret_bool (sq_of n k (by omega) (by simpa using h2)).symm, rfl⟩
    · have h1 : (k : Int) + 1 < 23 := by assumption
      have h2 : (((k : Int) + 1) * ((k : Int) + 1) % 23 == n) = false := by assumption
      go_round
      case rel =>
        refine ⟨k + 1, by omega, by go_num, fun j hj => ?_⟩
        by_cases h : j < k
        · exact hn j h
        · obtain rfl : j = k := by omega
          simpa using h2
      case measure => simp [intOf]; omega
    · have h1 : (23 : Int) ≤ (k : Int) + 1 := by assumption
      go_ret
      obtain rfl : k = 22 := by omega
      exact ⟨ret_bool (sq_not n hn).symm, rfl⟩


theorem l8Is_any (n : Int) (w : World) :
    Calls Tryz.prog 154 #[.int .i64 n] w fun e w' => e = .returned (.bool (inB n 0 22)) ∧ w = w' := by
  go_enter Tryz.func154, Tryz.ntmps154
  go_wp2_with (go_at_call 42; refine (l6In_any _ _ _ _).mono ?_; rintro e w' ⟨rfl, rfl⟩)
  go_ret
  exact ⟨rfl, rfl⟩

theorem l8Square_any (n : Int) (w : World) :
    Calls Tryz.prog 179 #[.int .i64 n] w fun e w' => e = .returned (.bool (sq n)) ∧ w = w' := by
  go_enter Tryz.func179, Tryz.ntmps179
  go_wp2
  go_loop [3] (fun x => ∃ k : Nat, k ≤ 22 ∧ x = .int .i64 ((k : Int) + 1) ∧ ∀ j : Nat, j < k → ¬ (((j : Int) + 1) * ((j : Int) + 1)) % 23 = n)
    (fun x => (24 - (intOf x).toNat))
  case atStart => exact ⟨0, by omega, rfl, by omega⟩
  case round =>
    obtain ⟨k, hk, rfl, hn⟩ := hrel
    have hb := mul_bd 23 23 (a := (k : Int) + 1) (b := (k : Int) + 1) (by omega) (by omega) (by omega) (by omega)
    go_wp2
    · have h1 : (k : Int) + 1 < 23 := by assumption
      have h2 : (((k : Int) + 1) * ((k : Int) + 1) % 23 == n) = true := by assumption
      go_ret
      exact ⟨ret_bool (sq_of n k (by omega) (by simpa using h2)).symm, rfl⟩
    · have h1 : (k : Int) + 1 < 23 := by assumption
      have h2 : (((k : Int) + 1) * ((k : Int) + 1) % 23 == n) = false := by assumption
      go_round
      case rel =>
        refine ⟨k + 1, by omega, by go_num, fun j hj => ?_⟩
        by_cases h : j < k
        · exact hn j h
        · obtain rfl : j = k := by omega
          simpa using h2
      case measure => simp [intOf]; omega
    · have h1 : (23 : Int) ≤ (k : Int) + 1 := by assumption
      go_ret
      obtain rfl : k = 22 := by omega
      exact ⟨ret_bool (sq_not n hn).symm, rfl⟩

theorem l8Mod_any (n : Int) (w : World) (h0 : -1000000 ≤ n) (h1 : n ≤ 1000000) :
    Calls Tryz.prog 180 #[.int .i64 n] w fun e w' => e = .returned (.int .i64 (n % 23)) ∧ w = w' := by
  have ht := tmod_cases n 23 (by omega)
  have hb : -22 ≤ n.tmod 23 ∧ n.tmod 23 ≤ 22 := by omega
  have hm : (n.tmod 23 + 23) % 23 = n % 23 := by omega
  clear ht
  have H := Lib.hid hm
  clear hm
  go_enter Tryz.func180, Tryz.ntmps180
  go_wp2
  go_ret
  exact ⟨ret_int (by first | exact H.out | (have := H.out; omega)), rfl⟩

theorem genTo_hit {i k : Nat} (h : sq (((k : Int) - (i : Int)) % 23) = true) : genTo i (k + 1) = genTo i k ||| 2 ^ k := by simp [genTo, h]
theorem genTo_miss {i k : Nat} (h : sq (((k : Int) - (i : Int)) % 23) = false) : genTo i (k + 1) = genTo i k := by simp [genTo, h]
theorem genATo_hit {i k : Nat} (h : sq (((k : Int) - (i : Int)) % 23) = true) : genATo i (k + 1) = genATo i k + 2 ^ k := by simp [genATo, h]
theorem genATo_miss {i k : Nat} (h : sq (((k : Int) - (i : Int)) % 23) = false) : genATo i (k + 1) = genATo i k := by simp [genATo, h]

theorem generator_any (i : Int) (w : World) (h0 : 0 ≤ i) (h1 : i ≤ 22) :
    Calls Tryz.prog 90 #[.int .i64 i] w fun e w' => e = .returned (.int .i64 (gen i.toNat : Nat)) ∧ w = w' := by
  obtain ⟨i, rfl⟩ := Int.eq_ofNat_of_zero_le h0
  rw [Int.toNat_natCast]
  go_enter Tryz.func90, Tryz.ntmps90
  go_wp2
  go_loop [3, 5] (fun s x => ∃ k : Nat, k ≤ 23 ∧ x = .int .i64 (k : Int) ∧ s = .int .i64 (genTo i k : Nat))
    (fun _ x => (24 - (intOf x).toNat))
  case atStart => exact ⟨0, by omega, rfl, rfl⟩
  case round =>
    obtain ⟨k, hk, rfl, rfl⟩ := hrel
    have hm := genTo_le i (by omega) k (by omega)
    go_wp2_with (go_at_call 138; refine (square_any _ _).mono ?_; rintro e w' ⟨rfl, rfl⟩)
    · have hs : sq (((k : Int) - (i : Int)) % 23) = true := by assumption
      go_round
      case rel => exact ⟨k + 1, by omega, by go_num, by rw [or_step hm (by omega), genTo_hit hs]⟩
      case measure => simp [intOf]; omega
    · have hs : sq (((k : Int) - (i : Int)) % 23) = false := by assumption
      go_round
      case rel => exact ⟨k + 1, by omega, by go_num, by rw [genTo_miss hs]⟩
      case measure => simp [intOf]; omega
    · go_ret
      obtain rfl : k = 23 := by omega
      exact ⟨rfl, rfl⟩

theorem l8Word_any (i : Int) (w : World) (h0 : 0 ≤ i) (h1 : i ≤ 22) :
    Calls Tryz.prog 155 #[.int .i64 i] w fun e w' => e = .returned (.int .i64 (gen i.toNat : Nat)) ∧ w = w' := by
  obtain ⟨i, rfl⟩ := Int.eq_ofNat_of_zero_le h0
  rw [Int.toNat_natCast]
  have hfin : ((gen i : Nat) : Int) = (genATo i 23 : Nat) := by rw [genATo_eq i (by omega) 23 (by omega)]; rfl
  rw [hfin]
  clear hfin
  go_enter Tryz.func155, Tryz.ntmps155
  go_wp2
  go_loop [3, 4] (fun s x => ∃ k : Nat, k ≤ 23 ∧ x = .int .i64 (k : Int) ∧ s = .int .i64 (genATo i k : Nat))
    (fun _ x => (24 - (intOf x).toNat))
  case atStart => exact ⟨0, by omega, rfl, rfl⟩
  case round =>
    obtain ⟨k, hk, rfl, rfl⟩ := hrel
    have hm := genTo_le i (by omega) k (by omega)
    rw [← genATo_eq i (by omega) k (by omega)] at hm
    go_wp2_with (first | (go_at_call 180; refine (l8Mod_any _ _ (by omega) (by omega)).mono ?_; rintro e w' ⟨rfl, rfl⟩) | (go_at_call 179; refine (l8Square_any _ _).mono ?_; rintro e w' ⟨rfl, rfl⟩))
    · have hs : sq (((k : Int) - (i : Int)) % 23) = true := by assumption
      go_round
      case rel => exact ⟨k + 1, by omega, by go_num, by rw [add_step hm (by omega), genATo_hit hs]⟩
      case measure => simp [intOf]; omega
    · have hs : sq (((k : Int) - (i : Int)) % 23) = false := by assumption
      go_round
      case rel => exact ⟨k + 1, by omega, by go_num, by rw [genATo_miss hs]⟩
      case measure => simp [intOf]; omega
    · go_ret
      obtain rfl : k = 23 := by omega
      exact ⟨rfl, rfl⟩

theorem implLineWord_no (i : Int) (w : World) (h : inB i 0 22 = false) :
    Calls Tryz.prog 60 #[.int .i64 i] w fun e w' => e = .returned (.tuple #[.int .i64 0, .bool false]) ∧ w = w' := by
  go_enter Tryz.func60, Tryz.ntmps60
  go_wp2_with (first | (go_at_call 89; refine (residue_any _ _).mono ?_; rintro e w' ⟨rfl, rfl⟩))
  go_ret2
  exact ⟨rfl, rfl⟩

theorem specLineWord_no (i : Int) (w : World) (h : inB i 0 22 = false) :
    Calls Tryz.prog 111 #[.int .i64 i] w fun e w' => e = .returned (.tuple #[.int .i64 0, .bool false]) ∧ w = w' := by
  go_enter Tryz.func111, Tryz.ntmps111
  go_wp2_with (first | (go_at_call 154; refine (l8Is_any _ _).mono ?_; rintro e w' ⟨rfl, rfl⟩))
  go_ret2
  exact ⟨rfl, rfl⟩

theorem implLineWord_ok (i : Int) (w : World) (h0 : 0 ≤ i) (h1 : i ≤ 22) :
    Calls Tryz.prog 60 #[.int .i64 i] w fun e w' => e = .returned (.tuple #[.int .i64 (gen i.toNat : Nat), .bool true]) ∧ w = w' := by
  have hb : inB i 0 22 = true := inB_true (by omega) (by omega)
  go_enter Tryz.func60, Tryz.ntmps60
  go_wp2_with (first | (go_at_call 89; refine (residue_any _ _).mono ?_; rintro e w' ⟨rfl, rfl⟩) | (go_at_call 90; refine (generator_any _ _ (by omega) (by omega)).mono ?_; rintro e w' ⟨rfl, rfl⟩))
  go_ret2
  exact ⟨rfl, rfl⟩

theorem specLineWord_ok (i : Int) (w : World) (h0 : 0 ≤ i) (h1 : i ≤ 22) :
    Calls Tryz.prog 111 #[.int .i64 i] w fun e w' => e = .returned (.tuple #[.int .i64 (gen i.toNat : Nat), .bool true]) ∧ w = w' := by
  have hb : inB i 0 22 = true := inB_true (by omega) (by omega)
  go_enter Tryz.func111, Tryz.ntmps111
  go_wp2_with (first | (go_at_call 154; refine (l8Is_any _ _).mono ?_; rintro e w' ⟨rfl, rfl⟩) | (go_at_call 155; refine (l8Word_any _ _ (by omega) (by omega)).mono ?_; rintro e w' ⟨rfl, rfl⟩))
  go_ret2
  exact ⟨rfl, rfl⟩

end Go.Proofs.YtmgdcnibmifdeaaGreatDoor

/- Contract of rest: a line with a rest. (Printed by gen_rest.py.) -/
set_option linter.unusedVariables false
namespace Go.Proofs.YtmgdcnibmifdeaaGreatDoor
open Go.RowKit Res

theorem implWordAddW_any (n m : Nat) (w : World) (hn : n < 16777216) (hm : m < 100000000) :
    Calls Tryz.prog 57 #[.int .i64 (n : Int), .int .i64 (m : Int)] w fun e w' => e = .returned (if m ≤ 16777215 then .tuple #[.int .i64 ((n ^^^ m : Nat) : Int), .bool true] else .tuple #[.int .i64 0, .bool false]) ∧ w = w' := by
  have hin : inB (n : Int) 0 16777215 = true := inB_true (by omega) (by omega)
  have hx := Lib.hid (i64_xor n m (by omega) (by omega))
  by_cases h : m ≤ 16777215
  · rw [if_pos h]
    have hin2 : inB (m : Int) 0 16777215 = true := inB_true (by omega) (by omega)
    clear h hn hm
    generalize n ^^^ m = x at *
    go_enter Tryz.func57, Tryz.ntmps57
    go_wp2_with fail
    refine (implWordValid_any _ _).mono ?_
    rintro e w' ⟨rfl, rfl⟩
    go_wp2_with fail
    refine (implWordValid_any _ _).mono ?_
    rintro e w' ⟨rfl, rfl⟩
    go_wp2_with fail
    go_ret2
    exact ⟨congrArg (fun x => Ending.returned (.tuple #[.int .i64 x, .bool true])) hx.out, rfl⟩
  · rw [if_neg h]
    have hin2 : inB (m : Int) 0 16777215 = false := by
      rw [Bool.eq_false_iff]; intro e; have := (inB_iff.1 e).2; omega
    clear h hn hm hx
    go_enter Tryz.func57, Tryz.ntmps57
    go_wp2_with fail
    refine (implWordValid_any _ _).mono ?_
    rintro e w' ⟨rfl, rfl⟩
    go_wp2_with fail
    refine (implWordValid_any _ _).mono ?_
    rintro e w' ⟨rfl, rfl⟩
    go_wp2_with fail
    go_ret2
    exact ⟨rfl, rfl⟩
theorem implOctadThrough_no (a : Option Addr) (cap : Nat) (l : List Int) (w : World) (hl : l.length ≤ 9223372036854775807) (hr : Reads .i64 w a l) (hd : diff l = false) :
    Calls Tryz.prog 59 #[.slice a l.length cap] w fun e w' => e = .returned (.tuple #[.int .i64 0, .bool false]) ∧ w = w' := by
  have CW := Lib.hid (implWordOf_any a cap l w hl hr)
  unfold wordOfV at CW
  rw [hd] at CW
  clear hl hr hd
  generalize l.length = k at *
  go_enter Tryz.func59, Tryz.ntmps59
  go_wp2_with fail
  refine (CW.out).mono ?_
  rintro e w' ⟨rfl, rfl⟩
  go_wp2_with fail
  go_ret2
  exact ⟨rfl, rfl⟩
theorem rest_set_ok (b n : Nat) (s : ByteArray) (w : World) (hC : Con b n w) (hG : Gl w) (p : Nat) (B5 : Bool)
    (HN : Hid (∀ w, Gl w → Calls Tryz.prog 55 #[.string s, .int .i64 1] w fun e w' => ∃ v, e = .returned (.tuple #[v, .bool true]) ∧ Owns w.heap.size w' v ([(p : Int)]) ∧ Below w.heap.size w w'))
    (HM : Hid (∀ w, Gl w → Calls Tryz.prog 55 #[.string s, .int .i64 5] w fun e w' => ∃ v, e = .returned (.tuple #[v, .bool B5]) ∧ Owns w.heap.size w' v ([(p : Int)]) ∧ Below w.heap.size w w')) (hp : p ≤ 16777215) :
    Calls Tryz.prog 33 #[.pointer (some ⟨b, 0, none⟩), .string ⟨cSet.toArray⟩, .string s] w (SaidV b w p okB) := by
  have hb0 := Below.refl w.heap.size w
  have hc := hC.cell
  have HG := Lib.hid hG
  have HC := Lib.hid hC
  have HB := Lib.hid (fun w h => become_any b n (p : Int) true w h (fun _ => by omega))
  rw [Int.toNat_natCast] at HB
  have hin : inB (p : Int) 0 16777215 = true := inB_true (by omega) (by omega)
  clear hG hC hp
  unfold cSet
  go_enter Tryz.func33, Tryz.ntmps33
  go_wp2_with fail
  refine (HN.out _ HG.out).mono ?_
  rintro e w1 ⟨v1, rfl, hO1, hs1⟩
  obtain ⟨a1, c1, rfl, hR1, hl1, hc1⟩ := hO1.shape
  have hb1 := hb0.trans (hs1.mono hb0.size)
  go_wp2_with fail
  refine (HM.out _ (HG.out.kept hb1)).mono ?_
  rintro e w2 ⟨v2, rfl, hO2, hs2⟩
  obtain ⟨a2, c2, rfl, hR2, hl2, hc2⟩ := hO2.shape
  have hb2 := hb1.trans (hs2.mono hb1.size)
  have HC2 := Lib.hid (HC.out.kept hb2)
  have hc2 := HC2.out.cell
  obtain ⟨q, off, ha, hq, hcc⟩ := (hR1.kept hs2) 0 (by simp)
  subst ha
  rw [Nat.add_zero] at hcc
  have hcc : w2.cell? ⟨q, off, none⟩ = some (.int .i64 (p : Int)) := hcc
  go_wp2_with fail
  refine (implWordValid_any _ _).mono ?_
  rintro e w' ⟨rfl, rfl⟩
  go_wp2_with fail
  refine (HB.out _ HC2.out).mono ?_
  rintro e w3 ⟨rfl, hC3, hg3⟩
  go_wp2_with fail
  go_ret3
  exact ⟨okB, true, true, rfl, rfl, hC3, (below_but hb2 _).trans hg3⟩
theorem rest_set_big (b n : Nat) (s : ByteArray) (w : World) (hC : Con b n w) (hG : Gl w) (p : Nat) (B5 : Bool)
    (HN : Hid (∀ w, Gl w → Calls Tryz.prog 55 #[.string s, .int .i64 1] w fun e w' => ∃ v, e = .returned (.tuple #[v, .bool true]) ∧ Owns w.heap.size w' v ([(p : Int)]) ∧ Below w.heap.size w w'))
    (HM : Hid (∀ w, Gl w → Calls Tryz.prog 55 #[.string s, .int .i64 5] w fun e w' => ∃ v, e = .returned (.tuple #[v, .bool B5]) ∧ Owns w.heap.size w' v ([(p : Int)]) ∧ Below w.heap.size w w')) (hp : 16777215 < p) :
    Calls Tryz.prog 33 #[.pointer (some ⟨b, 0, none⟩), .string ⟨cSet.toArray⟩, .string s] w (SaidV b w n noB) := by
  have hb0 := Below.refl w.heap.size w
  have hc := hC.cell
  have HG := Lib.hid hG
  have HC := Lib.hid hC
  have hin : inB (p : Int) 0 16777215 = false := by
    rw [Bool.eq_false_iff]; intro e; have := (inB_iff.1 e).2; omega
  clear hG hC hp
  unfold cSet
  go_enter Tryz.func33, Tryz.ntmps33
  go_wp2_with fail
  refine (HN.out _ HG.out).mono ?_
  rintro e w1 ⟨v1, rfl, hO1, hs1⟩
  obtain ⟨a1, c1, rfl, hR1, hl1, hc1⟩ := hO1.shape
  have hb1 := hb0.trans (hs1.mono hb0.size)
  go_wp2_with fail
  refine (HM.out _ (HG.out.kept hb1)).mono ?_
  rintro e w2 ⟨v2, rfl, hO2, hs2⟩
  obtain ⟨a2, c2, rfl, hR2, hl2, hc2⟩ := hO2.shape
  have hb2 := hb1.trans (hs2.mono hb1.size)
  have HC2 := Lib.hid (HC.out.kept hb2)
  have hc2 := HC2.out.cell
  obtain ⟨q, off, ha, hq, hcc⟩ := (hR1.kept hs2) 0 (by simp)
  subst ha
  rw [Nat.add_zero] at hcc
  have hcc : w2.cell? ⟨q, off, none⟩ = some (.int .i64 (p : Int)) := hcc
  go_wp2_with fail
  refine (implWordValid_any _ _).mono ?_
  rintro e w' ⟨rfl, rfl⟩
  go_wp2_with fail
  go_ret3
  exact ⟨[], false, true, rfl, rfl, HC2.out, below_but hb2 _⟩
theorem rest_set_no (b n : Nat) (s : ByteArray) (w : World) (hC : Con b n w) (hG : Gl w) (L : List Int) (B5 : Bool)
    (HN : Hid (∀ w, Gl w → Calls Tryz.prog 55 #[.string s, .int .i64 1] w fun e w' => ∃ v, e = .returned (.tuple #[v, .bool false]) ∧ Owns w.heap.size w' v (L) ∧ Below w.heap.size w w'))
    (HM : Hid (∀ w, Gl w → Calls Tryz.prog 55 #[.string s, .int .i64 5] w fun e w' => ∃ v, e = .returned (.tuple #[v, .bool B5]) ∧ Owns w.heap.size w' v (L) ∧ Below w.heap.size w w')) :
    Calls Tryz.prog 33 #[.pointer (some ⟨b, 0, none⟩), .string ⟨cSet.toArray⟩, .string s] w (SaidV b w n noB) := by
  have hb0 := Below.refl w.heap.size w
  have hc := hC.cell
  have HG := Lib.hid hG
  have HC := Lib.hid hC
  clear hG hC
  unfold cSet
  go_enter Tryz.func33, Tryz.ntmps33
  go_wp2_with fail
  refine (HN.out _ HG.out).mono ?_
  rintro e w1 ⟨v1, rfl, hO1, hs1⟩
  obtain ⟨a1, c1, rfl, hR1, hl1, hc1⟩ := hO1.shape
  have hb1 := hb0.trans (hs1.mono hb0.size)
  go_wp2_with fail
  refine (HM.out _ (HG.out.kept hb1)).mono ?_
  rintro e w2 ⟨v2, rfl, hO2, hs2⟩
  obtain ⟨a2, c2, rfl, hR2, hl2, hc2⟩ := hO2.shape
  have hb2 := hb1.trans (hs2.mono hb1.size)
  have HC2 := Lib.hid (HC.out.kept hb2)
  have hc2 := HC2.out.cell
  go_wp2_with fail
  go_ret3
  exact ⟨[], false, true, rfl, rfl, HC2.out, below_but hb2 _⟩
theorem rest_add_no (b n : Nat) (s : ByteArray) (w : World) (hC : Con b n w) (hG : Gl w) (L : List Int) (B5 : Bool)
    (HN : Hid (∀ w, Gl w → Calls Tryz.prog 55 #[.string s, .int .i64 1] w fun e w' => ∃ v, e = .returned (.tuple #[v, .bool false]) ∧ Owns w.heap.size w' v (L) ∧ Below w.heap.size w w'))
    (HM : Hid (∀ w, Gl w → Calls Tryz.prog 55 #[.string s, .int .i64 5] w fun e w' => ∃ v, e = .returned (.tuple #[v, .bool B5]) ∧ Owns w.heap.size w' v (L) ∧ Below w.heap.size w w')) :
    Calls Tryz.prog 33 #[.pointer (some ⟨b, 0, none⟩), .string ⟨cAdd.toArray⟩, .string s] w (SaidV b w n noB) := by
  have hb0 := Below.refl w.heap.size w
  have hc := hC.cell
  have HG := Lib.hid hG
  have HC := Lib.hid hC
  clear hG hC
  unfold cAdd
  go_enter Tryz.func33, Tryz.ntmps33
  go_wp2_with fail
  refine (HN.out _ HG.out).mono ?_
  rintro e w1 ⟨v1, rfl, hO1, hs1⟩
  obtain ⟨a1, c1, rfl, hR1, hl1, hc1⟩ := hO1.shape
  have hb1 := hb0.trans (hs1.mono hb0.size)
  go_wp2_with fail
  refine (HM.out _ (HG.out.kept hb1)).mono ?_
  rintro e w2 ⟨v2, rfl, hO2, hs2⟩
  obtain ⟨a2, c2, rfl, hR2, hl2, hc2⟩ := hO2.shape
  have hb2 := hb1.trans (hs2.mono hb1.size)
  have HC2 := Lib.hid (HC.out.kept hb2)
  have hc2 := HC2.out.cell
  go_wp2_with fail
  go_ret3
  exact ⟨[], false, true, rfl, rfl, HC2.out, below_but hb2 _⟩
theorem rest_code_no (b n : Nat) (s : ByteArray) (w : World) (hC : Con b n w) (hG : Gl w) (L : List Int) (B5 : Bool)
    (HN : Hid (∀ w, Gl w → Calls Tryz.prog 55 #[.string s, .int .i64 1] w fun e w' => ∃ v, e = .returned (.tuple #[v, .bool false]) ∧ Owns w.heap.size w' v (L) ∧ Below w.heap.size w w'))
    (HM : Hid (∀ w, Gl w → Calls Tryz.prog 55 #[.string s, .int .i64 5] w fun e w' => ∃ v, e = .returned (.tuple #[v, .bool B5]) ∧ Owns w.heap.size w' v (L) ∧ Below w.heap.size w w')) :
    Calls Tryz.prog 33 #[.pointer (some ⟨b, 0, none⟩), .string ⟨cCode.toArray⟩, .string s] w (SaidV b w n noB) := by
  have hb0 := Below.refl w.heap.size w
  have hc := hC.cell
  have HG := Lib.hid hG
  have HC := Lib.hid hC
  clear hG hC
  unfold cCode
  go_enter Tryz.func33, Tryz.ntmps33
  go_wp2_with fail
  refine (HN.out _ HG.out).mono ?_
  rintro e w1 ⟨v1, rfl, hO1, hs1⟩
  obtain ⟨a1, c1, rfl, hR1, hl1, hc1⟩ := hO1.shape
  have hb1 := hb0.trans (hs1.mono hb0.size)
  go_wp2_with fail
  refine (HM.out _ (HG.out.kept hb1)).mono ?_
  rintro e w2 ⟨v2, rfl, hO2, hs2⟩
  obtain ⟨a2, c2, rfl, hR2, hl2, hc2⟩ := hO2.shape
  have hb2 := hb1.trans (hs2.mono hb1.size)
  have HC2 := Lib.hid (HC.out.kept hb2)
  have hc2 := HC2.out.cell
  go_wp2_with fail
  go_ret3
  exact ⟨[], false, true, rfl, rfl, HC2.out, below_but hb2 _⟩
theorem rest_line_no (b n : Nat) (s : ByteArray) (w : World) (hC : Con b n w) (hG : Gl w) (L : List Int) (B5 : Bool)
    (HN : Hid (∀ w, Gl w → Calls Tryz.prog 55 #[.string s, .int .i64 1] w fun e w' => ∃ v, e = .returned (.tuple #[v, .bool false]) ∧ Owns w.heap.size w' v (L) ∧ Below w.heap.size w w'))
    (HM : Hid (∀ w, Gl w → Calls Tryz.prog 55 #[.string s, .int .i64 5] w fun e w' => ∃ v, e = .returned (.tuple #[v, .bool B5]) ∧ Owns w.heap.size w' v (L) ∧ Below w.heap.size w w')) :
    Calls Tryz.prog 33 #[.pointer (some ⟨b, 0, none⟩), .string ⟨cLine.toArray⟩, .string s] w (SaidV b w n noB) := by
  have hb0 := Below.refl w.heap.size w
  have hc := hC.cell
  have HG := Lib.hid hG
  have HC := Lib.hid hC
  clear hG hC
  unfold cLine
  go_enter Tryz.func33, Tryz.ntmps33
  go_wp2_with fail
  refine (HN.out _ HG.out).mono ?_
  rintro e w1 ⟨v1, rfl, hO1, hs1⟩
  obtain ⟨a1, c1, rfl, hR1, hl1, hc1⟩ := hO1.shape
  have hb1 := hb0.trans (hs1.mono hb0.size)
  go_wp2_with fail
  refine (HM.out _ (HG.out.kept hb1)).mono ?_
  rintro e w2 ⟨v2, rfl, hO2, hs2⟩
  obtain ⟨a2, c2, rfl, hR2, hl2, hc2⟩ := hO2.shape
  have hb2 := hb1.trans (hs2.mono hb1.size)
  have HC2 := Lib.hid (HC.out.kept hb2)
  have hc2 := HC2.out.cell
  go_wp2_with fail
  go_ret3
  exact ⟨[], false, true, rfl, rfl, HC2.out, below_but hb2 _⟩
theorem rest_octad_no (b n : Nat) (s : ByteArray) (w : World) (hC : Con b n w) (hG : Gl w) (L : List Int) (B1 : Bool)
    (HN : Hid (∀ w, Gl w → Calls Tryz.prog 55 #[.string s, .int .i64 1] w fun e w' => ∃ v, e = .returned (.tuple #[v, .bool B1]) ∧ Owns w.heap.size w' v (L) ∧ Below w.heap.size w w'))
    (HM : Hid (∀ w, Gl w → Calls Tryz.prog 55 #[.string s, .int .i64 5] w fun e w' => ∃ v, e = .returned (.tuple #[v, .bool false]) ∧ Owns w.heap.size w' v (L) ∧ Below w.heap.size w w')) :
    Calls Tryz.prog 33 #[.pointer (some ⟨b, 0, none⟩), .string ⟨cOctad.toArray⟩, .string s] w (SaidV b w n noB) := by
  have hb0 := Below.refl w.heap.size w
  have hc := hC.cell
  have HG := Lib.hid hG
  have HC := Lib.hid hC
  clear hG hC
  unfold cOctad
  go_enter Tryz.func33, Tryz.ntmps33
  go_wp2_with fail
  refine (HN.out _ HG.out).mono ?_
  rintro e w1 ⟨v1, rfl, hO1, hs1⟩
  obtain ⟨a1, c1, rfl, hR1, hl1, hc1⟩ := hO1.shape
  have hb1 := hb0.trans (hs1.mono hb0.size)
  go_wp2_with fail
  refine (HM.out _ (HG.out.kept hb1)).mono ?_
  rintro e w2 ⟨v2, rfl, hO2, hs2⟩
  obtain ⟨a2, c2, rfl, hR2, hl2, hc2⟩ := hO2.shape
  have hb2 := hb1.trans (hs2.mono hb1.size)
  have HC2 := Lib.hid (HC.out.kept hb2)
  have hc2 := HC2.out.cell
  go_wp2_with fail
  go_ret3
  exact ⟨[], false, true, rfl, rfl, HC2.out, below_but hb2 _⟩
theorem rest_code_ok (b n : Nat) (s : ByteArray) (w : World) (hC : Con b n w) (hG : Gl w) (p : Nat) (B5 : Bool)
    (HN : Hid (∀ w, Gl w → Calls Tryz.prog 55 #[.string s, .int .i64 1] w fun e w' => ∃ v, e = .returned (.tuple #[v, .bool true]) ∧ Owns w.heap.size w' v ([(p : Int)]) ∧ Below w.heap.size w w'))
    (HM : Hid (∀ w, Gl w → Calls Tryz.prog 55 #[.string s, .int .i64 5] w fun e w' => ∃ v, e = .returned (.tuple #[v, .bool B5]) ∧ Owns w.heap.size w' v ([(p : Int)]) ∧ Below w.heap.size w w')) (hp : p ≤ 4095) :
    Calls Tryz.prog 33 #[.pointer (some ⟨b, 0, none⟩), .string ⟨cCode.toArray⟩, .string s] w (SaidV b w (code p) okB) := by
  have hb0 := Below.refl w.heap.size w
  have hc := hC.cell
  have HG := Lib.hid hG
  have HC := Lib.hid hC
  have HB := Lib.hid (fun w h => become_any b n ((code p : Nat) : Int) true w h (fun _ => by omega))
  rw [Int.toNat_natCast] at HB
  have HT := Lib.hid (fun w => implCodeOf_ok (p : Int) w (by omega) (by omega))
  rw [Int.toNat_natCast] at HT
  generalize code p = x at *
  clear hG hC hp
  unfold cCode
  go_enter Tryz.func33, Tryz.ntmps33
  go_wp2_with fail
  refine (HN.out _ HG.out).mono ?_
  rintro e w1 ⟨v1, rfl, hO1, hs1⟩
  obtain ⟨a1, c1, rfl, hR1, hl1, hc1⟩ := hO1.shape
  have hb1 := hb0.trans (hs1.mono hb0.size)
  go_wp2_with fail
  refine (HM.out _ (HG.out.kept hb1)).mono ?_
  rintro e w2 ⟨v2, rfl, hO2, hs2⟩
  obtain ⟨a2, c2, rfl, hR2, hl2, hc2⟩ := hO2.shape
  have hb2 := hb1.trans (hs2.mono hb1.size)
  have HC2 := Lib.hid (HC.out.kept hb2)
  have hc2 := HC2.out.cell
  obtain ⟨q, off, ha, hq, hcc⟩ := (hR1.kept hs2) 0 (by simp)
  subst ha
  rw [Nat.add_zero] at hcc
  have hcc : w2.cell? ⟨q, off, none⟩ = some (.int .i64 (p : Int)) := hcc
  go_wp2_with fail
  refine (HT.out _).mono ?_
  rintro e w3 ⟨rfl, hs3⟩
  have hb3 := hb2.trans (hs3.mono hb2.size)
  go_wp2_with fail
  refine (HB.out _ (HC2.out.kept hs3)).mono ?_
  rintro e w4 ⟨rfl, hC4, hg4⟩
  go_wp2_with fail
  go_ret3
  exact ⟨okB, true, true, rfl, rfl, hC4, (below_but hb3 _).trans hg4⟩
theorem rest_code_big (b n : Nat) (s : ByteArray) (w : World) (hC : Con b n w) (hG : Gl w) (p : Nat) (B5 : Bool)
    (HN : Hid (∀ w, Gl w → Calls Tryz.prog 55 #[.string s, .int .i64 1] w fun e w' => ∃ v, e = .returned (.tuple #[v, .bool true]) ∧ Owns w.heap.size w' v ([(p : Int)]) ∧ Below w.heap.size w w'))
    (HM : Hid (∀ w, Gl w → Calls Tryz.prog 55 #[.string s, .int .i64 5] w fun e w' => ∃ v, e = .returned (.tuple #[v, .bool B5]) ∧ Owns w.heap.size w' v ([(p : Int)]) ∧ Below w.heap.size w w')) (hp : 4095 < p) :
    Calls Tryz.prog 33 #[.pointer (some ⟨b, 0, none⟩), .string ⟨cCode.toArray⟩, .string s] w (SaidV b w n noB) := by
  have hb0 := Below.refl w.heap.size w
  have hc := hC.cell
  have HG := Lib.hid hG
  have HC := Lib.hid hC
  have HB := Lib.hid (fun w h => become_any b n 0 false w h (fun h => by cases h))
  have HT := Lib.hid (fun w => implCodeOf_no (p : Int) w (by
    rw [Bool.eq_false_iff]; intro e; have := (inB_iff.1 e).2; omega))
  clear hG hC hp
  unfold cCode
  go_enter Tryz.func33, Tryz.ntmps33
  go_wp2_with fail
  refine (HN.out _ HG.out).mono ?_
  rintro e w1 ⟨v1, rfl, hO1, hs1⟩
  obtain ⟨a1, c1, rfl, hR1, hl1, hc1⟩ := hO1.shape
  have hb1 := hb0.trans (hs1.mono hb0.size)
  go_wp2_with fail
  refine (HM.out _ (HG.out.kept hb1)).mono ?_
  rintro e w2 ⟨v2, rfl, hO2, hs2⟩
  obtain ⟨a2, c2, rfl, hR2, hl2, hc2⟩ := hO2.shape
  have hb2 := hb1.trans (hs2.mono hb1.size)
  have HC2 := Lib.hid (HC.out.kept hb2)
  have hc2 := HC2.out.cell
  obtain ⟨q, off, ha, hq, hcc⟩ := (hR1.kept hs2) 0 (by simp)
  subst ha
  rw [Nat.add_zero] at hcc
  have hcc : w2.cell? ⟨q, off, none⟩ = some (.int .i64 (p : Int)) := hcc
  go_wp2_with fail
  refine (HT.out _).mono ?_
  rintro e w' ⟨rfl, rfl⟩
  go_wp2_with fail
  refine (HB.out _ HC2.out).mono ?_
  rintro e w3 ⟨rfl, hC3, hg3⟩
  go_wp2_with fail
  go_ret3
  exact ⟨okB, false, true, rfl, rfl, hC3, (below_but hb2 _).trans hg3⟩
theorem rest_line_ok (b n : Nat) (s : ByteArray) (w : World) (hC : Con b n w) (hG : Gl w) (p : Nat) (B5 : Bool)
    (HN : Hid (∀ w, Gl w → Calls Tryz.prog 55 #[.string s, .int .i64 1] w fun e w' => ∃ v, e = .returned (.tuple #[v, .bool true]) ∧ Owns w.heap.size w' v ([(p : Int)]) ∧ Below w.heap.size w w'))
    (HM : Hid (∀ w, Gl w → Calls Tryz.prog 55 #[.string s, .int .i64 5] w fun e w' => ∃ v, e = .returned (.tuple #[v, .bool B5]) ∧ Owns w.heap.size w' v ([(p : Int)]) ∧ Below w.heap.size w w')) (hp : p ≤ 22) :
    Calls Tryz.prog 33 #[.pointer (some ⟨b, 0, none⟩), .string ⟨cLine.toArray⟩, .string s] w (SaidV b w (gen p) okB) := by
  have hb0 := Below.refl w.heap.size w
  have hc := hC.cell
  have HG := Lib.hid hG
  have HC := Lib.hid hC
  have HB := Lib.hid (fun w h => become_any b n ((gen p : Nat) : Int) true w h (fun _ => by omega))
  rw [Int.toNat_natCast] at HB
  have HT := Lib.hid (fun w => implLineWord_ok (p : Int) w (by omega) (by omega))
  rw [Int.toNat_natCast] at HT
  generalize gen p = x at *
  clear hG hC hp
  unfold cLine
  go_enter Tryz.func33, Tryz.ntmps33
  go_wp2_with fail
  refine (HN.out _ HG.out).mono ?_
  rintro e w1 ⟨v1, rfl, hO1, hs1⟩
  obtain ⟨a1, c1, rfl, hR1, hl1, hc1⟩ := hO1.shape
  have hb1 := hb0.trans (hs1.mono hb0.size)
  go_wp2_with fail
  refine (HM.out _ (HG.out.kept hb1)).mono ?_
  rintro e w2 ⟨v2, rfl, hO2, hs2⟩
  obtain ⟨a2, c2, rfl, hR2, hl2, hc2⟩ := hO2.shape
  have hb2 := hb1.trans (hs2.mono hb1.size)
  have HC2 := Lib.hid (HC.out.kept hb2)
  have hc2 := HC2.out.cell
  obtain ⟨q, off, ha, hq, hcc⟩ := (hR1.kept hs2) 0 (by simp)
  subst ha
  rw [Nat.add_zero] at hcc
  have hcc : w2.cell? ⟨q, off, none⟩ = some (.int .i64 (p : Int)) := hcc
  go_wp2_with fail
  refine (HT.out _).mono ?_
  rintro e w' ⟨rfl, rfl⟩
  go_wp2_with fail
  refine (HB.out _ HC2.out).mono ?_
  rintro e w3 ⟨rfl, hC3, hg3⟩
  go_wp2_with fail
  go_ret3
  exact ⟨okB, true, true, rfl, rfl, hC3, (below_but hb2 _).trans hg3⟩
theorem rest_line_big (b n : Nat) (s : ByteArray) (w : World) (hC : Con b n w) (hG : Gl w) (p : Nat) (B5 : Bool)
    (HN : Hid (∀ w, Gl w → Calls Tryz.prog 55 #[.string s, .int .i64 1] w fun e w' => ∃ v, e = .returned (.tuple #[v, .bool true]) ∧ Owns w.heap.size w' v ([(p : Int)]) ∧ Below w.heap.size w w'))
    (HM : Hid (∀ w, Gl w → Calls Tryz.prog 55 #[.string s, .int .i64 5] w fun e w' => ∃ v, e = .returned (.tuple #[v, .bool B5]) ∧ Owns w.heap.size w' v ([(p : Int)]) ∧ Below w.heap.size w w')) (hp : 22 < p) :
    Calls Tryz.prog 33 #[.pointer (some ⟨b, 0, none⟩), .string ⟨cLine.toArray⟩, .string s] w (SaidV b w n noB) := by
  have hb0 := Below.refl w.heap.size w
  have hc := hC.cell
  have HG := Lib.hid hG
  have HC := Lib.hid hC
  have HB := Lib.hid (fun w h => become_any b n 0 false w h (fun h => by cases h))
  have HT := Lib.hid (fun w => implLineWord_no (p : Int) w (by
    rw [Bool.eq_false_iff]; intro e; have := (inB_iff.1 e).2; omega))
  clear hG hC hp
  unfold cLine
  go_enter Tryz.func33, Tryz.ntmps33
  go_wp2_with fail
  refine (HN.out _ HG.out).mono ?_
  rintro e w1 ⟨v1, rfl, hO1, hs1⟩
  obtain ⟨a1, c1, rfl, hR1, hl1, hc1⟩ := hO1.shape
  have hb1 := hb0.trans (hs1.mono hb0.size)
  go_wp2_with fail
  refine (HM.out _ (HG.out.kept hb1)).mono ?_
  rintro e w2 ⟨v2, rfl, hO2, hs2⟩
  obtain ⟨a2, c2, rfl, hR2, hl2, hc2⟩ := hO2.shape
  have hb2 := hb1.trans (hs2.mono hb1.size)
  have HC2 := Lib.hid (HC.out.kept hb2)
  have hc2 := HC2.out.cell
  obtain ⟨q, off, ha, hq, hcc⟩ := (hR1.kept hs2) 0 (by simp)
  subst ha
  rw [Nat.add_zero] at hcc
  have hcc : w2.cell? ⟨q, off, none⟩ = some (.int .i64 (p : Int)) := hcc
  go_wp2_with fail
  refine (HT.out _).mono ?_
  rintro e w' ⟨rfl, rfl⟩
  go_wp2_with fail
  refine (HB.out _ HC2.out).mono ?_
  rintro e w3 ⟨rfl, hC3, hg3⟩
  go_wp2_with fail
  go_ret3
  exact ⟨okB, false, true, rfl, rfl, hC3, (below_but hb2 _).trans hg3⟩
theorem rest_read_ok (b n : Nat) (s : ByteArray) (w : World) (hC : Con b n w) (hG : Gl w) (L : List Int) (B1 : Bool) (B5 : Bool)
    (HN : Hid (∀ w, Gl w → Calls Tryz.prog 55 #[.string s, .int .i64 1] w fun e w' => ∃ v, e = .returned (.tuple #[v, .bool B1]) ∧ Owns w.heap.size w' v (L) ∧ Below w.heap.size w w'))
    (HM : Hid (∀ w, Gl w → Calls Tryz.prog 55 #[.string s, .int .i64 5] w fun e w' => ∃ v, e = .returned (.tuple #[v, .bool B5]) ∧ Owns w.heap.size w' v (L) ∧ Below w.heap.size w w')) (hs : s.size ≤ 100000) (x : Nat) (hx : wRead s.data.toList = some x) :
    Calls Tryz.prog 33 #[.pointer (some ⟨b, 0, none⟩), .string ⟨cRead.toArray⟩, .string s] w (SaidV b w x okB) := by
  have hb0 := Below.refl w.heap.size w
  have hc := hC.cell
  have HG := Lib.hid hG
  have HC := Lib.hid hC
  have HB := Lib.hid (fun w h => become_any b n (x : Int) true w h (fun _ => by omega))
  rw [Int.toNat_natCast] at HB
  have HT := Lib.hid (fun w hG => implWordRead_any s w hs hG)
  unfold readV at HT
  rw [hx] at HT
  clear hG hC hs hx
  unfold cRead
  go_enter Tryz.func33, Tryz.ntmps33
  go_wp2_with fail
  refine (HN.out _ HG.out).mono ?_
  rintro e w1 ⟨v1, rfl, hO1, hs1⟩
  obtain ⟨a1, c1, rfl, hR1, hl1, hc1⟩ := hO1.shape
  have hb1 := hb0.trans (hs1.mono hb0.size)
  go_wp2_with fail
  refine (HM.out _ (HG.out.kept hb1)).mono ?_
  rintro e w2 ⟨v2, rfl, hO2, hs2⟩
  obtain ⟨a2, c2, rfl, hR2, hl2, hc2⟩ := hO2.shape
  have hb2 := hb1.trans (hs2.mono hb1.size)
  have HC2 := Lib.hid (HC.out.kept hb2)
  have hc2 := HC2.out.cell
  go_wp2_with fail
  refine (HT.out _ (HG.out.kept hb2)).mono ?_
  rintro e w3 ⟨rfl, hs3⟩
  have hb3 := hb2.trans (hs3.mono hb2.size)
  go_wp2_with fail
  refine (HB.out _ (HC2.out.kept hs3)).mono ?_
  rintro e w4 ⟨rfl, hC4, hg4⟩
  go_wp2_with fail
  go_ret3
  exact ⟨okB, true, true, rfl, rfl, hC4, (below_but hb3 _).trans hg4⟩
theorem rest_read_no (b n : Nat) (s : ByteArray) (w : World) (hC : Con b n w) (hG : Gl w) (L : List Int) (B1 : Bool) (B5 : Bool)
    (HN : Hid (∀ w, Gl w → Calls Tryz.prog 55 #[.string s, .int .i64 1] w fun e w' => ∃ v, e = .returned (.tuple #[v, .bool B1]) ∧ Owns w.heap.size w' v (L) ∧ Below w.heap.size w w'))
    (HM : Hid (∀ w, Gl w → Calls Tryz.prog 55 #[.string s, .int .i64 5] w fun e w' => ∃ v, e = .returned (.tuple #[v, .bool B5]) ∧ Owns w.heap.size w' v (L) ∧ Below w.heap.size w w')) (hs : s.size ≤ 100000) (hx : wRead s.data.toList = none) :
    Calls Tryz.prog 33 #[.pointer (some ⟨b, 0, none⟩), .string ⟨cRead.toArray⟩, .string s] w (SaidV b w n noB) := by
  have hb0 := Below.refl w.heap.size w
  have hc := hC.cell
  have HG := Lib.hid hG
  have HC := Lib.hid hC
  have HB := Lib.hid (fun w h => become_any b n 0 false w h (fun h => by cases h))
  have HT := Lib.hid (fun w hG => implWordRead_any s w hs hG)
  unfold readV at HT
  rw [hx] at HT
  clear hG hC hs hx
  unfold cRead
  go_enter Tryz.func33, Tryz.ntmps33
  go_wp2_with fail
  refine (HN.out _ HG.out).mono ?_
  rintro e w1 ⟨v1, rfl, hO1, hs1⟩
  obtain ⟨a1, c1, rfl, hR1, hl1, hc1⟩ := hO1.shape
  have hb1 := hb0.trans (hs1.mono hb0.size)
  go_wp2_with fail
  refine (HM.out _ (HG.out.kept hb1)).mono ?_
  rintro e w2 ⟨v2, rfl, hO2, hs2⟩
  obtain ⟨a2, c2, rfl, hR2, hl2, hc2⟩ := hO2.shape
  have hb2 := hb1.trans (hs2.mono hb1.size)
  have HC2 := Lib.hid (HC.out.kept hb2)
  have hc2 := HC2.out.cell
  go_wp2_with fail
  refine (HT.out _ (HG.out.kept hb2)).mono ?_
  rintro e w3 ⟨rfl, hs3⟩
  have hb3 := hb2.trans (hs3.mono hb2.size)
  go_wp2_with fail
  refine (HB.out _ (HC2.out.kept hs3)).mono ?_
  rintro e w4 ⟨rfl, hC4, hg4⟩
  go_wp2_with fail
  go_ret3
  exact ⟨okB, false, true, rfl, rfl, hC4, (below_but hb3 _).trans hg4⟩
theorem rest_octad_ok (b n : Nat) (s : ByteArray) (w : World) (hC : Con b n w) (hG : Gl w) (fl : List Nat) (B1 : Bool)
    (HN : Hid (∀ w, Gl w → Calls Tryz.prog 55 #[.string s, .int .i64 1] w fun e w' => ∃ v, e = .returned (.tuple #[v, .bool B1]) ∧ Owns w.heap.size w' v (ints fl) ∧ Below w.heap.size w w'))
    (HM : Hid (∀ w, Gl w → Calls Tryz.prog 55 #[.string s, .int .i64 5] w fun e w' => ∃ v, e = .returned (.tuple #[v, .bool true]) ∧ Owns w.heap.size w' v (ints fl) ∧ Below w.heap.size w w')) (h5 : fl.length = 5) (hd : diff (ints fl) = true) (o : Nat) (ho : wi (mk (ints fl) 5) = [((o : Nat) : Int)]) :
    Calls Tryz.prog 33 #[.pointer (some ⟨b, 0, none⟩), .string ⟨cOctad.toArray⟩, .string s] w (SaidV b w o okB) := by
  have hb0 := Below.refl w.heap.size w
  have hc := hC.cell
  have HG := Lib.hid hG
  have HC := Lib.hid hC
  have HB := Lib.hid (fun w h => become_any b n (o : Int) true w h (fun _ => by omega))
  rw [Int.toNat_natCast] at HB
  have h5 : (ints fl).length = 5 := by rw [ints_length]; exact h5
  have HT := Lib.hid (fun a cap w hr => implOctadThrough_ok a cap (ints fl) w hr hd h5 o ho)
  rw [h5] at HT
  have H5 := Lib.hid h5
  generalize ints fl = FL at *
  clear hG hC h5 hd ho
  unfold cOctad
  go_enter Tryz.func33, Tryz.ntmps33
  go_wp2_with fail
  refine (HN.out _ HG.out).mono ?_
  rintro e w1 ⟨v1, rfl, hO1, hs1⟩
  obtain ⟨a1, c1, rfl, hR1, hl1, hc1⟩ := hO1.shape
  have hb1 := hb0.trans (hs1.mono hb0.size)
  go_wp2_with fail
  refine (HM.out _ (HG.out.kept hb1)).mono ?_
  rintro e w2 ⟨v2, rfl, hO2, hs2⟩
  obtain ⟨a2, c2, rfl, hR2, hl2, hc2⟩ := hO2.shape
  have hb2 := hb1.trans (hs2.mono hb1.size)
  have HC2 := Lib.hid (HC.out.kept hb2)
  have hc2 := HC2.out.cell
  rw [H5.out] at hl2
  simp only [H5.out]
  go_wp2_with fail
  refine (HT.out _ _ _ hR2).mono ?_
  rintro e w3 ⟨rfl, hs3⟩
  have hb3 := hb2.trans (hs3.mono hb2.size)
  go_wp2_with fail
  refine (HB.out _ (HC2.out.kept hs3)).mono ?_
  rintro e w4 ⟨rfl, hC4, hg4⟩
  go_wp2_with fail
  go_ret3
  exact ⟨okB, true, true, rfl, rfl, hC4, (below_but hb3 _).trans hg4⟩
theorem rest_octad_bad (b n : Nat) (s : ByteArray) (w : World) (hC : Con b n w) (hG : Gl w) (fl : List Nat) (B1 : Bool)
    (HN : Hid (∀ w, Gl w → Calls Tryz.prog 55 #[.string s, .int .i64 1] w fun e w' => ∃ v, e = .returned (.tuple #[v, .bool B1]) ∧ Owns w.heap.size w' v (ints fl) ∧ Below w.heap.size w w'))
    (HM : Hid (∀ w, Gl w → Calls Tryz.prog 55 #[.string s, .int .i64 5] w fun e w' => ∃ v, e = .returned (.tuple #[v, .bool true]) ∧ Owns w.heap.size w' v (ints fl) ∧ Below w.heap.size w w')) (h5 : fl.length = 5) (hd : diff (ints fl) = false) :
    Calls Tryz.prog 33 #[.pointer (some ⟨b, 0, none⟩), .string ⟨cOctad.toArray⟩, .string s] w (SaidV b w n noB) := by
  have hb0 := Below.refl w.heap.size w
  have hc := hC.cell
  have HG := Lib.hid hG
  have HC := Lib.hid hC
  have HB := Lib.hid (fun w h => become_any b n 0 false w h (fun h => by cases h))
  have h5 : (ints fl).length = 5 := by rw [ints_length]; exact h5
  have HT := Lib.hid (fun a cap w hr => implOctadThrough_no a cap (ints fl) w (by omega) hr hd)
  rw [h5] at HT
  have H5 := Lib.hid h5
  generalize ints fl = FL at *
  clear hG hC h5 hd
  unfold cOctad
  go_enter Tryz.func33, Tryz.ntmps33
  go_wp2_with fail
  refine (HN.out _ HG.out).mono ?_
  rintro e w1 ⟨v1, rfl, hO1, hs1⟩
  obtain ⟨a1, c1, rfl, hR1, hl1, hc1⟩ := hO1.shape
  have hb1 := hb0.trans (hs1.mono hb0.size)
  go_wp2_with fail
  refine (HM.out _ (HG.out.kept hb1)).mono ?_
  rintro e w2 ⟨v2, rfl, hO2, hs2⟩
  obtain ⟨a2, c2, rfl, hR2, hl2, hc2⟩ := hO2.shape
  have hb2 := hb1.trans (hs2.mono hb1.size)
  have HC2 := Lib.hid (HC.out.kept hb2)
  have hc2 := HC2.out.cell
  rw [H5.out] at hl2
  simp only [H5.out]
  go_wp2_with fail
  refine (HT.out _ _ _ hR2).mono ?_
  rintro e w' ⟨rfl, rfl⟩
  go_wp2_with fail
  refine (HB.out _ HC2.out).mono ?_
  rintro e w3 ⟨rfl, hC3, hg3⟩
  go_wp2_with fail
  go_ret3
  exact ⟨okB, false, true, rfl, rfl, hC3, (below_but hb2 _).trans hg3⟩
theorem rest_what (b n : Nat) (c : List UInt8) (s : ByteArray) (w : World) (hC : Con b n w) (hG : Gl w) (L : List Int) (B1 B5 : Bool)
    (HN : Hid (∀ w, Gl w → Calls Tryz.prog 55 #[.string s, .int .i64 1] w fun e w' => ∃ v, e = .returned (.tuple #[v, .bool B1]) ∧ Owns w.heap.size w' v (L) ∧ Below w.heap.size w w'))
    (HM : Hid (∀ w, Gl w → Calls Tryz.prog 55 #[.string s, .int .i64 5] w fun e w' => ∃ v, e = .returned (.tuple #[v, .bool B5]) ∧ Owns w.heap.size w' v (L) ∧ Below w.heap.size w w'))
    (h1 : c ≠ cSet) (h2 : c ≠ cAdd) (h3 : c ≠ cRead) (h4 : c ≠ cCode) (h5 : c ≠ cOctad) (h6 : c ≠ cLine) :
    Calls Tryz.prog 33 #[.pointer (some ⟨b, 0, none⟩), .string ⟨c.toArray⟩, .string s] w (SaidV b w n whatB) := by
  have h1 := beq_eq_false_iff_ne.2 h1
  have h2 := beq_eq_false_iff_ne.2 h2
  have h3 := beq_eq_false_iff_ne.2 h3
  have h4 := beq_eq_false_iff_ne.2 h4
  have h5 := beq_eq_false_iff_ne.2 h5
  have h6 := beq_eq_false_iff_ne.2 h6
  unfold cSet at h1
  unfold cAdd at h2
  unfold cRead at h3
  unfold cCode at h4
  unfold cOctad at h5
  unfold cLine at h6
  have hb0 := Below.refl w.heap.size w
  have HG := Lib.hid hG
  have HC := Lib.hid hC
  clear hG hC
  go_enter Tryz.func33, Tryz.ntmps33
  go_wp2_with fail
  refine (HN.out _ HG.out).mono ?_
  rintro e w1 ⟨v1, rfl, hO1, hs1⟩
  obtain ⟨a1, c1, rfl, hR1, hl1, hc1⟩ := hO1.shape
  have hb1 := hb0.trans (hs1.mono hb0.size)
  go_wp2_with fail
  refine (HM.out _ (HG.out.kept hb1)).mono ?_
  rintro e w2 ⟨v2, rfl, hO2, hs2⟩
  obtain ⟨a2, c2, rfl, hR2, hl2, hc2⟩ := hO2.shape
  have hb2 := hb1.trans (hs2.mono hb1.size)
  go_wp2_with fail
  go_ret3
  exact ⟨[], false, false, rfl, rfl, HC.out.kept hb2, below_but hb2 _⟩

end Go.Proofs.YtmgdcnibmifdeaaGreatDoor

/- Contract of rest: add. (Printed by gen_rest.py.) -/
set_option linter.unusedVariables false
namespace Go.Proofs.YtmgdcnibmifdeaaGreatDoor
open Go.RowKit Res

theorem rest_add_ok (b n : Nat) (s : ByteArray) (w : World) (hC : Con b n w) (hG : Gl w) (p : Nat) (B5 : Bool)
    (HN : Hid (∀ w, Gl w → Calls Tryz.prog 55 #[.string s, .int .i64 1] w fun e w' => ∃ v, e = .returned (.tuple #[v, .bool true]) ∧ Owns w.heap.size w' v ([(p : Int)]) ∧ Below w.heap.size w w'))
    (HM : Hid (∀ w, Gl w → Calls Tryz.prog 55 #[.string s, .int .i64 5] w fun e w' => ∃ v, e = .returned (.tuple #[v, .bool B5]) ∧ Owns w.heap.size w' v ([(p : Int)]) ∧ Below w.heap.size w w')) (hn : n < 16777216) (hq : p < 100000000) (hp : p ≤ 16777215) :
    Calls Tryz.prog 33 #[.pointer (some ⟨b, 0, none⟩), .string ⟨cAdd.toArray⟩, .string s] w (SaidV b w (n ^^^ p) okB) := by
  have hb0 := Below.refl w.heap.size w
  have hc := hC.cell
  have HG := Lib.hid hG
  have HC := Lib.hid hC
  have HB := Lib.hid (fun w h => become_any b n ((n ^^^ p : Nat) : Int) true w h (fun _ => by omega))
  rw [Int.toNat_natCast] at HB
  have HT := Lib.hid (fun w => implWordAddW_any n p w hn hq)
  rw [if_pos hp] at HT
  generalize n ^^^ p = x at *
  clear hG hC hn hq hp
  unfold cAdd
  go_enter Tryz.func33, Tryz.ntmps33
  go_wp2_with fail
  refine (HN.out _ HG.out).mono ?_
  rintro e w1 ⟨v1, rfl, hO1, hs1⟩
  obtain ⟨a1, c1, rfl, hR1, hl1, hc1⟩ := hO1.shape
  have hb1 := hb0.trans (hs1.mono hb0.size)
  go_wp2_with fail
  refine (HM.out _ (HG.out.kept hb1)).mono ?_
  rintro e w2 ⟨v2, rfl, hO2, hs2⟩
  obtain ⟨a2, c2, rfl, hR2, hl2, hc2⟩ := hO2.shape
  have hb2 := hb1.trans (hs2.mono hb1.size)
  have HC2 := Lib.hid (HC.out.kept hb2)
  have hc2 := HC2.out.cell
  obtain ⟨q, off, ha, hq, hcc⟩ := (hR1.kept hs2) 0 (by simp)
  subst ha
  rw [Nat.add_zero] at hcc
  have hcc : w2.cell? ⟨q, off, none⟩ = some (.int .i64 (p : Int)) := hcc
  go_wp2_with fail
  go_region_with (first | (go_at_call 57; refine (HT.out _).mono ?_; rintro e w' ⟨rfl, rfl⟩) | (go_at_call 56; refine (HB.out _ (show Con b n w2.drew from HC2.out)).mono ?_; rintro e w3 ⟨rfl, hC3, hg3⟩))
  all_goals
    go_wp2_with fail
    go_ret3
    exact ⟨okB, true, true, rfl, rfl, hC3, (below_but hb2.drew _).trans hg3⟩
theorem rest_add_big (b n : Nat) (s : ByteArray) (w : World) (hC : Con b n w) (hG : Gl w) (p : Nat) (B5 : Bool)
    (HN : Hid (∀ w, Gl w → Calls Tryz.prog 55 #[.string s, .int .i64 1] w fun e w' => ∃ v, e = .returned (.tuple #[v, .bool true]) ∧ Owns w.heap.size w' v ([(p : Int)]) ∧ Below w.heap.size w w'))
    (HM : Hid (∀ w, Gl w → Calls Tryz.prog 55 #[.string s, .int .i64 5] w fun e w' => ∃ v, e = .returned (.tuple #[v, .bool B5]) ∧ Owns w.heap.size w' v ([(p : Int)]) ∧ Below w.heap.size w w')) (hn : n < 16777216) (hq : p < 100000000) (hp : ¬ p ≤ 16777215) :
    Calls Tryz.prog 33 #[.pointer (some ⟨b, 0, none⟩), .string ⟨cAdd.toArray⟩, .string s] w (SaidV b w n noB) := by
  have hb0 := Below.refl w.heap.size w
  have hc := hC.cell
  have HG := Lib.hid hG
  have HC := Lib.hid hC
  have HB := Lib.hid (fun w h => become_any b n 0 false w h (fun h => by cases h))
  have HT := Lib.hid (fun w => implWordAddW_any n p w hn hq)
  rw [if_neg hp] at HT
  clear hG hC hn hq hp
  unfold cAdd
  go_enter Tryz.func33, Tryz.ntmps33
  go_wp2_with fail
  refine (HN.out _ HG.out).mono ?_
  rintro e w1 ⟨v1, rfl, hO1, hs1⟩
  obtain ⟨a1, c1, rfl, hR1, hl1, hc1⟩ := hO1.shape
  have hb1 := hb0.trans (hs1.mono hb0.size)
  go_wp2_with fail
  refine (HM.out _ (HG.out.kept hb1)).mono ?_
  rintro e w2 ⟨v2, rfl, hO2, hs2⟩
  obtain ⟨a2, c2, rfl, hR2, hl2, hc2⟩ := hO2.shape
  have hb2 := hb1.trans (hs2.mono hb1.size)
  have HC2 := Lib.hid (HC.out.kept hb2)
  have hc2 := HC2.out.cell
  obtain ⟨q, off, ha, hq, hcc⟩ := (hR1.kept hs2) 0 (by simp)
  subst ha
  rw [Nat.add_zero] at hcc
  have hcc : w2.cell? ⟨q, off, none⟩ = some (.int .i64 (p : Int)) := hcc
  go_wp2_with fail
  go_region_with (first | (go_at_call 57; refine (HT.out _).mono ?_; rintro e w' ⟨rfl, rfl⟩) | (go_at_call 56; refine (HB.out _ (show Con b n w2.drew from HC2.out)).mono ?_; rintro e w3 ⟨rfl, hC3, hg3⟩))
  all_goals
    go_wp2_with fail
    go_ret3
    exact ⟨okB, false, true, rfl, rfl, hC3, (below_but hb2.drew _).trans hg3⟩

end Go.Proofs.YtmgdcnibmifdeaaGreatDoor

/- Contract of rest, joined. -/
set_option linter.unusedVariables false
namespace Go.Proofs.YtmgdcnibmifdeaaGreatDoor
open Go.RowKit Res

theorem oneN_yes {s : List UInt8} {p : Nat} (h : oneN s = some p) : numbersL s = [(p : Int)] ∧ numbersB s 1 = true ∧ p < 100000000 := by
  unfold oneN at h
  unfold numbersL numbersB
  split at h
  · rename_i q hq
    simp only [Option.some.injEq] at h
    subst h
    rw [hq]
    refine ⟨rfl, rfl, numsL_lt hq _ (by simp)⟩
  · cases h
theorem oneN_no {s : List UInt8} (h : oneN s = none) : numbersB s 1 = false := by
  unfold oneN at h
  unfold numbersB
  cases hq : nums s with
  | none => rfl
  | some l =>
    rw [hq] at h
    match l, h with
    | [], _ => rfl
    | [q], h => cases h
    | _ :: _ :: _, _ => exact decide_eq_false (by simp; omega)
theorem fiveN_yes {s : List UInt8} {o : Nat} (h : fiveN s = some o) : ∃ fl, numbersL s = ints fl ∧ numbersB s 5 = true ∧ fl.length = 5 ∧ diff (ints fl) = true ∧ wi (mk (ints fl) 5) = [((o : Nat) : Int)] := by
  unfold fiveN at h
  unfold numbersL numbersB
  split at h
  · rename_i fl hq
    rw [hq]
    unfold throughM at h
    split at h
    · rename_i hc
      simp only [Option.some.injEq] at h
      have hok := (okTo_iff (ints fl)).2 hc.1
      rw [ints_length, hc.2] at hok
      obtain ⟨o', h1, h2, -⟩ := wi_five (mk_lt hok) (mk_wt hok)
      rw [h1] at h
      have h' : o' = o := by simpa using h
      refine ⟨fl, rfl, ?_, hc.2, hc.1, by rw [h1, h']⟩
      exact decide_eq_true (by rw [hc.2]; rfl)
    · cases h
  · cases h
theorem fiveN_no {s : List UInt8} (h : fiveN s = none) : numbersB s 5 = false ∨ ∃ fl, numbersL s = ints fl ∧ numbersB s 5 = true ∧ fl.length = 5 ∧ diff (ints fl) = false := by
  unfold fiveN at h
  unfold numbersL numbersB
  cases hq : nums s with
  | none => exact .inl rfl
  | some fl =>
    rw [hq] at h
    simp only at h ⊢
    unfold throughM at h
    by_cases h5 : fl.length = 5
    · refine .inr ⟨fl, rfl, decide_eq_true (by rw [h5]; rfl), h5, ?_⟩
      by_cases hd : diff (ints fl) = true
      · rw [if_pos ⟨hd, h5⟩] at h; cases h
      · simpa using hd
    · exact .inl (decide_eq_false (by omega))

theorem rest_any (b n : Nat) (c : List UInt8) (s : ByteArray) (w : World) (hn : n < 16777216) (hs : s.size ≤ 100000) (hC : Con b n w) (hG : Gl w) :
    Calls Tryz.prog 33 #[.pointer (some ⟨b, 0, none⟩), .string ⟨c.toArray⟩, .string s] w (SaidV b w (sayR n (exR n c s.data.toList)).1 (sayR n (exR n c s.data.toList)).2) := by
  have HN := Lib.hid (fun w hG => numbers_any s 1 w hs hG)
  have HM := Lib.hid (fun w hG => numbers_any s 5 w hs hG)
  generalize hS : s.data.toList = S at *
  unfold exR
  by_cases h1 : c = cSet
  · subst h1
    rw [if_pos rfl]
    cases ho : oneN S with
    | none =>
      rw [oneN_no ho] at HN
      exact rest_set_no b n s w hC hG _ _ HN HM
    | some p =>
      obtain ⟨e1, e2, e3⟩ := oneN_yes ho
      rw [e1, e2] at HN
      rw [e1] at HM
      simp only
      by_cases hp : p ≤ 16777215
      · rw [if_pos hp]
        exact rest_set_ok b n s w hC hG p _ HN HM hp
      · rw [if_neg hp]
        exact rest_set_big b n s w hC hG p _ HN HM (by omega)
  rw [if_neg h1]
  by_cases h2 : c = cAdd
  · subst h2
    rw [if_pos rfl]
    cases ho : oneN S with
    | none =>
      rw [oneN_no ho] at HN
      exact rest_add_no b n s w hC hG _ _ HN HM
    | some p =>
      obtain ⟨e1, e2, e3⟩ := oneN_yes ho
      rw [e1, e2] at HN
      rw [e1] at HM
      simp only
      by_cases hp : p ≤ 16777215
      · rw [if_pos hp]
        exact rest_add_ok b n s w hC hG p _ HN HM hn e3 hp
      · rw [if_neg hp]
        exact rest_add_big b n s w hC hG p _ HN HM hn e3 hp
  rw [if_neg h2]
  by_cases h3 : c = cRead
  · subst h3
    rw [if_pos rfl]
    cases ho : wRead S with
    | none => exact rest_read_no b n s w hC hG _ _ _ HN HM hs (by rw [hS]; exact ho)
    | some x => exact rest_read_ok b n s w hC hG _ _ _ HN HM hs x (by rw [hS]; exact ho)
  rw [if_neg h3]
  by_cases h4 : c = cCode
  · subst h4
    rw [if_pos rfl]
    cases ho : oneN S with
    | none =>
      rw [oneN_no ho] at HN
      exact rest_code_no b n s w hC hG _ _ HN HM
    | some p =>
      obtain ⟨e1, e2, e3⟩ := oneN_yes ho
      rw [e1, e2] at HN
      rw [e1] at HM
      simp only
      by_cases hp : p ≤ 4095
      · rw [if_pos hp]
        exact rest_code_ok b n s w hC hG p _ HN HM hp
      · rw [if_neg hp]
        exact rest_code_big b n s w hC hG p _ HN HM (by omega)
  rw [if_neg h4]
  by_cases h5 : c = cOctad
  · subst h5
    rw [if_pos rfl]
    cases ho : fiveN S with
    | none =>
      rcases fiveN_no ho with e | ⟨fl, e1, e2, e3, e4⟩
      · rw [e] at HM
        exact rest_octad_no b n s w hC hG _ _ HN HM
      · rw [e1, e2] at HM
        rw [e1] at HN
        exact rest_octad_bad b n s w hC hG fl _ HN HM e3 e4
    | some o =>
      obtain ⟨fl, e1, e2, e3, e4, e5⟩ := fiveN_yes ho
      rw [e1, e2] at HM
      rw [e1] at HN
      exact rest_octad_ok b n s w hC hG fl _ HN HM e3 e4 o e5
  rw [if_neg h5]
  by_cases h6 : c = cLine
  · subst h6
    rw [if_pos rfl]
    cases ho : oneN S with
    | none =>
      rw [oneN_no ho] at HN
      exact rest_line_no b n s w hC hG _ _ HN HM
    | some p =>
      obtain ⟨e1, e2, e3⟩ := oneN_yes ho
      rw [e1, e2] at HN
      rw [e1] at HM
      simp only
      by_cases hp : p ≤ 22
      · rw [if_pos hp]
        exact rest_line_ok b n s w hC hG p _ HN HM hp
      · rw [if_neg hp]
        exact rest_line_big b n s w hC hG p _ HN HM (by omega)
  rw [if_neg h6]
  exact rest_what b n c s w hC hG _ _ _ HN HM h1 h2 h3 h4 h5 h6

end Go.Proofs.YtmgdcnibmifdeaaGreatDoor

/- The lines of a script, one after the other. -/
set_option linter.unusedVariables false
namespace Go.Proofs.YtmgdcnibmifdeaaGreatDoor
open Res

/-- The word and the answers after k lines. -/
def exK (L : List (List UInt8)) : Nat → Nat × List UInt8
  | 0 => (0, [])
  | k + 1 => ((exL (exK L k).1 (L.getD k [])).1, (exK L k).2 ++ ((exL (exK L k).1 (L.getD k [])).2 ++ [10]))
theorem exS_snoc (n : Nat) (l : List (List UInt8)) (x : List UInt8) : exS n (l ++ [x]) = ((exL (exS n l).1 x).1, (exS n l).2 ++ ((exL (exS n l).1 x).2 ++ [10])) := by
  induction l generalizing n with
  | nil => simp [exS]
  | cons y l ih => simp only [List.cons_append, exS, ih, List.append_assoc]
theorem exK_eq (L : List (List UInt8)) (k : Nat) (h : k ≤ L.length) : exS 0 (L.take k) = exK L k := by
  induction k with
  | zero => rfl
  | succ k ih =>
    have hk : k < L.length := by omega
    have e : L.getD k [] = L[k] := by simp [List.getD, hk]
    rw [List.take_succ_eq_append_getElem hk, exS_snoc, ih (by omega), ← e]
    rfl
theorem exK_lt (L : List (List UInt8)) (k : Nat) : (exK L k).1 < 16777216 := by
  induction k with
  | zero => show 0 < 16777216; omega
  | succ k ih => exact exL_lt ih _
theorem exK_len (L : List (List UInt8)) (k : Nat) : (exK L k).2.length ≤ 50001 * k := by
  induction k with
  | zero => show ([] : List UInt8).length ≤ _; simp
  | succ k ih =>
    have h := exL_len (exK_lt L k) (L.getD k [])
    show ((exK L k).2 ++ ((exL (exK L k).1 (L.getD k [])).2 ++ [10])).length ≤ _
    rw [List.length_append, List.length_append]
    simp only [List.length_cons, List.length_nil]
    omega
theorem exec_eq (s : List UInt8) (h : s.length ≤ 600) : exec s = (exK (spl 10 s) ((spl 10 s).length - 1)).2 ++ ((wordB ++ dec (exK (spl 10 s) ((spl 10 s).length - 1)).1) ++ [10]) := by
  unfold exec linesOf
  rw [if_neg (by omega), List.dropLast_eq_take, exK_eq _ _ (by omega)]
  simp only [List.append_assoc]
theorem exec_long (s : List UInt8) (h : 600 < s.length) : exec s = tooLong := by
  unfold exec
  rw [if_pos h]

end Go.Proofs.YtmgdcnibmifdeaaGreatDoor

/- The contract of Execute. -/
set_option linter.unusedVariables false
namespace Go.Proofs.YtmgdcnibmifdeaaGreatDoor
open Go.RowKit Res

theorem Bld.grown {b c : Nat} {l : List UInt8} {w w' : World} (h : Bld b l w) (hg : w.grownBy w' (some c)) (hc : c < b) : Bld b l w' := by
  have key : ∀ p, Go.Lib.BuilderAtF 43 5 b b p (Go.Lib.byteCells l) w → Go.Lib.BuilderAtF 43 5 b b p (Go.Lib.byteCells l) w' := by
    intro p h
    have hlt := h.lt
    obtain ⟨hB, v, hv, hown, hne⟩ := h
    refine ⟨hB, v, (hg.block b hlt (fun e => by simp at e; omega)).trans hv, hown.kept hg ?_, hne⟩
    rcases hown.2 with ⟨rfl, -⟩ | ⟨g, cap, cur, fz, rfl, hbg, -⟩
    · exact .inl rfl
    · exact .inr (fun e => by simp [Value.ownBlock] at e; omega)
  exact h.elim (fun x => .inl (key _ x)) (fun x => .inr (key _ x))
theorem cutL_no (c : UInt8) (l : List UInt8) (h : (cutL c l).2.2 = false) : (cutL c l).1 = l := by
  induction l with
  | nil => rfl
  | cons b l ih =>
    unfold cutL at h ⊢
    split at h
    · cases h
    · rename_i hb
      rw [if_neg hb]
      simp only at h ⊢
      rw [ih h]
theorem cutL_rest (c : UInt8) (l : List UInt8) : (cutL c l).2.1.length ≤ l.length := by
  induction l with
  | nil => simp [cutL]
  | cons b l ih =>
    unfold cutL
    split
    · simp
    · simp only [List.length_cons]; omega
theorem Cut2_any (s : ByteArray) (w : World) (hs : s.size ≤ 1000000) (hG : Gl w) :
    Calls Tryz.prog 32 #[.string s, .string ⟨#[32]⟩] w fun e w' => e = .returned (.tuple #[.string ⟨(cutL 32 s.data.toList).1.toArray⟩, .string ⟨(cutL 32 s.data.toList).2.1.toArray⟩, .bool (cutL 32 s.data.toList).2.2]) ∧ Below w.heap.size w w' := by
  refine (Cut_any s ⟨#[32]⟩ w hs hG).mono ?_
  rintro e w' ⟨rfl, n, rfl⟩
  have h : Go.Lib.cut s.data.toList (⟨#[32]⟩ : ByteArray).data.toList = cutL 32 s.data.toList := cut_cutL 32 s.data.toList
  rw [h]
  exact ⟨rfl, ⟨rfl, rfl, rfl, Nat.le_refl _, fun _ _ => rfl⟩⟩
theorem WriteS_any (b : Nat) (l m : List UInt8) (X : ByteArray) (w : World) (hX : X = ⟨m.toArray⟩) (h : Bld b l w) (hlen : l.length + m.length ≤ 1000000000) :
    Calls Tryz.prog 35 #[.pointer (some ⟨b, 0, none⟩), .string X] w fun e w' => (∃ v, e = .returned v) ∧ Bld b (l ++ m) w' ∧ Below b w w' ∧ OKept b w w' := by
  subst hX
  refine (WriteString_any b l m w h hlen).mono ?_
  rintro e w' ⟨rfl, h1, h2, h3⟩
  exact ⟨⟨_, rfl⟩, h1, h2, h3⟩
/-- What stands between two lines: the console, the builder, the lines. -/
structure ExSt (w : World) (o : Obj) (T : Nat × List UInt8) (wr : World) : Prop where
  con : Con w.heap.size T.1 wr
  bld : Bld (w.heap.size + 1) T.2 wr
  lin : wr.heap[w.heap.size + 1 + 1]? = some o
  bel : Below w.heap.size w wr
theorem ExSt.said {w wr w' : World} {o : Obj} {T : Nat × List UInt8} {m : Nat} (h : ExSt w o T wr) (hC : Con w.heap.size m w') (hg : wr.grownBy w' (some w.heap.size)) : ExSt w o (m, T.2) w' :=
  ⟨hC, h.bld.grown hg (by omega), (hg.block _ (Array.getElem?_eq_some_iff.1 h.lin).1 (fun e => by simp at e; omega)).trans h.lin, h.bel.grown hg h.bel.size (fun k hk => by simp at hk; omega)⟩
theorem ExSt.below {w wr w' : World} {o : Obj} {T : Nat × List UInt8} (h : ExSt w o T wr) (hb : Below wr.heap.size wr w') : ExSt w o T w' :=
  h.said (h.con.kept hb) (below_but hb _)
theorem ExSt.wrote {w wr w' : World} {T : Nat × List UInt8} {m : List UInt8} {cs : Array Value} (h : ExSt w (.cells cs 9 (0, 0)) T wr) (hB : Bld (w.heap.size + 1) (T.2 ++ m) w') (hb : Below (w.heap.size + 1) wr w') (hk : OKept (w.heap.size + 1) wr w') : ExSt w (.cells cs 9 (0, 0)) (T.1, T.2 ++ m) w' := by
  refine ⟨?_, hB, hk _ _ h.lin (fun e => by simp at e) (fun c fz e => by simp at e), h.bel.trans (hb.mono (by omega))⟩
  have := h.con
  unfold Con at this ⊢
  rw [hb.block _ (by omega)]
  exact this
theorem exe_start (w : World) (o : Obj) : ExSt w o (0, []) (((w.alloc (.cells #[.int .i64 0] 40)).alloc (.cells #[.pointer none, .slice none 0 0] 43)).alloc o) := by
  have h0 : Con w.heap.size 0 (w.alloc (.cells #[.int .i64 0] 40)) := by
    show (w.heap.push _)[w.heap.size]? = _
    simp
  have h1 : Con w.heap.size 0 ((w.alloc (.cells #[.int .i64 0] 40)).alloc (.cells #[.pointer none, .slice none 0 0] 43)) := by
    show ((w.heap.push _).push _)[w.heap.size]? = _
    rw [Array.getElem?_push, if_neg (by simp only [Array.size_push]; omega), Array.getElem?_push, if_pos rfl]
    rfl
  have hb1 : Bld (w.heap.size + 1) [] ((w.alloc (.cells #[.int .i64 0] 40)).alloc (.cells #[.pointer none, .slice none 0 0] 43)) := by
    refine .inl ⟨Nat.le_refl _, .slice none 0 0, ?_, ⟨rfl, .inl ⟨rfl, rfl⟩⟩, ?_⟩
    · show ((w.heap.push _).push _)[w.heap.size + 1]? = _
      rw [Array.getElem?_push, if_pos (by simp only [Array.size_push])]
    · simp [Value.ownBlock]
  have hg : ((w.alloc (.cells #[.int .i64 0] 40)).alloc (.cells #[.pointer none, .slice none 0 0] 43)).grownBy (((w.alloc (.cells #[.int .i64 0] 40)).alloc (.cells #[.pointer none, .slice none 0 0] 43)).alloc o) (some w.heap.size) := World.grownBy_alloc _ _ _
  refine ⟨?_, hb1.grown hg (by omega), ?_, ?_⟩
  · show (((w.heap.push _).push _).push _)[w.heap.size]? = _
    rw [Array.getElem?_push, if_neg (by simp only [Array.size_push]; omega), Array.getElem?_push, if_neg (by simp only [Array.size_push]; omega), Array.getElem?_push, if_pos rfl]
    rfl
  · show (((w.heap.push _).push _).push _)[w.heap.size + 1 + 1]? = _
    rw [Array.getElem?_push, if_pos (by simp only [Array.size_push])]
  · refine (((Below.refl _ _).alloc (Nat.le_refl _) _).alloc ?_ _).alloc ?_ _
    · simp
    · simp
      omega
theorem implExecute_long (s : ByteArray) (w : World) (hs : 600 < s.size) :
    Calls Tryz.prog 11 #[.string s] w fun e w' => e = .returned (.string ⟨(exec s.data.toList).toArray⟩) ∧ w = w' := by
  have hsl : s.data.toList.length = s.size := by rw [Array.length_toList]; rfl
  have hsi : (600 : Int) < (s.size : Int) := by omega
  rw [exec_long _ (by omega)]
  clear hs hsl
  go_enter Tryz.func11, Tryz.ntmps11
  go_wp2_with fail
  go_ret
  exact ⟨rfl, rfl⟩
theorem implExecute_short (s : ByteArray) (w : World) (hs : s.size ≤ 600) (hG : Gl w) :
    Calls Tryz.prog 11 #[.string s] w fun e w' => e = .returned (.string ⟨(exec s.data.toList).toArray⟩) ∧ Below w.heap.size w w' := by
  have hss : s.data.toList.length = s.size := by rw [Array.length_toList]; rfl
  have hsi : ¬ (600 : Int) < (s.size : Int) := by omega
  have HEX := Lib.hid (exec_eq s.data.toList (by omega))
  have HPG := Lib.hid (fun k hk => pieces_get s 10 k hk)
  have hpl := pieces_len s 10
  have hsl := spl_length 10 s.data.toList
  have HPT := Lib.hid (fun p (hp : p ∈ spl 10 s.data.toList) => spl_part 10 s.data.toList p hp)
  have h1F : 1 ≤ (spl 10 s.data.toList).length := List.length_pos_iff.2 (spl_ne 10 s.data.toList)
  rw [hss] at hsl HPT
  have HXL := Lib.hid (exK_lt (spl 10 s.data.toList))
  have HXN := Lib.hid (exK_len (spl 10 s.data.toList))
  have HXS : Hid (∀ k, exK (spl 10 s.data.toList) (k + 1) = ((exL (exK (spl 10 s.data.toList) k).1 ((spl 10 s.data.toList).getD k [])).1, (exK (spl 10 s.data.toList) k).2 ++ ((exL (exK (spl 10 s.data.toList) k).1 ((spl 10 s.data.toList).getD k [])).2 ++ [10]))) := Lib.hid (fun k => rfl)
  have HXZ : Hid (exK (spl 10 s.data.toList) 0 = (0, [])) := Lib.hid rfl
  have HLL := Lib.hid (fun n (hn : n < 16777216) l => exL_len hn l)
  generalize exec s.data.toList = EX at *
  generalize exK (spl 10 s.data.toList) = XK at *
  generalize spl 10 s.data.toList = F at *
  have CS := Lib.hid (fun w hG => Split_any s ⟨#[10]⟩ w (by omega) (by decide) hG)
  have HST := Lib.hid (exe_start w (.cells ((piecesB s ⟨#[10]⟩).map Value.string).toArray 9))
  generalize piecesB s ⟨#[10]⟩ = PS at *
  obtain ⟨M, hM⟩ : ∃ M, PS.length = M + 1 := ⟨PS.length - 1, by omega⟩
  rw [show F.length - 1 = M by omega] at HEX
  rw [hM] at CS
  have HPL := Lib.hid hM
  have HFL : Hid (F.length = M + 1) := Lib.hid (by omega)
  have hMi : (M : Int) ≤ 600 := by omega
  have HM6 : Hid (M ≤ 600) := Lib.hid (by omega)
  have HS6 := Lib.hid hs
  clear hpl hM hs hsl hss h1F
  go_enter Tryz.func11, Tryz.ntmps11
  go_wp2_with fail
  refine (CS.out _ ?_).mono ?_
  · exact hG.kept (((Below.refl _ _).alloc (Nat.le_refl _) _).alloc (by simp) _)
  rintro e w3 ⟨rfl, rfl⟩
  have HGH := Lib.hid hG
  clear hG
  generalize hw3 : World.alloc _ (Obj.cells (List.map Value.string PS).toArray _) = w3 at *
  have HS3 : ExSt w (.cells (PS.map Value.string).toArray 9 (0, 0)) (0, []) w3 := by
    exact HST.out
  clear hw3 HST CS
  go_wp2_with fail
  go_loopw [29] (fun x wr => ∃ k : Nat, k ≤ M ∧ x = .int .i64 (k : Int) ∧ ExSt w (.cells (PS.map Value.string).toArray 9 (0, 0)) (XK k) wr)
    (fun x _ => (M - (intOf x).toNat))
  case atStart => exact ⟨0, by omega, rfl, by rw [HXZ.out]; exact HS3⟩
  case round =>
    obtain ⟨k, hk, rfl, hE⟩ := hrel
    by_cases hlt : k < M
    · have hki : (k : Int) < (M : Int) := by omega
      have hkP : k < PS.length := by have := HPL.out; omega
      have hkF : k < F.length := by have := HFL.out; omega
      have hcl : wr.cell? ⟨w.heap.size + 1 + 1, k, none⟩ = some (.string PS[k]) := by
        rw [cell_of_row _ (w.heap.size + 1 + 1) k _ _ _ hE.lin, List.getElem?_toArray, List.getElem?_map, List.getElem?_eq_getElem hkP]
        rfl
      have hfd := HPG.out k hkP
      have hgd : F.getD k [] = F[k] := by simp [List.getD, hkF]
      have hfs : (F.getD k []).length ≤ 600 := Nat.le_trans (HPT.out _ (by rw [hgd]; exact List.getElem_mem hkF)) HS6.out
      have hfz : PS[k].size ≤ 600 := by
        have e : PS[k].size = PS[k].data.toList.length := by rw [Array.length_toList]; rfl
        rw [e, hfd]; exact hfs
      have D := Lib.hid (HXS.out k)
      have HL1 := Lib.hid (HXL.out k)
      have HN1 : Hid ((XK k).2.length ≤ 50001 * 600) := Lib.hid (Nat.le_trans (HXN.out k) (Nat.mul_le_mul_left _ (Nat.le_trans hk HM6.out)))
      have HA := Lib.hid (HLL.out (XK k).1 (HXL.out k) (F.getD k []))
      have HGr := Lib.hid (HGH.out.kept hE.bel)
      have CC := Lib.hid (Cut2_any PS[k] wr (by omega) HGr.out)
      rw [hfd] at CC
      have HXE : Hid (exL (XK k).1 (F.getD k []) = if (cutL 32 (F.getD k [])).2.2 then sayR (XK k).1 (exR (XK k).1 (cutL 32 (F.getD k [])).1 (cutL 32 (F.getD k [])).2.1) else exW (XK k).1 (F.getD k [])) := Lib.hid rfl
      have HCN := Lib.hid (cutL_no 32 (F.getD k []))
      have HCL := Lib.hid (cutL_rest 32 (F.getD k []))
      have HFS := Lib.hid hfs
      clear hfd hgd hfs hfz
      generalize PS[k] = f at *
      clear hkP hkF
      generalize F.getD k [] = fl at *
      generalize XK k = T at *
      obtain ⟨n, o⟩ := T
      simp only at D HL1 HN1 HA HXE
      generalize cutL 32 fl = CT at *
      obtain ⟨c1, c2, cb⟩ := CT
      simp only at HXE HCN HCL CC
      cases cb
      · have HXE := Lib.hid (show exL n fl = exW n fl from HXE.out)
        rw [HXE.out] at D HA
        have CWd := Lib.hid (fun wx hC hG => word_any w.heap.size n ⟨fl.toArray⟩ wx HL1.out hC hG)
        clear HXE
        rw [show c1 = fl from HCN.out rfl] at CC
        generalize exW n fl = R at *
        go_wp2_with fail
        refine CC.out.mono ?_
        rintro e w4 ⟨rfl, hb4⟩
        have hE1 := hE.below hb4
        go_wp2_with fail
        refine (CWd.out _ hE1.con (HGr.out.kept hb4)).mono ?_
        rintro e w4' hS
        obtain ⟨out, ok, told, rfl, ht, hC', hg'⟩ := hS
        have hE2 := hE1.said hC' hg'
        cases told
        · rw [← show whatB = R.2 from ht] at D HA
          clear ht
          go_wp2_with fail
          refine (WriteS_any _ _ (whatB ++ [10]) _ _ ?_ hE2.bld ?_).mono ?_
          · exact str_app whatB [10]
          · have := HN1.out
            have := HA.out
            simp only [List.length_append, List.length_cons, List.length_nil]
            first | omega | (unfold whatB; simp; omega) | (unfold noB; simp; omega)
          rintro e w5 ⟨⟨v5, rfl⟩, hB5, hb5, hk5⟩
          have hE3 := hE2.wrote hB5 hb5 hk5
          go_wp2_with fail
          go_roundw
          case rel => exact ⟨k + 1, by omega, by go_num, by rw [D.out]; exact hE3⟩
          case measure => simp [intOf]; omega
        · cases ok
          · rw [← show noB = R.2 from ht] at D HA
            clear ht
            go_wp2_with fail
            refine (WriteS_any _ _ (noB ++ [10]) _ _ ?_ hE2.bld ?_).mono ?_
            · exact str_app noB [10]
            · have := HN1.out
              have := HA.out
              simp only [List.length_append, List.length_cons, List.length_nil]
              first | omega | (unfold whatB; simp; omega) | (unfold noB; simp; omega)
            rintro e w5 ⟨⟨v5, rfl⟩, hB5, hb5, hk5⟩
            have hE3 := hE2.wrote hB5 hb5 hk5
            go_wp2_with fail
            go_roundw
            case rel => exact ⟨k + 1, by omega, by go_num, by rw [D.out]; exact hE3⟩
            case measure => simp [intOf]; omega
          · have ht : out = R.2 := ht
            rw [← ht] at D HA
            clear ht
            have hol := HA.out
            go_wp2_with fail
            refine (WriteS_any _ _ (out ++ [10]) _ _ ?_ hE2.bld ?_).mono ?_
            · exact str_app out [10]
            · have := HN1.out
              have := HA.out
              simp only [List.length_append, List.length_cons, List.length_nil]
              first | omega | (unfold whatB; simp; omega) | (unfold noB; simp; omega)
            rintro e w5 ⟨⟨v5, rfl⟩, hB5, hb5, hk5⟩
            have hE3 := hE2.wrote hB5 hb5 hk5
            go_wp2_with fail
            go_roundw
            case rel => exact ⟨k + 1, by omega, by go_num, by rw [D.out]; exact hE3⟩
            case measure => simp [intOf]; omega
      · have HXE := Lib.hid (show exL n fl = sayR n (exR n c1 c2) from HXE.out)
        rw [HXE.out] at D HA
        have hc2 : (⟨c2.toArray⟩ : ByteArray).size ≤ 100000 := by
          show c2.toArray.size ≤ 100000
          rw [List.size_toArray]
          have := HFS.out
          have := HCL.out
          omega
        have CWd := Lib.hid (fun wx hC hG => rest_any w.heap.size n c1 ⟨c2.toArray⟩ wx HL1.out hc2 hC hG)
        clear HXE hc2
        generalize sayR n (exR n c1 c2) = R at *
        go_wp2_with fail
        refine CC.out.mono ?_
        rintro e w4 ⟨rfl, hb4⟩
        have hE1 := hE.below hb4
        go_wp2_with fail
        refine (CWd.out _ hE1.con (HGr.out.kept hb4)).mono ?_
        rintro e w4' hS
        obtain ⟨out, ok, told, rfl, ht, hC', hg'⟩ := hS
        have hE2 := hE1.said hC' hg'
        cases told
        · rw [← show whatB = R.2 from ht] at D HA
          clear ht
          go_wp2_with fail
          refine (WriteS_any _ _ (whatB ++ [10]) _ _ ?_ hE2.bld ?_).mono ?_
          · exact str_app whatB [10]
          · have := HN1.out
            have := HA.out
            simp only [List.length_append, List.length_cons, List.length_nil]
            first | omega | (unfold whatB; simp; omega) | (unfold noB; simp; omega)
          rintro e w5 ⟨⟨v5, rfl⟩, hB5, hb5, hk5⟩
          have hE3 := hE2.wrote hB5 hb5 hk5
          go_wp2_with fail
          go_roundw
          case rel => exact ⟨k + 1, by omega, by go_num, by rw [D.out]; exact hE3⟩
          case measure => simp [intOf]; omega
        · cases ok
          · rw [← show noB = R.2 from ht] at D HA
            clear ht
            go_wp2_with fail
            refine (WriteS_any _ _ (noB ++ [10]) _ _ ?_ hE2.bld ?_).mono ?_
            · exact str_app noB [10]
            · have := HN1.out
              have := HA.out
              simp only [List.length_append, List.length_cons, List.length_nil]
              first | omega | (unfold whatB; simp; omega) | (unfold noB; simp; omega)
            rintro e w5 ⟨⟨v5, rfl⟩, hB5, hb5, hk5⟩
            have hE3 := hE2.wrote hB5 hb5 hk5
            go_wp2_with fail
            go_roundw
            case rel => exact ⟨k + 1, by omega, by go_num, by rw [D.out]; exact hE3⟩
            case measure => simp [intOf]; omega
          · have ht : out = R.2 := ht
            rw [← ht] at D HA
            clear ht
            have hol := HA.out
            go_wp2_with fail
            refine (WriteS_any _ _ (out ++ [10]) _ _ ?_ hE2.bld ?_).mono ?_
            · exact str_app out [10]
            · have := HN1.out
              have := HA.out
              simp only [List.length_append, List.length_cons, List.length_nil]
              first | omega | (unfold whatB; simp; omega) | (unfold noB; simp; omega)
            rintro e w5 ⟨⟨v5, rfl⟩, hB5, hb5, hk5⟩
            have hE3 := hE2.wrote hB5 hb5 hk5
            go_wp2_with fail
            go_roundw
            case rel => exact ⟨k + 1, by omega, by go_num, by rw [D.out]; exact hE3⟩
            case measure => simp [intOf]; omega
    · obtain rfl : k = M := by omega
      have hc := hE.con.cell
      have CI := Lib.hid (fun w hG => ItoaD_any (XK k).1 (by have := HXL.out k; omega) w hG)
      have HDL : Hid ((dec (XK k).1).length ≤ 9) := Lib.hid (dec_length 8 (by have := HXL.out k; omega))
      have hdl := HDL.out
      have HN1 : Hid ((XK k).2.length ≤ 50001 * 600) := Lib.hid (Nat.le_trans (HXN.out k) (Nat.mul_le_mul_left _ HM6.out))
      have HGr := Lib.hid (HGH.out.kept hE.bel)
      generalize XK k = T at *
      obtain ⟨n, o⟩ := T
      simp only at HEX HDL hdl HN1 CI
      have hc : wr.cell? ⟨w.heap.size, 0, none⟩ = some (.int .i64 (n : Int)) := hc
      generalize dec n = d at *
      clear hlt hk
      go_wp2_with fail
      refine (CI.out _ HGr.out).mono ?_
      rintro e w4 ⟨rfl, hb4⟩
      have hE4 := hE.below hb4
      go_wp2_with fail
      refine (WriteS_any _ _ ((wordB ++ d) ++ [10]) _ _ ?_ hE4.bld ?_).mono ?_
      · exact (congrArg (· ++ (⟨#[10]⟩ : ByteArray)) (str_app wordB d)).trans (str_app (wordB ++ d) [10])
      · have := HN1.out
        have := HDL.out
        have hw : wordB.length = 5 := rfl
        simp only [List.length_append, List.length_cons, List.length_nil]
        omega
      rintro e w5 ⟨⟨v5, rfl⟩, hB5, hb5, hk5⟩
      go_wp2_with fail
      refine (String_any _ _ _ hB5).mono ?_
      rintro e w6 ⟨rfl, hb6⟩
      go_wp2_with fail
      go_ret
      have hfin : o ++ (wordB ++ (d ++ [10])) = EX := by rw [HEX.out, List.append_assoc wordB]
      exact ⟨congrArg (fun l : List UInt8 => Ending.returned (.string ⟨l.toArray⟩)) hfin, hE4.bel.trans ((hb5.mono (by omega)).trans (hb6.mono (by omega)))⟩
theorem implExecute_any (s : ByteArray) (w : World) (hG : Gl w) :
    Calls Tryz.prog 11 #[.string s] w fun e w' => e = .returned (.string ⟨(exec s.data.toList).toArray⟩) ∧ Below w.heap.size w w' := by
  by_cases h : s.size ≤ 600
  · exact implExecute_short s w h hG
  · refine (implExecute_long s w (by omega)).mono ?_
    rintro e w' ⟨rfl, rfl⟩
    exact ⟨rfl, Below.refl _ _⟩

end Go.Proofs.YtmgdcnibmifdeaaGreatDoor

/- What the scripts of the laws answer. -/
set_option linter.unusedVariables false
namespace Go.Proofs.YtmgdcnibmifdeaaGreatDoor
open Res

theorem farTo_min (w k m : Nat) (h : m < k) : farTo w k ≤ wt (w ^^^ code m) := by
  induction k with
  | zero => omega
  | succ k ih =>
    by_cases hm : m = k
    · subst hm
      by_cases hl : wt (w ^^^ code m) < farTo w m
      · rw [farTo_lt hl]; exact Nat.le_refl _
      · rw [farTo_ge hl]; omega
    · have := ih (by omega)
      by_cases hl : wt (w ^^^ code k) < farTo w k
      · rw [farTo_lt hl]; omega
      · rw [farTo_ge hl]; exact this
theorem wt_zero : wt 0 = 0 := by decide
theorem far_code {m : Nat} (h : m < 4096) : far (code m) = 0 := by
  have h1 := farTo_min (code m) 4096 m h
  rw [Nat.xor_self, wt_zero] at h1
  unfold far
  omega
theorem mend_code {m : Nat} (h : m < 4096) : mendW (code m) = code m := by
  have h1 := (mendI_facts (code m)).2
  rw [far_code h] at h1
  have h2 : wt (code m ^^^ code m) = 0 := by rw [Nat.xor_self]; exact wt_zero
  exact (mend_uniq (code_lt h) (code_lt h) (mendW_lt _) (code_in m) (mendW_in _) (by omega)).symm

theorem spl_app {c : UInt8} {a : List UInt8} (b : List UInt8) (h : ∀ x, x ∈ a → x ≠ c) : spl c (a ++ c :: b) = a :: spl c b := by
  induction a with
  | nil => exact spl_hit c b
  | cons x a ih => exact spl_cons (h x (by simp)) (ih (fun y hy => h y (by simp [hy])))
theorem spl_one {c : UInt8} {a : List UInt8} (h : ∀ x, x ∈ a → x ≠ c) : spl c a = [a] := by
  induction a with
  | nil => rfl
  | cons x a ih => exact spl_cons (h x (by simp)) (ih (fun y hy => h y (by simp [hy])))
theorem cutL_app {c : UInt8} {a : List UInt8} (b : List UInt8) (h : ∀ x, x ∈ a → x ≠ c) : cutL c (a ++ c :: b) = (a, b, true) := by
  induction a with
  | nil => simp [cutL]
  | cons x a ih =>
    rw [List.cons_append]
    unfold cutL
    rw [if_neg (h x (by simp)), ih (fun y hy => h y (by simp [hy]))]
theorem cutL_none {c : UInt8} {a : List UInt8} (h : ∀ x, x ∈ a → x ≠ c) : (cutL c a).2.2 = false := by
  induction a with
  | nil => rfl
  | cons x a ih =>
    unfold cutL
    rw [if_neg (h x (by simp))]
    exact ih (fun y hy => h y (by simp [hy]))
theorem dec_no {n : Nat} {c : UInt8} (hc : isD c = false) : ∀ x, x ∈ dec n → x ≠ c := by
  intro x hx e
  have := List.all_eq_true.1 (dec_isD n) x hx
  rw [e, hc] at this
  cases this
theorem oneN_dec {n : Nat} (h : n < 100000000) : oneN (dec n) = some n := by
  unfold oneN nums
  rw [spl_one (dec_no (by decide))]
  simp [numsL, numF_dec h]
/-- A line with a number. -/
theorem exL_num (n m : Nat) (c : List UInt8) (hc : ∀ x, x ∈ c → x ≠ 32) : exL n (c ++ 32 :: dec m) = sayR n (exR n c (dec m)) := by
  unfold exL
  rw [cutL_app _ hc]
  rfl
theorem exL_word (n : Nat) (c : List UInt8) (hc : ∀ x, x ∈ c → x ≠ 32) : exL n c = exW n c := by
  unfold exL
  rw [cutL_none hc]
  rfl
theorem exL_set {n m : Nat} (h : m ≤ 16777215) : exL n (cSet ++ 32 :: dec m) = (m, okB) := by
  rw [exL_num n m cSet (by decide)]
  unfold exR
  rw [if_pos rfl, oneN_dec (by omega)]
  simp only [if_pos h]
  rfl
theorem exL_code {n m : Nat} (h : m ≤ 4095) : exL n (cCode ++ 32 :: dec m) = (code m, okB) := by
  rw [exL_num n m cCode (by decide)]
  unfold exR
  rw [if_neg (by decide), if_neg (by decide), if_neg (by decide), if_pos rfl, oneN_dec (by omega)]
  simp only [if_pos h]
  rfl
theorem exL_in (n : Nat) : exL n cIn = (n, if codeB n then yesB else notB) := by
  rw [exL_word n cIn (by decide)]
  unfold exW
  rw [if_neg (by decide), if_neg (by decide), if_neg (by decide), if_neg (by decide), if_pos rfl]
theorem exL_mend {n : Nat} (h : far n ≤ 3) : exL n cMend = (mendW n, okB) := by
  rw [exL_word n cMend (by decide)]
  unfold exW
  rw [if_neg (by decide), if_neg (by decide), if_neg (by decide), if_neg (by decide), if_neg (by decide), if_pos rfl, if_pos h]
theorem exL_near (n : Nat) : exL n cNear = (n, dec (far n)) := by
  rw [exL_word n cNear (by decide)]
  unfold exW
  rw [if_neg (by decide), if_neg (by decide), if_neg (by decide), if_neg (by decide), if_neg (by decide), if_neg (by decide), if_pos rfl]
theorem exL_show (n : Nat) : exL n cShow = (n, wText n) := by
  rw [exL_word n cShow (by decide)]
  unfold exW
  rw [if_pos rfl]
theorem exL_weight (n : Nat) : exL n cWeight = (n, dec (wt n)) := by
  rw [exL_word n cWeight (by decide)]
  unfold exW
  rw [if_neg (by decide), if_neg (by decide), if_pos rfl]
/-- A script of complete lines. -/
def script : List (List UInt8) → List UInt8
  | [] => []
  | l :: r => l ++ 10 :: script r
theorem spl_script (L : List (List UInt8)) (h : ∀ l, l ∈ L → ∀ x, x ∈ l → x ≠ 10) : spl 10 (script L) = L ++ [[]] := by
  induction L with
  | nil => rfl
  | cons l L ih =>
    show spl 10 (l ++ 10 :: script L) = _
    rw [spl_app _ (h l (by simp)), ih (fun m hm => h m (by simp [hm]))]
    rfl
theorem exec_script (L : List (List UInt8)) (h : ∀ l, l ∈ L → ∀ x, x ∈ l → x ≠ 10) (hl : (script L).length ≤ 600) : exec (script L) = (exS 0 L).2 ++ (wordB ++ dec (exS 0 L).1) ++ [10] := by
  unfold exec linesOf
  rw [if_neg (by omega), spl_script L h, List.dropLast_concat]
  simp only [List.append_assoc]
theorem num_line (c : List UInt8) (m : Nat) (hc : ∀ x, x ∈ c → x ≠ 10) : ∀ x, x ∈ c ++ 32 :: dec m → x ≠ 10 := by
  intro x hx
  rcases List.mem_append.1 hx with h | h
  · exact hc x h
  · rcases List.mem_cons.1 h with h | h
    · rw [h]; decide
    · exact dec_no (by decide) x h
theorem exec_three {a b c o1 o2 o3 : List UInt8} {n1 n2 n3 : Nat} (h1 : exL 0 a = (n1, o1)) (h2 : exL n1 b = (n2, o2)) (h3 : exL n2 c = (n3, o3))
    (ha : ∀ x, x ∈ a → x ≠ 10) (hb : ∀ x, x ∈ b → x ≠ 10) (hc : ∀ x, x ∈ c → x ≠ 10) (hl : (script [a, b, c]).length ≤ 600) :
    exec (script [a, b, c]) = o1 ++ [10] ++ (o2 ++ [10] ++ (o3 ++ [10])) ++ (wordB ++ dec n3) ++ [10] := by
  rw [exec_script _ (by
    intro l hl
    simp only [List.mem_cons, List.mem_nil_iff, or_false] at hl
    rcases hl with rfl | rfl | rfl
    · exact ha
    · exact hb
    · exact hc) hl]
  simp only [exS, h1, h2, h3, List.append_nil]
theorem exec_four {a b c d o1 o2 o3 o4 : List UInt8} {n1 n2 n3 n4 : Nat} (h1 : exL 0 a = (n1, o1)) (h2 : exL n1 b = (n2, o2)) (h3 : exL n2 c = (n3, o3)) (h4 : exL n3 d = (n4, o4))
    (ha : ∀ x, x ∈ a → x ≠ 10) (hb : ∀ x, x ∈ b → x ≠ 10) (hc : ∀ x, x ∈ c → x ≠ 10) (hd : ∀ x, x ∈ d → x ≠ 10) (hl : (script [a, b, c, d]).length ≤ 600) :
    exec (script [a, b, c, d]) = o1 ++ [10] ++ (o2 ++ [10] ++ (o3 ++ [10] ++ (o4 ++ [10]))) ++ (wordB ++ dec n4) ++ [10] := by
  rw [exec_script _ (by
    intro l hl
    simp only [List.mem_cons, List.mem_nil_iff, or_false] at hl
    rcases hl with rfl | rfl | rfl | rfl
    · exact ha
    · exact hb
    · exact hc
    · exact hd) hl]
  simp only [exS, h1, h2, h3, h4, List.append_nil]
theorem line_in {n : Nat} (h : codeB n = true) : exL n cIn = (n, yesB) := by rw [exL_in, if_pos h]
theorem line_mend {n x : Nat} (h : far n ≤ 3) (e : mendW n = x) : exL n cMend = (x, okB) := by rw [exL_mend h, e]
theorem line_near {n x : Nat} (e : far n = x) : exL n cNear = (n, dec x) := by rw [exL_near, e]
theorem far_le3 {n : Nat} (h : far n = 0) : far n ≤ 3 := by rw [h]; exact Nat.zero_le _
theorem exec_code_of {x : Nat} {D : List UInt8} (h1 : exL 0 (cCode ++ 32 :: D) = (x, okB)) (h2 : exL x cIn = (x, yesB)) (h3 : exL x cMend = (x, okB)) (hD : ∀ y, y ∈ cCode ++ 32 :: D → y ≠ 10) (hl : D.length ≤ 8) :
    exec (cCode ++ [32] ++ D ++ [10, 105, 110, 10, 109, 101, 110, 100, 10]) = [111, 107, 10, 121, 101, 115, 10, 111, 107, 10, 119, 111, 114, 100, 32] ++ dec x ++ [10] := by
  have e : cCode ++ [32] ++ D ++ [10, 105, 110, 10, 109, 101, 110, 100, 10] = script [cCode ++ 32 :: D, cIn, cMend] := by
    simp [script, cIn, cMend]
  have hlen : (script [cCode ++ 32 :: D, cIn, cMend]).length ≤ 600 := by rw [← e]; simp [cCode]; omega
  rw [e, exec_three h1 h2 h3 hD (by decide) (by decide) hlen]
  generalize dec x = X
  simp [okB, yesB, wordB]
theorem exec_code {m : Nat} (h : m ≤ 4095) :
    exec (cCode ++ [32] ++ dec m ++ [10, 105, 110, 10, 109, 101, 110, 100, 10]) = [111, 107, 10, 121, 101, 115, 10, 111, 107, 10, 119, 111, 114, 100, 32] ++ dec (code m) ++ [10] :=
  exec_code_of (exL_code h) (line_in (code_in m)) (line_mend (far_le3 (far_code (Nat.lt_succ_of_le h))) (mend_code (Nat.lt_succ_of_le h))) (num_line _ _ (by decide))
    (Nat.le_trans (dec_length 3 (Nat.lt_of_le_of_lt h (by decide))) (by decide))
theorem exec_word_of {n t f : Nat} {D W : List UInt8} (h1 : exL 0 (cSet ++ 32 :: D) = (n, okB)) (h2 : exL n cShow = (n, W)) (h3 : exL n cWeight = (n, dec t)) (h4 : exL n cNear = (n, dec f)) (hD : ∀ y, y ∈ cSet ++ 32 :: D → y ≠ 10) (hl : D.length ≤ 8) :
    exec (cSet ++ [32] ++ D ++ [10, 115, 104, 111, 119, 10, 119, 101, 105, 103, 104, 116, 10, 110, 101, 97, 114, 10]) = [111, 107, 10] ++ W ++ [10] ++ dec t ++ [10] ++ dec f ++ [10, 119, 111, 114, 100, 32] ++ dec n ++ [10] := by
  have e : cSet ++ [32] ++ D ++ [10, 115, 104, 111, 119, 10, 119, 101, 105, 103, 104, 116, 10, 110, 101, 97, 114, 10] = script [cSet ++ 32 :: D, cShow, cWeight, cNear] := by
    simp [script, cShow, cWeight, cNear]
  have hlen : (script [cSet ++ 32 :: D, cShow, cWeight, cNear]).length ≤ 600 := by rw [← e]; simp [cSet]; omega
  rw [e, exec_four h1 h2 h3 h4 hD (by decide) (by decide) (by decide) hlen]
  generalize dec n = X
  generalize dec t = T
  generalize dec f = F
  simp [okB, wordB]
theorem exec_word {n t f : Nat} (h : n ≤ 16777215) (ht : wt n = t) (hf : far n = f) :
    exec (cSet ++ [32] ++ dec n ++ [10, 115, 104, 111, 119, 10, 119, 101, 105, 103, 104, 116, 10, 110, 101, 97, 114, 10]) = [111, 107, 10] ++ wText n ++ [10] ++ dec t ++ [10] ++ dec f ++ [10, 119, 111, 114, 100, 32] ++ dec n ++ [10] :=
  exec_word_of (exL_set h) (exL_show n) (by rw [exL_weight, ht]) (line_near hf) (num_line _ _ (by decide))
    (dec_length 7 (Nat.lt_of_le_of_lt h (by decide)))
theorem exec_mend_of {n x : Nat} {D : List UInt8} (h1 : exL 0 (cSet ++ 32 :: D) = (n, okB)) (h2 : exL n cMend = (x, okB)) (h3 : exL x cIn = (x, yesB)) (hD : ∀ y, y ∈ cSet ++ 32 :: D → y ≠ 10) (hl : D.length ≤ 8) :
    exec (cSet ++ [32] ++ D ++ [10, 109, 101, 110, 100, 10, 105, 110, 10]) = [111, 107, 10, 111, 107, 10, 121, 101, 115, 10, 119, 111, 114, 100, 32] ++ dec x ++ [10] := by
  have e : cSet ++ [32] ++ D ++ [10, 109, 101, 110, 100, 10, 105, 110, 10] = script [cSet ++ 32 :: D, cMend, cIn] := by
    simp [script, cMend, cIn]
  have hlen : (script [cSet ++ 32 :: D, cMend, cIn]).length ≤ 600 := by rw [← e]; simp [cSet]; omega
  rw [e, exec_three h1 h2 h3 hD (by decide) (by decide) hlen]
  generalize dec x = X
  simp [okB, yesB, wordB]
theorem exec_mend {n x : Nat} (h : n ≤ 16777215) (h3 : far n ≤ 3) (e : mendW n = x) (hx : codeB x = true) :
    exec (cSet ++ [32] ++ dec n ++ [10, 109, 101, 110, 100, 10, 105, 110, 10]) = [111, 107, 10, 111, 107, 10, 121, 101, 115, 10, 119, 111, 114, 100, 32] ++ dec x ++ [10] :=
  exec_mend_of (exL_set h) (line_mend h3 e) (line_in hx) (num_line _ _ (by decide))
    (dec_length 7 (Nat.lt_of_le_of_lt h (by decide)))

end Go.Proofs.YtmgdcnibmifdeaaGreatDoor

/- The contract of digits. -/
set_option linter.unusedVariables false
namespace Go.Proofs.YtmgdcnibmifdeaaGreatDoor
open Go.RowKit Res

theorem conv_digit (W : World) (d : Nat) (hd : d < 10) :
    (convert 22 9 (.slice (some ⟨W.heap.size, 0, none⟩) 1 1)).run Tryz.prog (W.alloc (.cells #[.int .u8 (48 + (d : Int))] 5)) = .ok (.string ⟨[UInt8.ofNat (48 + d)].toArray⟩) (W.alloc (.cells #[.int .u8 (48 + (d : Int))] 5)) := by
  refine run_convert_bytes_back _ _ _ _ _ _ [UInt8.ofNat (48 + d)] Tryz.underlying22 Tryz.underlying5 Tryz.underlying9 fun j hj => ?_
  have hj : j < 1 := hj
  obtain rfl : j = 0 := by omega
  rw [Addr.add_lit, Nat.zero_add]
  have h := cell_new W (.int .u8 (48 + (d : Int))) 5
  have e : ([UInt8.ofNat (48 + d)][0].toNat : Int) = 48 + (d : Int) := by
    show ((UInt8.ofNat (48 + d)).toNat : Int) = _
    rw [toNat_digit hd]; omega
  rw [e]
  exact h
theorem conv_cell {g : Nat} {b : UInt8} (w1 : World) (hx : w1.cell? ⟨g, 0, none⟩ = some (.int .u8 (b.toNat : Int))) :
    (convert 22 9 (.slice (some ⟨g, 0, none⟩) 1 1)).run Tryz.prog w1 = .ok (.string ⟨[b].toArray⟩) w1 := by
  refine run_convert_bytes_back _ _ _ _ _ _ [b] Tryz.underlying22 Tryz.underlying5 Tryz.underlying9 fun j hj => ?_
  have hj : j < 1 := hj
  obtain rfl : j = 0 := by omega
  rw [Addr.add_lit, Nat.zero_add]
  exact hx
set_option maxRecDepth 20000 in
theorem digits_any (n : Nat) : ∀ (w : World), n ≤ 99999999 →
    Calls Tryz.prog 18 #[.int .i64 (n : Int)] w fun e w' => e = .returned (.string ⟨(dec n).toArray⟩) ∧ Below w.heap.size w w' := by
  induction n using Nat.strongRecOn with
  | _ n ih =>
    intro w hn
    by_cases h10 : n < 10
    · have hi : (n : Int) < 10 := by omega
      have h0 : (0 : Int) ≤ (n : Int) := by omega
      have hw : IntKind.i64.wrap (48 + (n : Int)) = 48 + (n : Int) := IntWalk.i64_in _ (by omega)
      have hw8 : IntKind.u8.wrap (48 + (n : Int)) = 48 + (n : Int) := by rw [IntKind.wrap_u8]; omega
      have CV := conv_digit w n h10
      rw [dec_small h10]
      generalize UInt8.ofNat (48 + n) = b at *
      clear ih hn h10
      go_enter Tryz.func18, Tryz.ntmps18
      go_wp2_with fail
      go_ret
      exact ⟨rfl, (Below.refl _ _).alloc (Nat.le_refl _) _⟩
    · have hi : ¬ (n : Int) < 10 := by omega
      have CD := Lib.hid (fun w => ih (n / 10) (by omega) w (by omega))
      have hql : (dec (n / 10)).length ≤ 8 := dec_length 7 (by omega)
      have hd1 : (n : Int).tdiv 10 = ((n / 10 : Nat) : Int) := by rw [Int.tdiv_eq_ediv_of_nonneg (by omega)]; omega
      have hd2 : (n : Int) / 10 = ((n / 10 : Nat) : Int) := by omega
      have hm1 : (n : Int).tmod 10 = ((n % 10 : Nat) : Int) := by rw [Int.tmod_eq_emod_of_nonneg (by omega)]; omega
      have hm2 : (n : Int) % 10 = ((n % 10 : Nat) : Int) := by omega
      have hw0 : IntKind.i64.wrap ((n / 10 : Nat) : Int) = ((n / 10 : Nat) : Int) := IntWalk.i64_in _ (by omega)
      have hw : IntKind.i64.wrap (48 + ((n % 10 : Nat) : Int)) = 48 + ((n % 10 : Nat) : Int) := IntWalk.i64_in _ (by omega)
      have hw8 : IntKind.u8.wrap (48 + ((n % 10 : Nat) : Int)) = 48 + ((n % 10 : Nat) : Int) := by rw [IntKind.wrap_u8]; omega
      have HR : Hid (n % 10 < 10) := Lib.hid (by omega)
      have CV := Lib.hid (fun W => conv_digit W (n % 10) HR.out)
      rw [dec_big h10]
      have hbt : ((UInt8.ofNat (48 + n % 10)).toNat : Int) = 48 + ((n % 10 : Nat) : Int) := by rw [toNat_digit HR.out]; omega
      generalize UInt8.ofNat (48 + n % 10) = b at *
      generalize dec (n / 10) = D at *
      generalize n / 10 = q at *
      generalize n % 10 = r at *
      clear ih hn h10
      have CV0 := CV.out w.drew
      have HX := Lib.hid (show (w.drew.alloc (.cells #[.int .u8 (48 + (r : Int))] 5)).cell? ⟨w.heap.size, 0, none⟩ = some (.int .u8 (b.toNat : Int)) by rw [hbt]; exact cell_new w.drew _ _)
      rw [show w.drew.heap.size = w.heap.size from rfl] at CV0
      have HKP := Lib.hid (fun w1 hx => conv_cell (b := b) (g := w.heap.size) w1 hx)
      have CV0 := HKP.out (w.alloc (.cells #[.int .u8 (48 + (r : Int))] 5)).drew HX.out
      clear hbt
      go_enter Tryz.func18, Tryz.ntmps18
      go_wp2_with fail
      go_region_with (go_at_call 18; refine (CD.out _).mono ?_; rintro e w1 ⟨rfl, hs1⟩; have CV1 := CV.out w1; try (have hx := (hs1.cell (p := ⟨w.heap.size, 0, none⟩) (by simp)).trans HX.out); try (have CV2 := HKP.out w1 hx))
      all_goals
        go_wp2_with fail
        go_ret
        refine ⟨congrArg (fun x => Ending.returned (.string x)) (str_app D [b]), ?_⟩
        first
          | exact (show Below w.heap.size w w1 from ⟨hs1.os, hs1.tape, hs1.output, hs1.size, hs1.block⟩).alloc hs1.size _
          | exact (((Below.refl w.heap.size w).alloc (Nat.le_refl _) _).drew).trans (hs1.mono (by simp))

end Go.Proofs.YtmgdcnibmifdeaaGreatDoor

/- Contracts of the drawing of numbers: l6Open makes a reader, pick reads a number from 0 to n - 1. -/
set_option linter.unusedVariables false
namespace Go.Proofs.YtmgdcnibmifdeaaGreatDoor
open Go.RowKit

/-- Block r is a reader that has read at most K numbers. -/
def Reader (w : World) (r K : Nat) : Prop :=
  ∃ (a : Option Addr) (l : List Int) (cap : Nat) (p : Nat), w.heap[r]? = some (.cells #[.slice a l.length cap, .int .i64 p] 67 (0, 0)) ∧ p ≤ K ∧ l.length ≤ 2000 ∧
    (∀ i, i < l.length → ∃ b off, a = some ⟨b, off, none⟩ ∧ b < r ∧ w.cell? ⟨b, off + i, none⟩ = some (.int .u8 (l.getD i 0))) ∧ ∀ i, 0 ≤ l.getD i 0 ∧ l.getD i 0 ≤ 255

theorem l6Open_any (a : Option Addr) (cap : Nat) (l : List Int) (w : World) (hl : l.length ≤ cap) (hc : cap ≤ 9223372036854775807) (hr : Reads .u8 w a l) (hw : ∀ n ∈ l, (Lit.int .u8 n).wf = true) :
    Calls Tryz.prog 27 #[.slice a l.length cap] w fun e w' => e = .returned (.pointer (some ⟨w.heap.size, 0, none⟩)) ∧ Reader w' w.heap.size 0 ∧ Below w.heap.size w w' ∧ w'.heap.size = w.heap.size + 1 := by
  have hby : ∀ i, 0 ≤ l.getD i 0 ∧ l.getD i 0 ≤ 255 := fun i => by
    by_cases hi : i < l.length
    · have := hw l[i] (List.getElem_mem hi)
      simp [Lit.wf, IntKind.min, IntKind.max, IntKind.signed, IntKind.bits] at this
      simpa [List.getD, hi] using this
    · simp [List.getD, hi]
  have Hby := Lib.hid hby
  clear hw hby
  by_cases hb : 2000 < l.length
  · go_enter Tryz.func27, Tryz.ntmps27
    go_wp2
    go_ret
    refine ⟨rfl, ⟨a, l.take 2000, cap, 0, ?_, Nat.le_refl _, by rw [List.length_take]; omega, ?_, ?_⟩, (Below.refl _ _).alloc (Nat.le_refl _) _, by simp⟩
    · rw [heap_alloc_new]
      rw [show (l.take 2000).length = 2000 by simp; omega]
      rfl
    · intro i hi
      have hi2 : i < 2000 := by simp at hi; omega
      obtain ⟨b, off, ha, hb', hc'⟩ := hr i (by omega)
      refine ⟨b, off, ha, hb', ?_⟩
      rw [World.cell?_of_block (w := w) (Below.heap_alloc w _ _ hb'), hc']
      simp [List.getD, hi2]
    · intro i
      by_cases hi2 : i < 2000
      · have := Hby.out i
        simpa [List.getD, List.getElem?_take, hi2] using this
      · simp [List.getD, List.getElem?_take, hi2]
  · go_enter Tryz.func27, Tryz.ntmps27
    go_wp2
    go_ret
    refine ⟨rfl, ⟨a, l, cap, 0, ?_, Nat.le_refl _, by omega, ?_, Hby.out⟩, (Below.refl _ _).alloc (Nat.le_refl _) _, by simp⟩
    · exact heap_alloc_new w _
    · intro i hi
      obtain ⟨b, off, ha, hb', hc'⟩ := hr i (by omega)
      refine ⟨b, off, ha, hb', ?_⟩
      rw [World.cell?_of_block (w := w) (Below.heap_alloc w _ _ hb'), hc']

/-- What a pick leaves: a number from 0 to n - 1; the reader has read one more; nothing else has changed. -/
def Picked (n : Int) (r K : Nat) (w : World) (e : Ending) (w' : World) : Prop :=
  ∃ k : Int, e = .returned (.int .i64 k) ∧ 0 ≤ k ∧ k < n ∧ Reader w' r (K + 1) ∧ w.grownBy w' (some r) ∧ w'.heap.size = w.heap.size

theorem Reader.next {w : World} {r K : Nat} {a : Option Addr} {l : List Int} {cap : Nat} {p : Nat} (n : Nat)
    (hh : w.heap[r]? = some (.cells #[.slice a l.length cap, .int .i64 p] 67 (0, 0))) (hp : p ≤ K) (hl : l.length ≤ 2000)
    (hc : ∀ i, i < l.length → ∃ b off, a = some ⟨b, off, none⟩ ∧ b < r ∧ w.cell? ⟨b, off + i, none⟩ = some (.int .u8 (l.getD i 0))) (hb : ∀ i, 0 ≤ l.getD i 0 ∧ l.getD i 0 ≤ 255) :
    Reader ((w.setCell ⟨r, 1, none⟩ (.int .i64 ((p : Int) + 1))).drewN n) r (K + 1) ∧ w.grownBy ((w.setCell ⟨r, 1, none⟩ (.int .i64 ((p : Int) + 1))).drewN n) (some r) ∧
      ((w.setCell ⟨r, 1, none⟩ (.int .i64 ((p : Int) + 1))).drewN n).heap.size = w.heap.size := by
  refine ⟨⟨a, l, cap, p + 1, ?_, by omega, hl, fun i hi => ?_, hb⟩, ⟨rfl, rfl, rfl, by simp [World.setCell], fun k hk hne => ?_⟩, by simp [World.setCell]⟩
  · show (w.setCell ⟨r, 1, none⟩ (.int .i64 ((p : Int) + 1))).heap[r]? = _
    rw [heap_setCell_same w r 1 _ _ _ hh]
    simp
  · obtain ⟨b, off, ha, hlt, hcell⟩ := hc i hi
    refine ⟨b, off, ha, hlt, ?_⟩
    show (w.setCell ⟨r, 1, none⟩ (.int .i64 ((p : Int) + 1))).cell? ⟨b, off + i, none⟩ = _
    rw [World.cell?_of_block (w := w) (Below.heap_setCell _ _ _ _ (by simp; omega)), hcell]
  · show (w.setCell ⟨r, 1, none⟩ (.int .i64 ((p : Int) + 1))).heap[k]? = _
    exact Below.heap_setCell _ _ _ _ (by simp; intro h; exact hne (by rw [h]))

theorem pick_any (r K : Nat) (n : Int) (w : World) (hR : Reader w r K) (hK : K ≤ 1000000) (hn0 : 1 ≤ n) (hn1 : n ≤ 1000000) :
    Calls Tryz.prog 28 #[.pointer (some ⟨r, 0, none⟩), .int .i64 n] w (Picked n r K w) := by
  obtain ⟨a, l, cap, p, hh, hp, hl, hc, hby⟩ := hR
  have hc0 : w.cell? ⟨r, 0, none⟩ = some (.slice a l.length cap) := by rw [cell_of_row w r 0 _ _ _ hh]; rfl
  have hc1 : w.cell? ⟨r, 1, none⟩ = some (.int .i64 p) := by rw [cell_of_row w r 1 _ _ _ hh]; rfl
  have hf : ∀ j, w.frozen? ⟨r, j, none⟩ = false := fun j => frozen_of_row w r j _ _ hh
  have hf1 := hf 1
  clear hf
  have hnext := fun n => Reader.next n hh hp hl hc hby
  have Hnext := Lib.hid hnext
  have Hby := Lib.hid hby
  clear hh hnext hby
  by_cases h0 : l.length = 0
  · have hz : ((l.length : Int) == 0) = true := by simp [h0]
    clear h0
    go_enter Tryz.func28, Tryz.ntmps28
    go_wp2
    go_ret
    exact ⟨0, rfl, by omega, by omega, Hnext.out 0⟩
  · have hz : ((l.length : Int) == 0) = false := by
      rw [beq_eq_false_iff_ne]
      omega
    have hpos : 1 ≤ l.length := by omega
    clear h0
    by_cases hlt : p < l.length
    · obtain ⟨b, off, ha, hbr, hcell⟩ := hc p hlt
      subst ha
      have hv := Hby.out p
      have e1 : l.getD p 0 = l[p] := by simp [List.getD, hlt]
      rw [e1] at hv
      clear e1
      go_enter Tryz.func28, Tryz.ntmps28
      go_wp2
      go_ret
      have hm := Int.emod_nonneg l[p] (show n ≠ 0 by omega)
      have hm2 := Int.emod_lt_of_pos l[p] (show 0 < n by omega)
      exact ⟨_, rfl, hm, hm2, Hnext.out 0⟩
    · obtain ⟨b, off, ha, hbr, -⟩ := hc 0 (by omega)
      subst ha
      have hcs : ∀ i, i < l.length → w.cell? ⟨b, off + i, none⟩ = some (.int .u8 (l.getD i 0)) := fun i hi => by
        obtain ⟨b', off', he, -, h⟩ := hc i hi
        simp at he
        obtain ⟨rfl, rfl⟩ := he
        exact h
      clear hc
      have hby := Hby.out
      have hge : l.length ≤ p := by omega
      clear hz Hby hlt
      generalize l.length = L at *
      have hq1 : p % L < L := Nat.mod_lt _ (by omega)
      have hq2 : (p * 7 + 3) % L < L := Nat.mod_lt _ (by omega)
      have hx1 := hcs _ hq1
      have hx2 := hcs _ hq2
      have hv1 := hby (p % L)
      have hv2 := hby ((p * 7 + 3) % L)
      generalize e1 : l.getD (p % L) 0 = y1 at hx1 hv1
      generalize e2 : l.getD ((p * 7 + 3) % L) 0 = y2 at hx2 hv2
      clear hcs e1 e2 hby
      have hdv : 0 ≤ (p : Int) / (L : Int) ∧ (p : Int) / (L : Int) ≤ p := by
        have e : (p : Int) / (L : Int) = ((p / L : Nat) : Int) := by simp
        rw [e]
        have h1 := Nat.div_le_self p L
        exact ⟨Int.natCast_nonneg _, by exact_mod_cast h1⟩
      have hz : ((L : Int) == 0) = false := by
        rw [beq_eq_false_iff_ne]
        omega
      have hq3 : 0 ≤ ((p : Int) * 7 + 3) % (L : Int) ∧ ((p : Int) * 7 + 3) % (L : Int) < (L : Int) :=
        ⟨Int.emod_nonneg _ (by omega), Int.emod_lt_of_pos _ (by omega)⟩
      go_enter Tryz.func28, Tryz.ntmps28
      go_wp2
      go_quiet (fail)
      go_wp2
      go_ret
      have hx := xor_nonneg (x := y1 * 131 + y2 * 1117 + ↑p * 29 + ↑p / ↑L * 53) (y := (y1 * 131 + y2 * 1117 + ↑p * 29 + ↑p / ↑L * 53) / 64) (by omega) (by omega) (by omega) (by omega)
      have hm := tmod_range hx hn0
      exact ⟨_, rfl, hm.1, hm.2, Hnext.out _⟩

end Go.Proofs.YtmgdcnibmifdeaaGreatDoor

/- Contracts of the draws of words. -/
set_option linter.unusedVariables false
namespace Go.Proofs.YtmgdcnibmifdeaaGreatDoor
open Go.RowKit Res

theorem grown_of_below {w w' : World} (h : Below w.heap.size w w') (row : Option Nat) : w.grownBy w' row := ⟨h.os, h.tape, h.output, h.size, fun k hk _ => h.block k hk⟩
theorem grown_trans {a b c : World} {row : Option Nat} (h : a.grownBy b row) (k : b.grownBy c row) : a.grownBy c row :=
  ⟨k.os.trans h.os, k.tape.trans h.tape, k.output.trans h.output, Nat.le_trans h.size k.size, fun i hi hne => (k.block i (Nat.lt_of_lt_of_le hi h.size) hne).trans (h.block i hi hne)⟩

theorem Reader.lt {w : World} {r K : Nat} (h : Reader w r K) : r < w.heap.size := by
  obtain ⟨a, l, cap, p, hh, -⟩ := h
  exact (Array.getElem?_eq_some_iff.1 hh).1
theorem Reader.drew {w : World} {r K : Nat} (h : Reader w r K) : Reader w.drew r K := h
theorem grown_drew {w w' : World} {row : Option Nat} (h : w.drew.grownBy w' row) : w.grownBy w' row := ⟨h.os, h.tape, h.output, h.size, fun k hk hne => h.block k hk hne⟩
theorem Reader.mono {w : World} {r K K' : Nat} (h : Reader w r K) (hK : K ≤ K') : Reader w r K' := by
  obtain ⟨a, l, cap, p, hh, hp, hrest⟩ := h
  exact ⟨a, l, cap, p, hh, by omega, hrest⟩
theorem Reader.kept {w w' : World} {r K : Nat} (h : Reader w r K) (hb : Below w.heap.size w w') : Reader w' r K := by
  have hlt := h.lt
  obtain ⟨a, l, cap, p, hh, hp, hl, hc, hby⟩ := h
  refine ⟨a, l, cap, p, by rw [hb.block r hlt]; exact hh, hp, hl, fun i hi => ?_, hby⟩
  obtain ⟨b, off, ha, hbr, hcell⟩ := hc i hi
  exact ⟨b, off, ha, hbr, by rw [hb.cell (p := ⟨b, off + i, none⟩) (by show b < _; omega)]; exact hcell⟩

/-- A draw of one int out of a reader. -/
def DrewR (p : Int → Prop) (r K : Nat) (w : World) (e : Ending) (w' : World) : Prop :=
  ∃ k : Int, e = .returned (.int .i64 k) ∧ p k ∧ Reader w' r K ∧ w.grownBy w' (some r)

theorem l91Code_any (r K : Nat) (w : World) (hR : Reader w r K) (hK : K ≤ 900000) :
    Calls Tryz.prog 75 #[.pointer (some ⟨r, 0, none⟩)] w (DrewR (fun k => 0 ≤ k ∧ k ≤ 16777215) r (K + 2) w) := by
  go_enter Tryz.func75, Tryz.ntmps75
  go_wp2_with fail
  refine (pick_any _ _ _ _ hR (by omega) (by omega) (by omega)).mono ?_
  rintro e w1 ⟨k1, rfl, hk10, hk11, hR1, hg1, hz1⟩
  go_wp2_with fail
  refine (pick_any _ _ _ _ hR1 (by omega) (by omega) (by omega)).mono ?_
  rintro e w2 ⟨k2, rfl, hk20, hk21, hR2, hg2, hz2⟩
  go_wp2_with fail
  refine (l3Of_any _ _ (by omega) (by omega)).mono ?_
  rintro e w3 ⟨rfl, hs3⟩
  have hc := code_lt (m := (k1 + 64 * k2).toNat) (by omega)
  go_wp2_with fail
  go_ret
  exact ⟨_, rfl, ⟨by omega, by omega⟩, hR2.kept hs3, grown_trans (grown_trans hg1 hg2) (grown_of_below hs3 _)⟩

theorem l91Word_any (r K : Nat) (w : World) (hR : Reader w r K) (hK : K ≤ 800000) :
    Calls Tryz.prog 44 #[.pointer (some ⟨r, 0, none⟩)] w (DrewR (fun k => -1 ≤ k ∧ k ≤ 16777216) r (K + 9) w) := by
  go_enter Tryz.func44, Tryz.ntmps44
  go_wp2_with fail
  refine (pick_any _ _ _ _ hR (by omega) (by omega) (by omega)).mono ?_
  rintro e w1 ⟨k1, rfl, hk10, hk11, hR1, hg1, hz1⟩
  by_cases h0 : k1 = 0
  · subst h0
    go_wp2_with fail
    go_ret
    exact ⟨_, rfl, ⟨by omega, by omega⟩, hR1.mono (by omega), hg1⟩
  by_cases h1 : k1 = 1
  · subst h1
    go_wp2_with fail
    go_ret
    exact ⟨_, rfl, ⟨by omega, by omega⟩, hR1.mono (by omega), hg1⟩
  have e0 : (k1 == 0) = false := by rw [beq_eq_false_iff_ne]; exact h0
  have e1 : (k1 == 1) = false := by rw [beq_eq_false_iff_ne]; exact h1
  by_cases h2 : k1 = 2
  · subst h2
    go_wp2_with fail
    refine (pick_any _ _ _ _ hR1 (by omega) (by omega) (by omega)).mono ?_
    rintro e w2 ⟨k2, rfl, hk20, hk21, hR2, hg2, hz2⟩
    go_wp2_with fail
    refine (pick_any _ _ _ _ hR2 (by omega) (by omega) (by omega)).mono ?_
    rintro e w3 ⟨k3, rfl, hk30, hk31, hR3, hg3, hz3⟩
    go_wp2_with fail
    refine (pick_any _ _ _ _ hR3 (by omega) (by omega) (by omega)).mono ?_
    rintro e w4 ⟨k4, rfl, hk40, hk41, hR4, hg4, hz4⟩
    go_wp2_with fail
    go_ret
    exact ⟨_, rfl, ⟨by omega, by omega⟩, hR4.mono (by omega), grown_trans (grown_trans (grown_trans hg1 hg2) hg3) hg4⟩
  have e2 : (k1 == 2) = false := by rw [beq_eq_false_iff_ne]; exact h2
  go_wp2_with fail
  refine (l91Code_any _ _ _ hR1 (by omega)).mono ?_
  rintro e w2 ⟨k2, rfl, ⟨hk20, hk21⟩, hR2, hg2⟩
  go_wp2_with fail
  refine (pick_any _ _ _ _ hR2 (by omega) (by omega) (by omega)).mono ?_
  rintro e w3 ⟨k3, rfl, hk30, hk31, hR3, hg3, hz3⟩
  have hg13 := grown_trans (grown_trans hg1 hg2) hg3
  obtain ⟨n2, rfl⟩ := Int.eq_ofNat_of_zero_le hk20
  clear e0 e1 e2 h0 h1 h2 hk10 hk11
  go_wp2_with fail
  go_loopw [3, 5] (fun s x wr => ∃ (i n : Nat), (i : Int) ≤ k3 ∧ x = .int .i64 (i : Int) ∧ s = .int .i64 (n : Int) ∧ n < 16777216 ∧ Reader wr r (K + 1 + 2 + 1 + i) ∧ w.grownBy wr (some r))
    (fun _ x _ => (6 - (intOf x).toNat))
  case atStart => exact ⟨0, n2, by omega, rfl, rfl, by omega, hR3, hg13⟩
  case round =>
    obtain ⟨i, n, hi, rfl, rfl, hn, hRi, hgi⟩ := hrel
    by_cases hlt : (i : Int) < k3
    · go_wp2_with fail
      refine (pick_any _ _ _ _ hRi (by omega) (by omega) (by omega)).mono ?_
      rintro e w4 ⟨k4, rfl, hk40, hk41, hR4, hg4, hz4⟩
      obtain ⟨p, rfl⟩ := Int.eq_ofNat_of_zero_le hk40
      have hx := Nat.xor_lt_two_pow (n := 24) (x := n) (y := 2 ^ p) (by omega) (Nat.pow_lt_pow_right (by omega) (by omega))
      go_wp2_with fail
      go_roundw
      case rel =>
        exact ⟨i + 1, n ^^^ 2 ^ p, by omega, by go_num, by rw [wrap64_pow p (by omega), i64_xor _ _ (by omega) (Nat.lt_of_lt_of_le (Nat.pow_lt_pow_right (by omega) (show p < 24 by omega)) (by omega))], by omega, hR4, grown_trans hgi hg4⟩
      case measure => simp [intOf]; omega
    · go_wp2_with fail
      go_ret
      exact ⟨_, rfl, ⟨by omega, by omega⟩, hRi.mono (by omega), hgi⟩

end Go.Proofs.YtmgdcnibmifdeaaGreatDoor

/- Contracts of the draws of residues. -/
set_option linter.unusedVariables false
namespace Go.Proofs.YtmgdcnibmifdeaaGreatDoor
open Go.RowKit

/-- What came in as code: bytes. -/
def Code (w : World) (a : Option Addr) (l : List Int) (cap : Nat) : Prop :=
  l.length ≤ cap ∧ cap ≤ 9223372036854775807 ∧ Reads .u8 w a l ∧ ∀ n ∈ l, (Lit.int .u8 n).wf = true
theorem Code.kept {w w' : World} {a : Option Addr} {l : List Int} {cap : Nat} (h : Code w a l cap) (hb : Below w.heap.size w w') : Code w' a l cap :=
  ⟨h.1, h.2.1, h.2.2.1.kept hb, h.2.2.2⟩
theorem IsRow.code {w : World} {a : Option Addr} {len cap : Nat} {zs : List Int} (h : IsRow .u8 w a len cap zs) :
    Code w a (zs.take len) cap ∧ (zs.take len).length = len := by
  obtain ⟨h1, h2, h3, h4, h5⟩ := h.reads
  exact ⟨⟨by omega, h4, h1, h5⟩, h2⟩

/-- A draw of one int. -/
def Drew (p : Int → Prop) (w : World) (e : Ending) (w' : World) : Prop :=
  ∃ k : Int, e = .returned (.int .i64 k) ∧ p k ∧ Below w.heap.size w w'

theorem below_picked {B : Nat} {a w w' : World} {r : Nat} (h : Below B a w) (hg : w.grownBy w' (some r)) (hB : B ≤ w.heap.size) (hr : B ≤ r) : Below B a w' :=
  h.grown hg hB (by rintro k hk; cases hk; exact hr)



end Go.Proofs.YtmgdcnibmifdeaaGreatDoor

/- Contracts of the draws and the references that the laws on scripts meet. -/
set_option linter.unusedVariables false
namespace Go.Proofs.YtmgdcnibmifdeaaGreatDoor
open Go.RowKit Res

theorem DrawCodeOf_any (a : Option Addr) (cap : Nat) (l : List Int) (w : World) (hc : Code w a l cap) :
    Calls Tryz.prog 15 #[.slice a l.length cap] w (Drew (fun k => 0 ≤ k ∧ k ≤ 8191) w) := by
  go_enter Tryz.func15, Tryz.ntmps15
  go_wp2_with fail
  refine (l6Open_any _ _ l _ hc.1 hc.2.1 hc.2.2.1 hc.2.2.2).mono ?_
  rintro e w1 ⟨rfl, hR1, hb1, hz1⟩
  go_wp2_with fail
  refine (pick_any _ _ _ _ hR1 (by omega) (by omega) (by omega)).mono ?_
  rintro e w2 ⟨n2, rfl, hn2, hm2, hR2, hg2, hz2⟩
  go_wp2_with fail
  refine (pick_any _ _ _ _ hR2 (by omega) (by omega) (by omega)).mono ?_
  rintro e w3 ⟨n3, rfl, hn3, hm3, hR3, hg3, hz3⟩
  go_wp2_with fail
  refine (pick_any _ _ _ _ hR3 (by omega) (by omega) (by omega)).mono ?_
  rintro e w4 ⟨n4, rfl, hn4, hm4, hR4, hg4, hz4⟩
  go_wp2_with fail
  go_ret
  exact ⟨_, rfl, ⟨by omega, by omega⟩, below_picked hb1 (grown_trans (grown_trans hg2 hg3) hg4) (by omega) (Nat.le_refl _)⟩
theorem DrawWordText_any (a : Option Addr) (cap : Nat) (l : List Int) (w : World) (hc : Code w a l cap) :
    Calls Tryz.prog 19 #[.slice a l.length cap] w (Drew (fun _ => True) w) := by
  go_enter Tryz.func19, Tryz.ntmps19
  go_wp2_with fail
  refine (l6Open_any _ _ l _ hc.1 hc.2.1 hc.2.2.1 hc.2.2.2).mono ?_
  rintro e w1 ⟨rfl, hR1, hb1, hz1⟩
  go_wp2_with fail
  refine (l91Word_any _ _ _ hR1 (by omega)).mono ?_
  rintro e w2 ⟨k, rfl, hk, hR2, hg2⟩
  go_wp2_with fail
  go_ret
  exact ⟨_, rfl, trivial, below_picked hb1 hg2 (by omega) (Nat.le_refl _)⟩
theorem DrawCodeMend_any (a : Option Addr) (cap : Nat) (l : List Int) (w : World) (hc : Code w a l cap) :
    Calls Tryz.prog 24 #[.slice a l.length cap] w (Drew (fun _ => True) w) := by
  go_enter Tryz.func24, Tryz.ntmps24
  go_wp2_with fail
  refine (l6Open_any _ _ l _ hc.1 hc.2.1 hc.2.2.1 hc.2.2.2).mono ?_
  rintro e w1 ⟨rfl, hR1, hb1, hz1⟩
  go_wp2_with fail
  refine (l91Word_any _ _ _ hR1 (by omega)).mono ?_
  rintro e w2 ⟨k, rfl, hk, hR2, hg2⟩
  go_wp2_with fail
  go_ret
  exact ⟨_, rfl, trivial, below_picked hb1 hg2 (by omega) (Nat.le_refl _)⟩
theorem specCodeOf_no (m : Int) (w : World) (h : inB m 0 4095 = false) :
    Calls Tryz.prog 17 #[.int .i64 m] w fun e w' => e = .returned (.tuple #[.int .i64 0, .bool false]) ∧ w = w' := by
  go_enter Tryz.func17, Tryz.ntmps17
  go_wp2_with fail
  refine (l6In_any _ _ _ _).mono ?_
  rintro e w' ⟨rfl, rfl⟩
  go_wp2_with fail
  go_ret2
  exact ⟨rfl, rfl⟩
theorem specCodeOf_ok (m : Int) (w : World) (m0 : 0 ≤ m) (m1 : m ≤ 4095) :
    Calls Tryz.prog 17 #[.int .i64 m] w fun e w' => e = .returned (.tuple #[.int .i64 ((code m.toNat : Nat) : Int), .bool true]) ∧ Below w.heap.size w w' := by
  have hin : inB m 0 4095 = true := inB_true m0 m1
  have CC := Lib.hid (fun w => l3Of_any m w m0 m1)
  have hb0 := Below.refl w.heap.size w
  generalize ((code m.toNat : Nat) : Int) = c at *
  clear m0 m1
  go_enter Tryz.func17, Tryz.ntmps17
  go_wp2_with fail
  refine (l6In_any _ _ _ _).mono ?_
  rintro e w' ⟨rfl, rfl⟩
  go_wp2_with fail
  refine (CC.out _).mono ?_
  rintro e w1 ⟨rfl, hs1⟩
  have hb1 := hb0.trans (hs1.mono hb0.size)
  go_wp2_with fail
  go_ret2
  exact ⟨rfl, hb1⟩
theorem exe_lit {s t : List UInt8} (h : exec s = t) {S T : ByteArray} (hS : S = ⟨s.toArray⟩) (hT : T = ⟨t.toArray⟩) (w : World) (hG : Gl w) :
    Calls Tryz.prog 11 #[.string S] w fun e w' => e = .returned (.string T) ∧ Below w.heap.size w w' := by
  subst hS hT
  refine (implExecute_any _ w hG).mono ?_
  rintro e w' ⟨rfl, hb⟩
  refine ⟨?_, hb⟩
  rw [← h]

end Go.Proofs.YtmgdcnibmifdeaaGreatDoor

/- Scripts: what stands behind the last newline counts for nothing; lines behind a script. -/
set_option linter.unusedVariables false
namespace Go.Proofs.YtmgdcnibmifdeaaGreatDoor
open Res

theorem spl_snoc {c : UInt8} (a : List UInt8) {b : List UInt8} (h : ∀ x, x ∈ b → x ≠ c) : spl c (a ++ c :: b) = spl c a ++ [b] := by
  induction a with
  | nil => rw [List.nil_append, spl_hit, spl_one h]; rfl
  | cons x a ih =>
    by_cases hx : x = c
    · subst hx
      rw [List.cons_append, spl_hit, ih, spl_hit]
      rfl
    · cases hs : spl c a with
      | nil => exact absurd hs (spl_ne c a)
      | cons p ps =>
        rw [hs] at ih
        rw [List.cons_append, spl_cons hx ih, spl_cons hx hs]
        rfl
theorem linesOf_cut (a : List UInt8) {b : List UInt8} (h : ∀ x, x ∈ b → x ≠ 10) : linesOf (a ++ 10 :: b) = linesOf (a ++ [10]) := by
  unfold linesOf
  rw [spl_snoc a h, spl_snoc a (b := []) (by simp), List.dropLast_concat, List.dropLast_concat]
theorem linesOf_none {a : List UInt8} (h : ∀ x, x ∈ a → x ≠ 10) : linesOf a = [] := by
  unfold linesOf
  rw [spl_one h]
  rfl
theorem linesOf_end (a : List UInt8) : linesOf (a ++ [10]) = spl 10 a := by
  unfold linesOf
  rw [spl_snoc a (b := []) (by simp), List.dropLast_concat]
/-- Lines behind a script that ends a line. -/
theorem linesOf_more (a : List UInt8) (L : List (List UInt8)) (h : ∀ l, l ∈ L → ∀ x, x ∈ l → x ≠ 10) : linesOf (a ++ [10] ++ script L) = spl 10 a ++ L := by
  induction L generalizing a with
  | nil => simp only [script, List.append_nil]; rw [linesOf_end]
  | cons l L ih =>
    have e : a ++ [10] ++ script (l :: L) = (a ++ 10 :: l) ++ [10] ++ script L := by simp [script]
    rw [e, ih _ (fun m hm => h m (by simp [hm])), spl_snoc a (h l (by simp))]
    simp
theorem exS_append (n : Nat) (L M : List (List UInt8)) : exS n (L ++ M) = ((exS (exS n L).1 M).1, (exS n L).2 ++ (exS (exS n L).1 M).2) := by
  induction L generalizing n with
  | nil => simp [exS]
  | cons l L ih => simp only [List.cons_append, exS, ih, List.append_assoc]
/-- Whether a script ends a line. -/
def endsL (s : List UInt8) : Prop := s = [] ∨ ∃ a, s = a ++ [10]
theorem linesOf_app {s : List UInt8} (hs : endsL s) (L : List (List UInt8)) (h : ∀ l, l ∈ L → ∀ x, x ∈ l → x ≠ 10) : linesOf (s ++ script L) = linesOf s ++ L := by
  rcases hs with rfl | ⟨a, rfl⟩
  · rw [List.nil_append]
    unfold linesOf
    rw [spl_script L h, List.dropLast_concat]
    rfl
  · rw [linesOf_more a L h, linesOf_end]
/-- What a script answers before the word, and the word. -/
theorem exec_app {s : List UInt8} (hs : endsL s) (L : List (List UInt8)) (h : ∀ l, l ∈ L → ∀ x, x ∈ l → x ≠ 10) (hl : (s ++ script L).length ≤ 600) :
    exec (s ++ script L) = (exS 0 (linesOf s)).2 ++ (exS (exS 0 (linesOf s)).1 L).2 ++ (wordB ++ dec (exS (exS 0 (linesOf s)).1 L).1 ++ [10]) := by
  unfold exec
  rw [if_neg (by omega), linesOf_app hs L h, exS_append]
  simp only [List.append_assoc]
theorem exec_short {s : List UInt8} (hl : s.length ≤ 600) : exec s = (exS 0 (linesOf s)).2 ++ (wordB ++ dec (exS 0 (linesOf s)).1 ++ [10]) := by
  unfold exec
  rw [if_neg (by omega)]
  simp only [List.append_assoc]
/-- The answers end a line. -/
theorem exS_ends (n : Nat) (L : List (List UInt8)) : endsL (exS n L).2 := by
  induction L generalizing n with
  | nil => exact .inl rfl
  | cons l L ih =>
    refine .inr ?_
    show ∃ a, (exL n l).2 ++ [10] ++ (exS (exL n l).1 L).2 = a ++ [10]
    rcases ih (exL n l).1 with h | ⟨a, h⟩
    · rw [h]; exact ⟨(exL n l).2, by simp⟩
    · rw [h]; exact ⟨(exL n l).2 ++ [10] ++ a, by simp⟩
theorem exec_cut {s t : List UInt8} (h : linesOf s = linesOf t) (hs : s.length ≤ 600) (ht : t.length ≤ 600) : exec s = exec t := by
  rw [exec_short hs, exec_short ht, h]

end Go.Proofs.YtmgdcnibmifdeaaGreatDoor

/- Plain laws: pieces, numbers and lines as they are read sign by sign. -/
set_option linter.unusedVariables false
namespace Go.Proofs.YtmgdcnibmifdeaaGreatDoor
open Res

/-- The pieces of a text, read up to a sign: those that are whole, where the next one begins, where the reading stands. -/
structure PcS (c : UInt8) (l : List UInt8) (ps : List (List UInt8)) (f i : Nat) : Prop where
  fi : f ≤ i
  il : i ≤ l.length
  eq : spl c l = ps ++ spl c (l.drop f)
  no : ∀ j, f ≤ j → j < i → l.getD j 0 ≠ c
theorem PcS.start (c : UInt8) (l : List UInt8) : PcS c l [] 0 0 := ⟨Nat.le_refl _, Nat.zero_le _, by simp, fun j _ h => by omega⟩
theorem PcS.next {c : UInt8} {l : List UInt8} {ps : List (List UInt8)} {f i : Nat} (h : PcS c l ps f i) (hi : i < l.length) (hc : l.getD i 0 ≠ c) : PcS c l ps f (i + 1) :=
  ⟨by have := h.fi; omega, hi, h.eq, fun j h1 h2 => by
    by_cases e : j = i
    · rw [e]; exact hc
    · exact h.no j h1 (by omega)⟩
theorem getD_mem {l : List UInt8} {f i : Nat} (hi : i ≤ l.length) {x : UInt8} (hx : x ∈ (l.drop f).take (i - f)) : ∃ j, f ≤ j ∧ j < i ∧ l.getD j 0 = x := by
  obtain ⟨j, hj, rfl⟩ := List.getElem_of_mem hx
  have hj2 := hj
  rw [List.length_take, List.length_drop] at hj2
  refine ⟨f + j, by omega, by omega, ?_⟩
  rw [List.getElem_take, List.getElem_drop]
  exact (elem_getD (by omega)).symm
theorem PcS.part {c : UInt8} {l : List UInt8} {ps : List (List UInt8)} {f i : Nat} (h : PcS c l ps f i) : ∀ x, x ∈ (l.drop f).take (i - f) → x ≠ c := by
  intro x hx e
  obtain ⟨j, h1, h2, h3⟩ := getD_mem h.il hx
  exact h.no j h1 h2 (h3.trans e)
theorem drop_at {l : List UInt8} {f i : Nat} (hf : f ≤ i) (hi : i < l.length) : l.drop f = (l.drop f).take (i - f) ++ l.getD i 0 :: l.drop (i + 1) := by
  have h1 : l.drop i = l.getD i 0 :: l.drop (i + 1) := by rw [List.drop_eq_getElem_cons hi, elem_getD hi]
  have h2 : (l.drop f).drop (i - f) = l.drop i := by rw [List.drop_drop]; congr 1; omega
  rw [← h1, ← h2, List.take_append_drop]
theorem PcS.hit {c : UInt8} {l : List UInt8} {ps : List (List UInt8)} {f i : Nat} (h : PcS c l ps f i) (hi : i < l.length) (hc : l.getD i 0 = c) : PcS c l (ps ++ [(l.drop f).take (i - f)]) (i + 1) (i + 1) := by
  refine ⟨Nat.le_refl _, hi, ?_, fun j h1 h2 => by omega⟩
  have h1 := drop_at h.fi hi
  rw [hc] at h1
  rw [h.eq, List.append_assoc]
  congr 1
  conv => lhs; rw [h1]
  rw [spl_app _ h.part]
  rfl
theorem PcS.last {c : UInt8} {l : List UInt8} {ps : List (List UInt8)} {f : Nat} (h : PcS c l ps f l.length) : spl c l = ps ++ [l.drop f] := by
  rw [h.eq, spl_one]
  intro x hx
  refine h.part x ?_
  rw [List.take_of_length_le (by rw [List.length_drop]; omega)]
  exact hx
theorem PcS.lines {l : List UInt8} {ps : List (List UInt8)} {f : Nat} (h : PcS 10 l ps f l.length) : linesOf l = ps := by
  unfold linesOf
  rw [h.last, List.dropLast_concat]
theorem PcS.bound {c : UInt8} {l : List UInt8} {ps : List (List UInt8)} {f i : Nat} (h : PcS c l ps f i) : ps.length ≤ l.length := by
  have h1 := spl_length c l
  have h2 : 1 ≤ (spl c (l.drop f)).length := List.length_pos_iff.2 (spl_ne _ _)
  rw [h.eq, List.length_append] at h1
  omega

/-- The digits of a number, read up to a sign. -/
def DgS (l : List UInt8) (k n : Nat) : Prop := k ≤ l.length ∧ (l.take k).all isD = true ∧ n = numV (l.take k)
theorem DgS.start (l : List UInt8) : DgS l 0 0 := ⟨Nat.zero_le _, rfl, rfl⟩
theorem DgS.next {l : List UInt8} {k n : Nat} (h : DgS l k n) (hk : k < l.length) (hd : isD (l.getD k 0) = true) : DgS l (k + 1) (10 * n + ((l.getD k 0).toNat - 48)) := by
  obtain ⟨-, h2, h3⟩ := h
  have e : l.take (k + 1) = l.take k ++ [l.getD k 0] := by rw [List.take_succ_eq_append_getElem hk, elem_getD hk]
  refine ⟨hk, ?_, ?_⟩
  · rw [e, List.all_append, h2]
    show (true && (isD (l.getD k 0) && true)) = true
    rw [hd]
    rfl
  · rw [e]
    unfold numV at h3 ⊢
    rw [numTo_append, ← h3]
    rfl
theorem DgS.lt {l : List UInt8} {k n : Nat} (h : DgS l k n) (h8 : l.length ≤ 8) : n < 100000000 := by
  rw [h.2.2]
  exact numV_lt (by rw [List.length_take]; have := h.1; omega) h.2.1
theorem DgS.no {l : List UInt8} {k : Nat} (hk : k < l.length) (hd : isD (l.getD k 0) = false) : numF l = none := by
  unfold numF
  rw [if_neg]
  rintro ⟨-, h⟩
  have := List.all_eq_true.1 h _ (List.getElem_mem hk)
  rw [elem_getD hk, hd] at this
  cases this
theorem DgS.all {l : List UInt8} {n : Nat} (h : DgS l l.length n) (h1 : 1 ≤ l.length) (h8 : l.length ≤ 8) : numF l = some n := by
  obtain ⟨-, h2, h3⟩ := h
  rw [List.take_length] at h2 h3
  unfold numF
  rw [if_pos ⟨⟨h1, h8⟩, h2⟩, h3]
theorem numF_short {l : List UInt8} (h : ¬ (1 ≤ l.length ∧ l.length ≤ 8)) : numF l = none := by
  unfold numF
  rw [if_neg (fun e => h e.1)]

/-- The numbers of a text, read up to a sign. -/
def NmS (l : List UInt8) (m : List Nat) (f i : Nat) : Prop := ∃ ps, PcS 32 l ps f i ∧ numsL ps = some m ∧ m.length = ps.length
theorem NmS.start (l : List UInt8) : NmS l [] 0 0 := ⟨[], PcS.start 32 l, rfl, rfl⟩
theorem NmS.next {l : List UInt8} {m : List Nat} {f i : Nat} (h : NmS l m f i) (hi : i < l.length) (hc : l.getD i 0 ≠ 32) : NmS l m f (i + 1) := by
  obtain ⟨ps, h1, h2⟩ := h
  exact ⟨ps, h1.next hi hc, h2⟩
theorem NmS.hit {l : List UInt8} {m : List Nat} {f i n : Nat} (h : NmS l m f i) (hi : i < l.length) (hc : l.getD i 0 = 32) (hn : numF ((l.drop f).take (i - f)) = some n) : NmS l (m ++ [n]) (i + 1) (i + 1) := by
  obtain ⟨ps, h1, h2, h3⟩ := h
  refine ⟨_, h1.hit hi hc, ?_, by simp [h3]⟩
  rw [numsL_snoc, h2, hn]
theorem NmS.bad {l : List UInt8} {m : List Nat} {f i : Nat} (h : NmS l m f i) (hi : i < l.length) (hc : l.getD i 0 = 32) (hn : numF ((l.drop f).take (i - f)) = none) : nums l = none := by
  obtain ⟨ps, h1, h2, h3⟩ := h
  unfold nums
  rw [(h1.hit hi hc).eq]
  exact numsL_none (f := (l.drop f).take (i - f)) (by simp) hn
theorem NmS.last {l : List UInt8} {m : List Nat} {f n : Nat} (h : NmS l m f l.length) (hn : numF (l.drop f) = some n) : nums l = some (m ++ [n]) := by
  obtain ⟨ps, h1, h2, h3⟩ := h
  unfold nums
  rw [h1.last, numsL_snoc, h2, hn]
theorem NmS.lastBad {l : List UInt8} {m : List Nat} {f : Nat} (h : NmS l m f l.length) (hn : numF (l.drop f) = none) : nums l = none := by
  obtain ⟨ps, h1, h2, h3⟩ := h
  unfold nums
  rw [h1.last]
  exact numsL_none (f := l.drop f) (by simp) hn
theorem NmS.len {l : List UInt8} {m : List Nat} {f i : Nat} (h : NmS l m f i) : f ≤ i ∧ i ≤ l.length ∧ m.length ≤ l.length := by
  obtain ⟨ps, h1, h2, h3⟩ := h
  exact ⟨h1.fi, h1.il, by rw [h3]; exact h1.bound⟩

/-- The lines of a script, run up to a sign. -/
def LnS (l : List UInt8) (T : Nat × List UInt8) (f i : Nat) : Prop := ∃ ps, PcS 10 l ps f i ∧ T = exS 0 ps ∧ ps.length ≤ l.length
theorem LnS.start (l : List UInt8) : LnS l (0, []) 0 0 := ⟨[], PcS.start 10 l, rfl, Nat.zero_le _⟩
theorem LnS.next {l : List UInt8} {T : Nat × List UInt8} {f i : Nat} (h : LnS l T f i) (hi : i < l.length) (hc : l.getD i 0 ≠ 10) : LnS l T f (i + 1) := by
  obtain ⟨ps, h1, h2⟩ := h
  exact ⟨ps, h1.next hi hc, h2⟩
theorem LnS.hit {l : List UInt8} {T : Nat × List UInt8} {f i : Nat} (h : LnS l T f i) (hi : i < l.length) (hc : l.getD i 0 = 10) :
    LnS l ((exL T.1 ((l.drop f).take (i - f))).1, T.2 ++ ((exL T.1 ((l.drop f).take (i - f))).2 ++ [10])) (i + 1) (i + 1) := by
  obtain ⟨ps, h1, h2, h3⟩ := h
  have h4 := h1.hit hi hc
  refine ⟨_, h4, ?_, h4.bound⟩
  rw [exS_snoc, h2]
theorem LnS.last {l : List UInt8} {T : Nat × List UInt8} {f : Nat} (h : LnS l T f l.length) (hl : l.length ≤ 600) : exec l = T.2 ++ (wordB ++ dec T.1 ++ [10]) := by
  obtain ⟨ps, h1, h2, h3⟩ := h
  unfold exec
  rw [if_neg (by omega), h1.lines, ← h2]
  simp only [List.append_assoc]
theorem LnS.ix {l : List UInt8} {T : Nat × List UInt8} {f i : Nat} (h : LnS l T f i) : f ≤ i ∧ i ≤ l.length := by
  obtain ⟨ps, h1, h2⟩ := h
  exact ⟨h1.fi, h1.il⟩
theorem exS_lt (n : Nat) (hn : n < 16777216) (L : List (List UInt8)) : (exS n L).1 < 16777216 := by
  induction L generalizing n with
  | nil => exact hn
  | cons l L ih => exact ih _ (exL_lt hn l)
theorem exS_len (n : Nat) (hn : n < 16777216) (L : List (List UInt8)) : (exS n L).2.length ≤ 50001 * L.length := by
  induction L generalizing n with
  | nil => show ([] : List UInt8).length ≤ _; simp
  | cons l L ih =>
    have h1 := exL_len hn l
    have h2 := ih _ (exL_lt hn l)
    show ((exL n l).2 ++ [10] ++ (exS (exL n l).1 L).2).length ≤ 50001 * (L.length + 1)
    rw [List.length_append, List.length_append, Nat.mul_succ]
    simp only [List.length_cons, List.length_nil]
    omega
theorem LnS.word {l : List UInt8} {T : Nat × List UInt8} {f i : Nat} (h : LnS l T f i) : T.1 < 16777216 := by
  obtain ⟨ps, h1, h2, h3⟩ := h
  rw [h2]
  exact exS_lt 0 (by omega) ps
theorem LnS.len {l : List UInt8} {T : Nat × List UInt8} {f i : Nat} (h : LnS l T f i) (hl : l.length ≤ 600) : T.2.length ≤ 50001 * 600 := by
  obtain ⟨ps, h1, h2, h3⟩ := h
  rw [h2]
  exact Nat.le_trans (exS_len 0 (by omega) ps) (Nat.mul_le_mul_left _ (by omega))

/-- The sign that cuts a line, looked for up to a sign. -/
def CtS (c : UInt8) (l : List UInt8) (k : Nat) : Prop := k ≤ l.length ∧ ∀ j, j < k → l.getD j 0 ≠ c
theorem CtS.start (c : UInt8) (l : List UInt8) : CtS c l 0 := ⟨Nat.zero_le _, fun j h => by omega⟩
theorem CtS.next {c : UInt8} {l : List UInt8} {k : Nat} (h : CtS c l k) (hk : k < l.length) (hc : l.getD k 0 ≠ c) : CtS c l (k + 1) :=
  ⟨hk, fun j hj => by
    by_cases e : j = k
    · rw [e]; exact hc
    · exact h.2 j (by omega)⟩
theorem CtS.part {c : UInt8} {l : List UInt8} {k : Nat} (h : CtS c l k) : ∀ x, x ∈ l.take k → x ≠ c := by
  intro x hx e
  have hx2 : x ∈ (l.drop 0).take (k - 0) := by simpa using hx
  obtain ⟨j, -, h2, h3⟩ := getD_mem h.1 hx2
  exact h.2 j h2 (h3.trans e)
theorem CtS.hit {c : UInt8} {l : List UInt8} {k : Nat} (h : CtS c l k) (hk : k < l.length) (hc : l.getD k 0 = c) : cutL c l = (l.take k, l.drop (k + 1), true) := by
  have h1 := drop_at (Nat.zero_le k) hk
  rw [List.drop_zero, Nat.sub_zero, hc] at h1
  conv => lhs; rw [h1]
  exact cutL_app _ h.part
theorem CtS.none {c : UInt8} {l : List UInt8} (h : CtS c l l.length) : (cutL c l).2.2 = false := by
  apply cutL_none
  intro x hx
  exact h.part x (by rw [List.take_length]; exact hx)
theorem exL_cut {n k : Nat} {l : List UInt8} (h : CtS 32 l k) (hk : k < l.length) (hc : l.getD k 0 = 32) : exL n l = sayR n (exR n (l.take k) (l.drop (k + 1))) := by
  unfold exL
  rw [h.hit hk hc]
  rfl
theorem exL_bare {n : Nat} {l : List UInt8} (h : CtS 32 l l.length) : exL n l = exW n l := by
  unfold exL
  rw [h.none]
  rfl

/-- The last newline of a text, looked for from behind. -/
def BkS (l : List UInt8) (k : Nat) : Prop := k ≤ l.length ∧ ∀ j, k ≤ j → j < l.length → l.getD j 0 ≠ 10
theorem BkS.start (l : List UInt8) : BkS l l.length := ⟨Nat.le_refl _, fun j h1 h2 => by omega⟩
theorem BkS.next {l : List UInt8} {k : Nat} (h : BkS l (k + 1)) (hc : l.getD k 0 ≠ 10) : BkS l k :=
  ⟨by have := h.1; omega, fun j h1 h2 => by
    by_cases e : j = k
    · rw [e]; exact hc
    · exact h.2 j (by omega) h2⟩
theorem BkS.rest {l : List UInt8} {k : Nat} (h : BkS l k) : ∀ x, x ∈ l.drop k → x ≠ 10 := by
  intro x hx e
  obtain ⟨j, hj, h3⟩ := List.getElem_of_mem hx
  rw [List.length_drop] at hj
  rw [List.getElem_drop] at h3
  refine h.2 (k + j) (by omega) (by omega) ?_
  rw [← elem_getD (by omega), h3, e]
/-- What complete answers: the script up to its last newline. -/
def CompS (l s : List UInt8) : Prop := endsL s ∧ linesOf s = linesOf l ∧ s.length ≤ l.length
theorem BkS.hit {l : List UInt8} {k : Nat} (h : BkS l (k + 1)) (hc : l.getD k 0 = 10) : CompS l (l.take (k + 1)) := by
  have hk : k < l.length := h.1
  have e : l.take (k + 1) = l.take k ++ [10] := by rw [List.take_succ_eq_append_getElem hk, elem_getD hk, hc]
  refine ⟨.inr ⟨_, e⟩, ?_, by rw [List.length_take]; omega⟩
  have e2 : l = l.take k ++ 10 :: l.drop (k + 1) := by
    conv => lhs; rw [← List.take_append_drop (k + 1) l, e]
    simp
  rw [e]
  conv => rhs; rw [e2]
  exact (linesOf_cut _ h.rest).symm
theorem BkS.none {l : List UInt8} (h : BkS l 0) : CompS l [] := by
  refine ⟨.inl rfl, ?_, Nat.zero_le _⟩
  rw [linesOf_none (a := l) (fun x hx => h.rest x (by rw [List.drop_zero]; exact hx))]
  rfl
/-- The last line of answers: what lies ahead of it ends a line, and it has one newline, at its end. -/
structure LastS (l a x : List UInt8) : Prop where
  eq : l = a ++ (x ++ [10])
  ends : endsL a
  no : ∀ y, y ∈ x → y ≠ 10
theorem LastS.length {l a x : List UInt8} (h : LastS l a x) : l.length = a.length + x.length + 1 := by rw [h.eq]; simp; omega
theorem LastS.skip {l a x : List UInt8} (h : LastS l a x) {j : Nat} (h1 : a.length ≤ j) (h2 : j < a.length + x.length) : l.getD j 0 ≠ 10 := by
  have e : l.getD j 0 = x.getD (j - a.length) 0 := by
    rw [h.eq]
    unfold List.getD
    rw [List.getElem?_append_right h1, List.getElem?_append_left (by omega)]
  rw [e, ← elem_getD (show j - a.length < x.length by omega)]
  exact h.no _ (List.getElem_mem _)
theorem LastS.at' {l a x : List UInt8} (h : LastS l a x) (h0 : 0 < a.length) : l.getD (a.length - 1) 0 = 10 := by
  rcases h.ends with e | ⟨b, e⟩
  · rw [e] at h0; simp at h0
  · rw [h.eq, e]
    unfold List.getD
    rw [List.getElem?_append_left (by simp), List.getElem?_append_right (by simp)]
    simp
theorem LastS.drop {l a x : List UInt8} (h : LastS l a x) : l.drop a.length = x ++ [10] := by rw [h.eq, List.drop_left]
theorem exec_last {s : List UInt8} (hl : s.length ≤ 600) : LastS (exec s) (exS 0 (linesOf s)).2 (wordB ++ dec (exS 0 (linesOf s)).1) := by
  refine ⟨by rw [exec_short hl], exS_ends _ _, ?_⟩
  intro y hy
  rcases List.mem_append.1 hy with h | h
  · intro e
    subst e
    revert h; decide
  · exact dec_no (by decide) y h

/-- What the laws on scripts say of a script that ends a line. -/
theorem exL_zzz (n : Nat) : exL n [122, 122, 122] = (n, whatB) := by
  rw [exL_word n _ (by decide)]
  unfold exW
  rw [if_neg (by decide), if_neg (by decide), if_neg (by decide), if_neg (by decide), if_neg (by decide), if_neg (by decide), if_neg (by decide), if_neg (by decide), if_neg (by decide)]
theorem exL_setx (n : Nat) : exL n (cSet ++ 32 :: [120]) = (n, noB) := by
  unfold exL
  rw [cutL_app _ (by decide)]
  show sayR n (exR n cSet [120]) = _
  unfold exR
  rw [if_pos rfl]
  rfl
theorem exS_what (n : Nat) : exS n [[122, 122, 122], cSet ++ 32 :: [120]] = (n, [119, 104, 97, 116, 10, 110, 111, 10]) := by
  simp only [exS, exL_zzz, exL_setx]
  rfl
theorem exS_show (n : Nat) : exS n [cShow] = (n, wText n ++ [10]) := by
  simp only [exS, exL_show, List.append_nil]
theorem exS_show2 (n : Nat) : exS n [cShow, cShow] = (n, wText n ++ [10] ++ (wText n ++ [10])) := by
  simp only [exS, exL_show, List.append_nil]
theorem exec_none : exec [] = [119, 111, 114, 100, 32, 48, 10] := by
  rw [exec_short (by simp)]
  show [] ++ (wordB ++ dec 0 ++ [10]) = _
  rw [dec_small (by omega)]
  rfl
/-- What a script answers ahead of its last line; its last line without the newline. -/
def exA (s : List UInt8) : List UInt8 := (exS 0 (linesOf s)).2
def exN (s : List UInt8) : Nat := (exS 0 (linesOf s)).1
def exX (s : List UInt8) : List UInt8 := wordB ++ dec (exN s)
theorem exN_lt (s : List UInt8) : exN s < 16777216 := exS_lt 0 (by omega) _
theorem exX_len (s : List UInt8) : (exX s).length ≤ 13 := by
  unfold exX
  have := dec_length (n := exN s) 7 (by have := exN_lt s; omega)
  rw [List.length_append]
  have hw : wordB.length = 5 := rfl
  omega
theorem exA_len {s : List UInt8} (hl : s.length ≤ 600) : (exA s).length ≤ 50001 * 601 := by
  have h1 := exS_len 0 (by omega) (linesOf s)
  have h2 := spl_length 10 s
  have h3 : (linesOf s).length ≤ 601 := by unfold linesOf; rw [List.length_dropLast]; omega
  exact Nat.le_trans h1 (Nat.mul_le_mul_left _ h3)
theorem exe_last {s : List UInt8} (hl : s.length ≤ 600) : LastS (exec s) (exA s) (exX s) := exec_last hl
theorem exe_plain {s : List UInt8} (hl : s.length ≤ 600) : exec s = exA s ++ (exX s ++ [10]) := (exe_last hl).eq
theorem exe_more {s : List UInt8} (hs : endsL s) (L : List (List UInt8)) (h : ∀ l, l ∈ L → ∀ x, x ∈ l → x ≠ 10) (hl : (s ++ script L).length ≤ 600) {o : List UInt8} (he : ∀ n, exS n L = (n, o)) :
    exec (s ++ script L) = exA s ++ o ++ (exX s ++ [10]) := by
  rw [exec_app hs L h hl, he]
  rfl
theorem exe_what {s : List UInt8} (hs : endsL s) (hl : s.length ≤ 590) : exec (s ++ [122, 122, 122, 10, 115, 101, 116, 32, 120, 10]) = exA s ++ [119, 104, 97, 116, 10, 110, 111, 10] ++ (exX s ++ [10]) :=
  exe_more hs [[122, 122, 122], cSet ++ 32 :: [120]] (by decide) (by
    show (s ++ [122, 122, 122, 10, 115, 101, 116, 32, 120, 10]).length ≤ 600
    rw [List.length_append]
    simp only [List.length_cons, List.length_nil]
    omega) exS_what
theorem exe_more2 {s : List UInt8} (hs : endsL s) (L : List (List UInt8)) (h : ∀ l, l ∈ L → ∀ x, x ∈ l → x ≠ 10) (hl : (s ++ script L).length ≤ 600) {f : Nat → List UInt8} (he : ∀ n, exS n L = (n, f n)) :
    exec (s ++ script L) = exA s ++ f (exN s) ++ (exX s ++ [10]) := by
  rw [exec_app hs L h hl, he]
  rfl
theorem exe_show {s : List UInt8} (hs : endsL s) (hl : s.length ≤ 590) : exec (s ++ [115, 104, 111, 119, 10]) = exA s ++ (wText (exN s) ++ [10]) ++ (exX s ++ [10]) :=
  exe_more2 (f := fun n => wText n ++ [10]) hs [cShow] (by decide) (by
    show (s ++ [115, 104, 111, 119, 10]).length ≤ 600
    rw [List.length_append]
    simp only [List.length_cons, List.length_nil]
    omega) exS_show
theorem exe_show2 {s : List UInt8} (hs : endsL s) (hl : s.length ≤ 590) : exec (s ++ [115, 104, 111, 119, 10, 115, 104, 111, 119, 10]) = exA s ++ (wText (exN s) ++ [10] ++ (wText (exN s) ++ [10])) ++ (exX s ++ [10]) :=
  exe_more2 (f := fun n => wText n ++ [10] ++ (wText n ++ [10])) hs [cShow, cShow] (by decide) (by
    show (s ++ [115, 104, 111, 119, 10, 115, 104, 111, 119, 10]).length ≤ 600
    rw [List.length_append]
    simp only [List.length_cons, List.length_nil]
    omega) exS_show2
theorem CompS.exec {l s : List UInt8} (h : CompS l s) (hl : l.length ≤ 600) : Go.Proofs.YtmgdcnibmifdeaaGreatDoor.exec s = Go.Proofs.YtmgdcnibmifdeaaGreatDoor.exec l := exec_cut h.2.1 (Nat.le_trans h.2.2 hl) hl
theorem exec_pos {s : List UInt8} (hl : s.length ≤ 600) : exec s ≠ [] := by
  rw [exe_plain hl]
  simp

end Go.Proofs.YtmgdcnibmifdeaaGreatDoor

