/- Contracts of the program's numbers and listText, of become. -/
import Derived.Test.YtmgdcnibmifdeaaGreatDoorWLib
import Derived.Test.YtmgdcnibmifdeaaGreatDoorSpl
import Derived.Test.YtmgdcnibmifdeaaGreatDoorWIn
import Derived.Test.YtmgdcnibmifdeaaGreatDoorMk
set_option linter.unusedVariables false
namespace Go.Proofs.YtmgdcnibmifdeaaGreatDoor
open Go.RowKit Res

/-- A string of the model, by its bytes. -/
def str (l : List UInt8) : ByteArray := ⟨l.toArray⟩
theorem str_data (l : List UInt8) : (str l).data.toList = l := rfl
theorem str_size (l : List UInt8) : (str l).size = l.length := by simp [str, ByteArray.size]
theorem data_str (s : ByteArray) : str s.data.toList = s := rfl
theorem str_toList (l : List UInt8) : (ByteArray.mk l.toArray).toList = l := Go.Lib.toList_data _
theorem str_eq {l m : List UInt8} : str l = str m ↔ l = m := by
  constructor
  · intro h
    have := congrArg (fun s : ByteArray => s.data.toList) h
    exact this
  · intro h; rw [h]

theorem strs_cell (w : World) (l : List ByteArray) (t : TypeId) (j : Nat) (x : ByteArray) (h : l[j]? = some x) :
    (w.alloc (.cells (l.map Value.string).toArray t)).cell? ⟨w.heap.size, j, none⟩ = some (.string x) := by
  rw [cell_of_row _ w.heap.size j _ _ _ (heap_alloc_new w _), List.getElem?_toArray, List.getElem?_map, h]
  rfl

/-- What numbers answers. -/
def numbersB (s : List UInt8) (want : Int) : Bool := match nums s with
  | some l => decide ((l.length : Int) = want)
  | none => false
def numbersL (s : List UInt8) : List Int := match nums s with
  | some l => ints l
  | none => []

theorem pieces_len (s : ByteArray) (c : UInt8) : (piecesB s ⟨#[c]⟩).length = (spl c s.data.toList).length := by
  rw [← pieces_data, List.length_map]
  rfl
theorem pieces_get (s : ByteArray) (c : UInt8) (k : Nat) (hk : k < (piecesB s ⟨#[c]⟩).length) : (piecesB s ⟨#[c]⟩)[k].data.toList = (spl c s.data.toList).getD k [] := by
  have h := pieces_data s c
  have h2 : ((piecesB s ⟨#[c]⟩).map (·.data.toList))[k]? = (spl c s.data.toList)[k]? := by rw [← h]; rfl
  rw [List.getElem?_map, List.getElem?_eq_getElem hk] at h2
  unfold List.getD
  rw [← h2]
  rfl
theorem spl_part (c : UInt8) (l : List UInt8) : ∀ p, p ∈ spl c l → p.length ≤ l.length := by
  induction l with
  | nil => intro p hp; simp [spl] at hp; rw [hp]; simp
  | cons b l ih =>
    intro p hp
    by_cases h : b = c
    · subst h
      rw [spl_hit] at hp
      rcases List.mem_cons.1 hp with e | e
      · rw [e]; simp
      · have := ih p e; simp; omega
    · cases hs : spl c l with
      | nil => exact absurd hs (spl_ne c l)
      | cons q qs =>
        rw [spl_cons h hs] at hp
        rcases List.mem_cons.1 hp with e | e
        · rw [e]
          have := ih q (by rw [hs]; simp)
          simp; omega
        · have := ih p (by rw [hs]; simp [e]); simp; omega

theorem numbers_any (s : ByteArray) (want : Int) (w : World) (hs : s.size ≤ 100000) (hG : Gl w) :
    Calls Tryz.prog 55 #[.string s, .int .i64 want] w fun e w' => ∃ v, e = .returned (.tuple #[v, .bool (numbersB s.data.toList want)]) ∧ Owns w.heap.size w' v (numbersL s.data.toList) ∧ Below w.heap.size w w' := by
  have CS := Lib.hid (Split_any s ⟨#[32]⟩ w (by omega) (by decide) hG)
  have HG := Lib.hid (fun k hk => pieces_get s 32 k hk)
  have hpl := pieces_len s 32
  have hsl := spl_length 32 s.data.toList
  have HPT := Lib.hid (fun p (hp : p ∈ spl 32 s.data.toList) => spl_part 32 s.data.toList p hp)
  have hss : s.data.toList.length = s.size := by rw [Array.length_toList]; rfl
  rw [hss] at hsl HPT
  have HB : Hid (∀ l, numsL (spl 32 s.data.toList) = some l → numbersB s.data.toList want = decide ((l.length : Int) = want) ∧ numbersL s.data.toList = ints l) := Lib.hid (fun l h => by
    unfold numbersB numbersL nums
    rw [h]
    exact ⟨rfl, rfl⟩)
  have HN : Hid (numsL (spl 32 s.data.toList) = none → numbersB s.data.toList want = false ∧ numbersL s.data.toList = []) := Lib.hid (fun h => by
    unfold numbersB numbersL nums
    rw [h]
    exact ⟨rfl, rfl⟩)
  generalize numbersB s.data.toList want = NB at *
  generalize numbersL s.data.toList = NL at *
  generalize spl 32 s.data.toList = F at *
  have HPc := Lib.hid (strs_cell w (piecesB s ⟨#[32]⟩) 9)
  have hb1 : Below w.heap.size w (w.alloc (.cells ((piecesB s ⟨#[32]⟩).map Value.string).toArray 9)) := (Below.refl _ _).alloc (Nat.le_refl _) _
  have hsz1 : (w.alloc (.cells ((piecesB s ⟨#[32]⟩).map Value.string).toArray 9)).heap.size = w.heap.size + 1 := by simp
  generalize piecesB s ⟨#[32]⟩ = PS at *
  generalize w.alloc (.cells (PS.map Value.string).toArray 9) = w1 at *
  have HSZ := Lib.hid hsz1
  have HS5 := Lib.hid hs
  have HLN : Hid (F.length ≤ 1000000) := Lib.hid (by omega)
  clear hsz1 hss hs hsl
  go_enter Tryz.func55, Tryz.ntmps55
  go_wp2_with fail
  refine CS.out.mono ?_
  rintro e w1 ⟨rfl, rfl⟩
  have hO0 := (Owns.empty (B := w.heap.size + 1) w1 (by rw [HSZ.out]; exact Nat.le_refl _))
  have hb2 := hb1.alloc hb1.size (.cells #[] 3)
  go_wp2_with fail
  go_loopw [7, 17] (fun v x wr => ∃ k : Nat, k ≤ PS.length ∧ x = .int .i64 (k : Int) ∧ (∃ l, Hid (numsL (F.take k) = some l) ∧ l.length = k ∧ Owns (w.heap.size + 1) wr v (ints l)) ∧ Below (w.heap.size + 1) w1 wr)
    (fun _ x _ => (PS.length - (intOf x).toNat))
  case atStart => exact ⟨0, by omega, rfl, ⟨[], Lib.hid rfl, rfl, hO0⟩, (Below.refl _ _).alloc (by rw [HSZ.out]; exact Nat.le_refl _) _⟩
  case round =>
    obtain ⟨k, hk, rfl, ⟨l, HL, hlk, hO⟩, hbel⟩ := hrel
    have hsz := hbel.size
    have hszr : w.heap.size + 1 ≤ wr.heap.size := by have := HSZ.out; omega
    have hbw := hb1.trans (hbel.mono (show w.heap.size ≤ w.heap.size + 1 by omega))
    by_cases hlt : k < PS.length
    · have hki : (k : Int) < (PS.length : Int) := by omega
      have hkb : (k : Int) < 1000001 := by have := HLN.out; omega
      have hc := HPc.out k PS[k] (List.getElem?_eq_getElem hlt)
      have hc : wr.cell? ⟨w.heap.size, k, none⟩ = some (.string PS[k]) := by rw [hbel.cell (p := ⟨w.heap.size, k, none⟩) (by show w.heap.size < _; omega)]; exact hc
      have hkF : k < F.length := by omega
      have hf := HG.out k hlt
      have hgd : F.getD k [] = F[k] := by simp [List.getD, hkF]
      have hfs := HPT.out (F.getD k []) (by rw [hgd]; exact List.getElem_mem hkF)
      have HT : Hid (numsL (F.take (k + 1)) = match numsL (F.take k), numF (F.getD k []) with | some l, some n => some (l ++ [n]) | _, _ => none) := Lib.hid (by rw [List.take_succ_eq_append_getElem hkF, numsL_snoc, hgd]; rfl)
      have HNF : Hid (numF (F.getD k []) = none → numsL F = none) := Lib.hid (fun h => numsL_none (by rw [hgd]; exact List.getElem_mem hkF) h)
      clear hgd
      rw [HL.out] at HT
      have hfsz : PS[k].size = (F.getD k []).length := by rw [← hf, Array.length_toList]; rfl
      have HFd : Hid (PS[k].data.toList = F.getD k []) := Lib.hid hf
      clear hf
      generalize PS[k] = f at *
      generalize F.getD k [] = fl at *
      have CI := Lib.hid (fun w => within_any (fl.length : Int) 1 8 w)
      cases hin : inB (fl.length : Int) 1 8
      · have hno : numF fl = none := by
          unfold numF
          rw [if_neg]
          rintro ⟨⟨h1, h2⟩, -⟩
          rw [inB_true (by omega) (by omega)] at hin
          cases hin
        obtain ⟨q1, q2⟩ := HN.out (HNF.out hno)
        rw [hin] at CI
        clear hno hin HNF HT
        go_wp2_with fail
        refine (CI.out _).mono ?_
        rintro e w' ⟨rfl, rfl⟩
        go_wp2_with fail
        go_ret2
        exact ⟨_, by rw [q1]; rfl, by rw [q2]; exact Owns.nil _ _, hbw⟩
      · obtain ⟨i1, i2⟩ := inB_iff.1 hin
        rw [hin] at CI
        have CT := Lib.hid (fun w => Trim_any f ⟨#[48, 49, 50, 51, 52, 53, 54, 55, 56, 57]⟩ w (by have := HS5.out; omega) (by decide) (ascii_of_all (by decide)))
        have ht : (Go.Lib.trimS f.data.toList digs = [] ↔ fl.all isD = true) := by
          rw [trim_nil, HFd.out]
          have : (fun b => digs.contains b) = isD := funext digs_mem
          rw [this]
        have hdg : (ByteArray.mk #[48, 49, 50, 51, 52, 53, 54, 55, 56, 57]).data.toList = digs := rfl
        rw [hdg] at CT
        clear hdg
        cases hall : fl.all isD
        · have hne : ¬ Go.Lib.trimS f.data.toList digs = [] := fun e => by rw [ht.1 e] at hall; cases hall
          have hno : numF fl = none := by
            unfold numF
            rw [if_neg]
            rintro ⟨-, h2⟩
            rw [hall] at h2
            cases h2
          obtain ⟨q1, q2⟩ := HN.out (HNF.out hno)
          have hbne : (Go.Lib.trimS f.data.toList digs).isEmpty = false := by
            rw [Bool.eq_false_iff]
            exact fun e => hne (List.isEmpty_iff.1 e)
          generalize Go.Lib.trimS f.data.toList digs = T at *
          clear hno hin HNF HT ht hne hall
          go_wp2_with fail
          refine (CI.out _).mono ?_
          rintro e w' ⟨rfl, rfl⟩
          go_wp2_with fail
          refine (CT.out _).mono ?_
          rintro e w3 ⟨rfl, hs3⟩
          go_wp2_with fail
          go_ret2
          exact ⟨_, by rw [q1]; rfl, by rw [q2]; exact Owns.nil _ _, hbw.trans (hs3.mono hbw.size)⟩
        · have he := ht.2 hall
          rw [he] at CT
          have hyes : numF fl = some (numV fl) := by
            unfold numF
            rw [if_pos ⟨⟨by omega, by omega⟩, hall⟩]
          rw [hyes] at HT
          have CA := Lib.hid (fun w => Atoi_any f ((numV fl : Nat) : Int) (by omega) (by rw [HFd.out]; exact atoi_num (by omega) hall) w)
          generalize numV fl = y at *
          clear hin HNF ht he hall hyes
          go_wp2_with fail
          refine (CI.out _).mono ?_
          rintro e w' ⟨rfl, rfl⟩
          go_wp2_with fail
          refine (CT.out _).mono ?_
          rintro e w3 ⟨rfl, hs3⟩
          have hb3 := hbel.trans (hs3.mono hszr)
          have hO3 := hO.kept hs3
          go_wp2_with fail
          refine (CA.out _).mono ?_
          rintro e w4 ⟨rfl, hs4⟩
          have hO4 := hO3.kept hs4
          have hs3z := hs3.size
          have hb4 := hb3.trans (hs4.mono (by omega))
          have hs4z := hs4.size
          have hil := ints_length l
          go_wp2_with (first | (at_builtin; refine wpList_app rfl _ _ rfl (w.heap.size + 1) _ rfl hO4 rfl (by have := HLN.out; omega) (by omega) ?_; intro v' w5 hO' hbel' hg'))
          go_roundw
          case rel => exact ⟨k + 1, by omega, by go_num, ⟨l ++ [y], Lib.hid HT.out, by simp; omega, by rw [ints_append]; exact hO'⟩, hb4.trans hbel'⟩
          case measure => simp [intOf]; omega
    · have hkl : k = PS.length := by omega
      have HQ : Hid (numsL F = some l) := Lib.hid (by
        have h1 := HL.out
        rw [List.take_of_length_le (by omega)] at h1
        exact h1)
      obtain ⟨q1, q2⟩ := HB.out l HQ.out
      obtain ⟨a9, c9, rfl, hR9, hl9, hc9⟩ := hO.shape
      have hil := ints_length l
      have hkS : (PS.length : Int) ≤ (k : Int) := by omega
      have hw : decide ((l.length : Int) = want) = ((F.length : Int) == want) := by
        rw [Bool.eq_iff_iff, decide_eq_true_eq, beq_iff_eq, show l.length = F.length by omega]
      rw [hw] at q1
      rw [← q2] at hO hR9 hl9 hil ⊢
      clear HL HQ HB HN HG HPc hk hlt hw q2
      go_wp2_with fail
      go_ret2
      exact ⟨_, by rw [q1]; rfl, hO.mono (by omega), hbw⟩

end Go.Proofs.YtmgdcnibmifdeaaGreatDoor
