/- Plain laws: vectors moved by a permutation: moved back, shapes, the lattice. -/
import Derived.Test.YteedbejlbjfkgaaGreatWMv
import Derived.Test.YteedbejlbjfkgaaGreatWKp
import Derived.Test.YteedbejlbjfkgaaGreatLatW
import Derived.Test.YteedbejlbjfkgaaGreatWShape
set_option linter.unusedVariables false
namespace Go.Proofs.YteedbejlbjfkgaaGreat
open Res

theorem mvTo_get {p : List Int} (h : okTo p 24) (l : List Int) (k : Nat) (hk : k ≤ 24) (i : Nat) (hi : i < k) : (mvTo l p k).getD (goes p i) 0 = l.getD i 0 := by
  induction k with
  | zero => omega
  | succ k ih =>
    have hl := mvTo_length l p k
    have hg := goes_lt h (show i < 24 by omega)
    show ((mvTo l p k).set (goes p k) (l.getD k 0)).getD (goes p i) 0 = _
    simp only [List.getD, List.getElem?_set]
    by_cases e : goes p k = goes p i
    · have := goes_inj h (show k < 24 by omega) (show i < 24 by omega) e
      subst this
      simp [hl, hg]
    · rw [if_neg e]
      have hik : i ≠ k := fun e' => e (by rw [e'])
      exact ih (by omega) (by omega)
theorem moveV_get {p : List Int} (h : okTo p 24) (l : List Int) {i : Nat} (hi : i < 24) : (moveV l p).getD (goes p i) 0 = l.getD i 0 := mvTo_get h l 24 (Nat.le_refl _) i hi
theorem moveV_length (l p : List Int) : (moveV l p).length = 24 := mvTo_length l p 24
/-- Moved back. -/
theorem moveV_back {p : List Int} (hl : p.length = 24) (h : okTo p 24) {l : List Int} (hm : l.length = 24) : moveV (moveV l p) (tnL p) = l := by
  refine ext24 (moveV_length _ _) hm fun i hi => ?_
  have h1 := moveV_get (tnL_ok hl h) (moveV l p) (goes_lt h hi)
  rw [tnL_goes h hi, moveV_get h l hi] at h1
  exact h1
theorem moveV_at {p : List Int} (hl : p.length = 24) (h : okTo p 24) (l : List Int) {j : Nat} (hj : j < 24) : (moveV l p).getD j 0 = l.getD (goes (tnL p) j) 0 := by
  have h1 := moveV_get h l (goes_lt (tnL_ok hl h) hj)
  rw [goes_tnL hl h hj] at h1
  exact h1
/-- The places in another order. -/
theorem goes_perm {q : List Int} (hl : q.length = 24) (h : okTo q 24) : ((List.range 24).map (goes q)).Perm (List.range 24) := by
  have hn : ((List.range 24).map (goes q)).Nodup := by
    unfold List.Nodup
    rw [List.pairwise_map]
    refine List.Pairwise.imp_of_mem (R := fun a b => a < b) ?_ List.pairwise_lt_range
    intro a b ha hb hab e
    have := goes_inj h (List.mem_range.1 ha) (List.mem_range.1 hb) e
    omega
  refine (List.perm_ext_iff_of_nodup hn List.nodup_range).2 fun a => ?_
  rw [List.mem_map, List.mem_range]
  constructor
  · rintro ⟨i, hi, rfl⟩
    exact goes_lt h (List.mem_range.1 hi)
  · intro ha
    obtain ⟨i, hi, e⟩ := goes_onto hl h ha
    exact ⟨i, List.mem_range.2 hi, e⟩
theorem map_move {α : Type} {p : List Int} (hl : p.length = 24) (h : okTo p 24) (l : List Int) (f : Int → α) :
    ((List.range 24).map fun j => f ((moveV l p).getD j 0)).Perm ((List.range 24).map fun j => f (l.getD j 0)) := by
  have e : ((List.range 24).map fun j => f ((moveV l p).getD j 0)) = ((List.range 24).map (goes (tnL p))).map fun j => f (l.getD j 0) := by
    rw [List.map_map]
    refine List.map_congr_left fun j hj => ?_
    show f ((moveV l p).getD j 0) = f (l.getD (goes (tnL p) j) 0)
    rw [moveV_at hl h l (List.mem_range.1 hj)]
  rw [e]
  exact (goes_perm (tnTo_length p 24) (tnL_ok hl h)).map _
/-- The same shape. -/
theorem shape_move {p : List Int} (hl : p.length = 24) (h : okTo p 24) (l : List Int) : shapeV (moveV l p) = shapeV l := by
  unfold shapeV
  exact srt_of_perm (map_move hl h l fun x => (((x.natAbs : Nat)) : Int))
def sumA : List Int → Int
  | [] => 0
  | x :: l => x + sumA l
theorem sumA_append (l m : List Int) : sumA (l ++ m) = sumA l + sumA m := by
  induction l with
  | nil => simp [sumA]
  | cons x l ih => simp only [List.cons_append, sumA, ih]; omega
theorem sumA_perm {l m : List Int} (h : l.Perm m) : sumA l = sumA m := by
  induction h with
  | nil => rfl
  | cons x h ih => simp only [sumA, ih]
  | swap x y l => simp only [sumA]; omega
  | trans h1 h2 ih1 ih2 => exact ih1.trans ih2
theorem sumTo_map (l : List Int) (k : Nat) : sumTo l k = sumA ((List.range k).map fun j => l.getD j 0) := by
  induction k with
  | zero => rfl
  | succ k ih =>
    rw [List.range_succ, List.map_append, sumA_append, ← ih]
    simp [sumTo, sumA]
theorem sum_move {p : List Int} (hl : p.length = 24) (h : okTo p 24) (l : List Int) : sumTo (moveV l p) 24 = sumTo l 24 := by
  rw [sumTo_map, sumTo_map]
  have h1 := map_move (α := Int) hl h l (fun x => x)
  exact sumA_perm h1
theorem aw_move {p : List Int} (hl : p.length = 24) (h : okTo p 24) (l : List Int) : aw (moveV l p) = mvW p (aw l) := by
  apply word_ext (aw_lt _) (mvW_lt h _)
  intro j hj
  obtain ⟨i, hi, rfl⟩ := goes_onto hl h hj
  rw [mvW_goes h _ hi, aw_bit _ _ hj, aw_bit _ _ hi, moveV_get h l hi]
theorem latP_move {p : List Int} (hk : keepB p = true) {l : List Int} (hlat : LatP l) : LatP (moveV l p) := by
  obtain ⟨hl, h⟩ := permOk_ok (keep_perm hk)
  obtain ⟨h1, h2, h3⟩ := hlat
  have hpar : ∀ j, j < 24 → (moveV l p).getD j 0 % 2 = l.getD 0 0 % 2 := fun j hj => by
    rw [moveV_at hl h l hj]
    exact h1 _ (goes_lt (tnL_ok hl h) hj)
  refine ⟨fun i hi => by rw [hpar i hi, hpar 0 (by omega)], ?_, ?_⟩
  · rw [aw_move hl h, keep_iff hk (aw_lt l)]
    exact h2
  · rw [sum_move hl h, hpar 0 (by omega)]
    exact h3
theorem vec_move {p : List Int} (hl : p.length = 24) (h : okTo p 24) {l : List Int} (hv : vecOk l = true) : vecOk (moveV l p) = true := by
  refine vecOk_of (moveV_length _ _) fun j hj => ?_
  rw [moveV_at hl h l hj]
  exact vecOk_get hv _
/-- Permutations that keep the code keep the lattice. -/
theorem lat_move {p : List Int} (hk : keepB p = true) {l : List Int} (hv : vecOk l = true) : latOk (moveV l p) = latOk l := by
  have hp := keep_perm hk
  obtain ⟨hl, h⟩ := permOk_ok hp
  have hm := vec_move hl h hv
  rw [Bool.eq_iff_iff]
  constructor
  · intro h1
    have h2 := latP_move (by rw [keep_turned hp]; exact hk) (latP_of h1)
    rw [moveV_back hl h (vecOk_length' hv)] at h2
    exact latOk_of hv h2
  · intro h1
    exact latOk_of hm (latP_move hk (latP_of h1))

end Go.Proofs.YteedbejlbjfkgaaGreat
