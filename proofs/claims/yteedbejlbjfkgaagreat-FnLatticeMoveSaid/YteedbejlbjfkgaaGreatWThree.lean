/- Contracts of LatticeThree. -/
import Derived.Test.YteedbejlbjfkgaaGreatWFlip
import Derived.Test.YteedbejlbjfkgaaGreatWCode
set_option linter.unusedVariables false
namespace Go.Proofs.YteedbejlbjfkgaaGreat
open Go.RowKit Res

/-- Ones, and a place with -3. -/
def onesBut (p : Nat) : List Int := (List.replicate 24 1).set p (-3)
def threeL (n p : Nat) : List Int := flipV (onesBut p) n
theorem onesBut_length (p : Nat) : (onesBut p).length = 24 := by simp [onesBut]
theorem onesBut_bd (p i : Nat) : -100000 ≤ (onesBut p).getD i 0 ∧ (onesBut p).getD i 0 ≤ 100000 := by
  unfold onesBut
  by_cases hi : i < 24
  · by_cases hp : p = i
    · subst hp
      simp [List.getD, hi]
    · have e : ((List.replicate 24 (1 : Int)).set p (-3)).getD i 0 = 1 := by
        rw [List.getD_eq_getElem?_getD, List.getElem?_set_ne hp, List.getElem?_replicate, if_pos hi]
        rfl
      rw [e]
      omega
  · simp [List.getD, hi]
/-- The first k ones. -/
def onesTo (k : Nat) : List Int := List.replicate k 1 ++ List.replicate (24 - k) 0
theorem onesTo_length {k : Nat} (hk : k ≤ 24) : (onesTo k).length = 24 := by simp [onesTo]; omega
theorem onesTo_set {k : Nat} (hk : k < 24) : (onesTo k).set k 1 = onesTo (k + 1) := by
  unfold onesTo
  rw [List.set_append_right _ _ (by simp), List.length_replicate, Nat.sub_self, show 24 - k = (24 - (k + 1)) + 1 by omega, List.replicate_succ, List.set_cons_zero, List.replicate_succ', List.append_assoc]
  rfl
def threeOk (n p : Int) : Bool := (inB n 0 16777215 && codeB n.toNat) && inB p 0 23

theorem specLatticeThree_no (n p : Int) (w : World) (h : threeOk n p = false) :
    Calls Tryz.prog 27 #[.int .i64 n, .int .i64 p] w fun e w' => ∃ v, e = .returned (.tuple #[v, .bool false]) ∧ Owns w.heap.size w' v [] ∧ Below w.heap.size w w' := by
  unfold threeOk at h
  cases h1 : inB n 0 16777215
  · go_enter Tryz.func27, Tryz.ntmps27
    go_wp2_with fail
    refine (specCodeIn_no _ _ h1).mono ?_
    rintro e w' ⟨rfl, rfl⟩
    go_wp2_with fail
    go_ret2
    exact ⟨_, rfl, Owns.empty w (Nat.le_refl _), (Below.refl _ _).alloc (Nat.le_refl _) _⟩
  · obtain ⟨n0, n1⟩ := inB_iff.1 h1
    rw [h1, Bool.true_and] at h
    have hb0 := Below.refl w.heap.size w
    go_enter Tryz.func27, Tryz.ntmps27
    go_wp2_with fail
    refine (specCodeIn_ok _ _ n0 n1).mono ?_
    rintro e w1 ⟨rfl, hs1⟩
    have hb1 := hb0.trans (hs1.mono hb0.size)
    have hsz := hb1.size
    cases h2 : codeB n.toNat
    · go_wp2_with fail
      go_ret2
      exact ⟨_, rfl, Owns.empty w1 (by omega), hb1.alloc (by omega) _⟩
    · rw [h2, Bool.true_and] at h
      go_wp2_with fail
      refine (l6In_any _ _ _ _).mono ?_
      rintro e w' ⟨rfl, rfl⟩
      go_wp2_with fail
      go_ret2
      exact ⟨_, rfl, Owns.empty w1 (by omega), hb1.alloc (by omega) _⟩

theorem specLatticeThree_ok (n p : Int) (w : World) (h : threeOk n p = true) :
    Calls Tryz.prog 27 #[.int .i64 n, .int .i64 p] w fun e w' => ∃ v, e = .returned (.tuple #[v, .bool true]) ∧ Owns w.heap.size w' v (threeL n.toNat p.toNat) ∧ Below w.heap.size w w' := by
  unfold threeOk at h
  rw [Bool.and_eq_true, Bool.and_eq_true] at h
  obtain ⟨⟨h1, h2⟩, h3⟩ := h
  obtain ⟨n0, n1⟩ := inB_iff.1 h1
  obtain ⟨p0, p1⟩ := inB_iff.1 h3
  obtain ⟨p, rfl⟩ := Int.eq_ofNat_of_zero_le p0
  rw [Int.toNat_natCast]
  have hb0 := Below.refl w.heap.size w
  go_enter Tryz.func27, Tryz.ntmps27
  go_wp2_with fail
  refine (specCodeIn_ok _ _ n0 n1).mono ?_
  rintro e w1 ⟨rfl, hs1⟩
  have hb1 := hb0.trans (hs1.mono hb0.size)
  rw [h2]
  have hsz := hb1.size
  go_wp2_with fail
  refine (l6In_any _ _ _ _).mono ?_
  rintro e w' ⟨rfl, rfl⟩
  go_wp2_with fail
  go_loopw [6, 7] (fun v x wr => ∃ k : Nat, k ≤ 24 ∧ x = .int .i64 (k : Int) ∧ Owns w1.heap.size wr v (List.replicate k 1) ∧ Below w1.heap.size w1 wr)
    (fun _ x _ => (24 - (intOf x).toNat))
  case atStart => exact ⟨0, by omega, rfl, Owns.empty w1 (Nat.le_refl _), (Below.refl _ _).alloc (Nat.le_refl _) _⟩
  case round =>
    obtain ⟨k, hk, rfl, hO, hbel⟩ := hrel
    have hlen : (List.replicate k (1 : Int)).length ≤ 24 := by simp; omega
    have hsz2 := hbel.size
    by_cases hlt : k < 24
    · have hki : (k : Int) < 24 := by omega
      go_wp2_with (at_builtin; refine wpList_app rfl _ _ rfl w1.heap.size _ rfl hO rfl (by omega) (by omega) ?_; intro v' w3 hO' hbel' hg')
      go_roundw
      case rel => exact ⟨k + 1, by omega, by go_num, by rw [List.replicate_succ']; exact hO', hbel.trans hbel'⟩
      case measure => simp [intOf]; omega
    · have K : k = 24 := by omega
      have hge : (24 : Int) ≤ (k : Int) := by omega
      rw [K] at hO
      obtain ⟨g, cg, rfl, hg0, hg1, hlc, hcm, -, -⟩ := hO.head (by simp)
      rw [List.length_replicate] at hO
      obtain ⟨hcp, hfp⟩ := hO.at p (by simp; omega)
      have hO5 := (hO.store p (-3)).1
      have hb5 := hbel.setCell (p := ⟨g, p, none⟩) hg0 (.int .i64 (-3))
      have HO := Lib.hid hO5
      have hb6 := hb1.trans (hb5.mono hsz)
      rw [List.length_replicate]
      clear K hO hO5 hlen hlc
      go_wp2_with fail
      refine (l9Flip_any _ _ (onesBut p) _ _ (onesBut_length p) (onesBut_bd p) HO.out.reads.1 n0 n1).mono ?_
      rintro e w3 ⟨v3, rfl, hO3, hs3⟩
      go_wp2_with fail
      go_ret2
      exact ⟨_, rfl, hO3.mono hb6.size, hb6.trans (hs3.mono hb6.size)⟩

end Go.Proofs.YteedbejlbjfkgaaGreat
