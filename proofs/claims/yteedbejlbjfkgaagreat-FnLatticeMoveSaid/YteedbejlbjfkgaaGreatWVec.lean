/- Contracts of VectorValid. -/
import Derived.Test.YteedbejlbjfkgaaGreatWIn
import Derived.Test.YteedbejlbjfkgaaGreatRd
set_option linter.unusedVariables false
namespace Go.Proofs.YteedbejlbjfkgaaGreat
open Go.RowKit Res

/-- Is a list a vector? -/
def vecOk (l : List Int) : Bool := l.all (fun n => inB n (-100000) 100000) && l.length == 24

theorem vecOk_len {l : List Int} (h : (l.take l.length).all (fun n => inB n (-100000) 100000) = true) : vecOk l = ((l.length : Int) == 24) := by
  rw [List.take_length] at h
  have e : (l.length == 24) = ((l.length : Int) == 24) := by
    rw [Bool.eq_iff_iff]; simp; omega
  rw [vecOk, h, Bool.true_and, e]

theorem vecOk_bad {l : List Int} {k : Nat} (hk : k < l.length) (h : (!inB l[k] (-100000) 100000) = true) : vecOk l = false := by
  have : l.all (fun n => inB n (-100000) 100000) = false := by
    rw [List.all_eq_false]
    exact ⟨l[k], List.getElem_mem hk, by simpa using h⟩
  rw [vecOk, this, Bool.false_and]

theorem vec_step {l : List Int} {k : Nat} (hk : k < l.length) (h : (!inB l[k] (-100000) 100000) = false) (hn : (l.take k).all (fun n => inB n (-100000) 100000) = true) :
    (l.take (k + 1)).all (fun n => inB n (-100000) 100000) = true := by
  rw [List.take_succ_eq_append_getElem hk, List.all_append, hn]
  simpa using h

theorem implVectorValid_any (a : Option Addr) (cap : Nat) (l : List Int) (w : World) (hl : l.length ≤ 9223372036854775807) (hr : Reads .i64 w a l) :
    Calls Tryz.prog 15 #[.slice a l.length cap] w fun e w' => e = .returned (.bool (vecOk l)) ∧ w = w' := by
  go_enter Tryz.func15, Tryz.ntmps15
  go_wp2
  go_loop [7] (fun x => ∃ k : Nat, k ≤ l.length ∧ x = .int .i64 (k : Int) ∧ (l.take k).all (fun n => inB n (-100000) 100000) = true)
    (fun x => (l.length - (intOf x).toNat))
  case atStart => exact ⟨0, by omega, rfl, rfl⟩
  case round =>
    obtain ⟨k, hk, rfl, hn⟩ := hrel
    by_cases hlt : k < l.length
    · obtain ⟨b, off, ha, hb, hc⟩ := hr k hlt
      subst ha
      go_wp2_with (go_at_call 35; refine (within_any _ _ _ _).mono ?_; rintro e w' ⟨rfl, rfl⟩)
      · have h : (!inB l[k] (-100000) 100000) = true := by assumption
        go_ret
        exact ⟨ret_bool (vecOk_bad hlt h).symm, rfl⟩
      · have h : (!inB l[k] (-100000) 100000) = false := by assumption
        go_round
        case rel => exact ⟨k + 1, by omega, by go_num, vec_step hlt h hn⟩
        case measure => simp [intOf]; omega
    · go_wp2
      go_ret
      obtain rfl : k = l.length := by omega
      exact ⟨ret_bool (vecOk_len hn).symm, rfl⟩

theorem specVectorValid_any (a : Option Addr) (cap : Nat) (l : List Int) (w : World) (hl : l.length ≤ 9223372036854775807) (hr : Reads .i64 w a l) :
    Calls Tryz.prog 17 #[.slice a l.length cap] w fun e w' => e = .returned (.bool (vecOk l)) ∧ w = w' := by
  go_enter Tryz.func17, Tryz.ntmps17
  go_wp2
  go_loop [3] (fun x => ∃ k : Nat, k ≤ l.length ∧ x = .int .i64 (k : Int) ∧ (l.take k).all (fun n => inB n (-100000) 100000) = true)
    (fun x => (l.length - (intOf x).toNat))
  case atStart => exact ⟨0, by omega, rfl, rfl⟩
  case round =>
    obtain ⟨k, hk, rfl, hn⟩ := hrel
    by_cases hlt : k < l.length
    · obtain ⟨b, off, ha, hb, hc⟩ := hr k hlt
      subst ha
      go_wp2_with (go_at_call 37; refine (l6In_any _ _ _ _).mono ?_; rintro e w' ⟨rfl, rfl⟩)
      · have h : (!inB l[k] (-100000) 100000) = true := by assumption
        go_ret
        exact ⟨ret_bool (vecOk_bad hlt h).symm, rfl⟩
      · have h : (!inB l[k] (-100000) 100000) = false := by assumption
        go_round
        case rel => exact ⟨k + 1, by omega, by go_num, vec_step hlt h hn⟩
        case measure => simp [intOf]; omega
    · go_wp2
      go_ret
      obtain rfl : k = l.length := by omega
      exact ⟨ret_bool (vecOk_len hn).symm, rfl⟩

end Go.Proofs.YteedbejlbjfkgaaGreat
