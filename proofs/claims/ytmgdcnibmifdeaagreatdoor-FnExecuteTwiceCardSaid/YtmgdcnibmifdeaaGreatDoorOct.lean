/- Plain model: the octads in ascending order; the octads through places. -/
import Derived.Test.YtmgdcnibmifdeaaGreatDoorCd
import Derived.Test.YtmgdcnibmifdeaaGreatDoorSrt
import Derived.Test.YtmgdcnibmifdeaaGreatDoorPm
set_option linter.unusedVariables false
namespace Go.Proofs.YtmgdcnibmifdeaaGreatDoor.Res

/-- The octads among the first k words of the code. -/
def ocsTo (k : Nat) : List Int := (List.range k).flatMap fun m => if wt (code m) = 8 then [((code m : Nat) : Int)] else []
theorem ocsTo_hit {k : Nat} (h : wt (code k) = 8) : ocsTo (k + 1) = ocsTo k ++ [((code k : Nat) : Int)] := by simp [ocsTo, List.range_succ, h]
theorem ocsTo_miss {k : Nat} (h : wt (code k) ≠ 8) : ocsTo (k + 1) = ocsTo k := by simp [ocsTo, List.range_succ, h]
theorem ocsTo_length (k : Nat) : (ocsTo k).length ≤ k := by
  induction k with
  | zero => simp [ocsTo]
  | succ k ih =>
    by_cases h : wt (code k) = 8
    · rw [ocsTo_hit h]; simp; exact ih
    · rw [ocsTo_miss h]; omega
theorem ocsTo_mem {k : Nat} {x : Int} (h : x ∈ ocsTo k) : ∃ m, m < k ∧ wt (code m) = 8 ∧ x = ((code m : Nat) : Int) := by
  induction k with
  | zero => simp [ocsTo] at h
  | succ k ih =>
    by_cases hw : wt (code k) = 8
    · rw [ocsTo_hit hw, List.mem_append] at h
      rcases h with h | h
      · obtain ⟨m, h1, h2⟩ := ih h
        exact ⟨m, by omega, h2⟩
      · exact ⟨k, by omega, hw, by simpa using h⟩
    · rw [ocsTo_miss hw] at h
      obtain ⟨m, h1, h2⟩ := ih h
      exact ⟨m, by omega, h2⟩
/-- All octads in ascending order. -/
def ocs : List Int := srt (ocsTo 4096)
theorem ocs_length : ocs.length ≤ 4096 := by unfold ocs; rw [srt_length]; exact ocsTo_length 4096
theorem ocs_get {i : Nat} (h : i < ocs.length) : 0 ≤ ocs.getD i 0 ∧ ocs.getD i 0 ≤ 16777215 := by
  have hm : ocs[i] ∈ ocsTo 4096 := (srt_perm (ocsTo 4096)).mem_iff.1 (List.getElem_mem h)
  obtain ⟨m, h1, -, h3⟩ := ocsTo_mem hm
  have := code_lt h1
  have e : ocs.getD i 0 = ocs[i] := by simp [List.getD, h]
  rw [e, h3]
  omega
/-- Those of the first k numbers of a list that have all places of a word. -/
def wiS (S : List Int) (w k : Nat) : List Int := (List.range k).flatMap fun i => if (S.getD i 0).toNat &&& w = w then [S.getD i 0] else []
theorem wiS_hit {S : List Int} {w k : Nat} (h : (S.getD k 0).toNat &&& w = w) : wiS S w (k + 1) = wiS S w k ++ [S.getD k 0] := by
  unfold wiS
  rw [List.range_succ, List.flatMap_append, List.flatMap_singleton, if_pos h]
theorem wiS_miss {S : List Int} {w k : Nat} (h : (S.getD k 0).toNat &&& w ≠ w) : wiS S w (k + 1) = wiS S w k := by
  unfold wiS
  rw [List.range_succ, List.flatMap_append, List.flatMap_singleton, if_neg h, List.append_nil]
theorem wiS_length (S : List Int) (w k : Nat) : (wiS S w k).length ≤ k := by
  induction k with
  | zero => simp [wiS]
  | succ k ih =>
    by_cases h : (S.getD k 0).toNat &&& w = w
    · rw [wiS_hit h]; simp; exact ih
    · rw [wiS_miss h]; omega
def wiTo (w k : Nat) : List Int := wiS ocs w k
def wi (w : Nat) : List Int := wiTo w ocs.length
theorem wiTo_hit {w k : Nat} (h : (ocs.getD k 0).toNat &&& w = w) : wiTo w (k + 1) = wiTo w k ++ [ocs.getD k 0] := wiS_hit h
theorem wiTo_miss {w k : Nat} (h : (ocs.getD k 0).toNat &&& w ≠ w) : wiTo w (k + 1) = wiTo w k := wiS_miss h
theorem wiTo_length (w k : Nat) : (wiTo w k).length ≤ k := wiS_length ocs w k

end Go.Proofs.YtmgdcnibmifdeaaGreatDoor.Res
