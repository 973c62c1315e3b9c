/- Contracts of OctadIn and of the reference's list of places. -/
import Derived.Test.YteedbejlbjfkgaaWCode
set_option linter.unusedVariables false
namespace Go.Proofs.Yteedbejlbjfkgaa
open Go.RowKit Res

/-- Is a number an octad? -/
def octB (n : Int) : Bool := (inB n 0 16777215 && codeB n.toNat) && wt n.toNat == 8

theorem implOctadIn_any (n : Int) (w : World) :
    Calls Try.prog 27 #[.int .i64 n] w fun e w' => e = .returned (.bool (octB n)) ∧ Below w.heap.size w w' := by
  have hb0 := Below.refl w.heap.size w
  unfold octB
  cases h1 : inB n 0 16777215
  · go_enter Try.func27, Try.ntmps27
    go_wp2_with fail
    refine (implCodeIn_no _ _ h1).mono ?_
    rintro e w' ⟨rfl, rfl⟩
    go_wp2_with fail
    go_ret
    exact ⟨rfl, hb0⟩
  · obtain ⟨n0, n1⟩ := inB_iff.1 h1
    cases h2 : codeB n.toNat
    · go_enter Try.func27, Try.ntmps27
      go_wp2_with fail
      refine (implCodeIn_ok _ _ n0 n1).mono ?_
      rintro e w1 ⟨rfl, hs1⟩
      have hb1 := hb0.trans (hs1.mono hb0.size)
      rw [h2]
      go_wp2_with fail
      go_ret
      exact ⟨rfl, hb1⟩
    · go_enter Try.func27, Try.ntmps27
      go_wp2_with fail
      refine (implCodeIn_ok _ _ n0 n1).mono ?_
      rintro e w1 ⟨rfl, hs1⟩
      have hb1 := hb0.trans (hs1.mono hb0.size)
      rw [h2]
      go_wp2_with fail
      refine (weight_any _ _ n0 n1).mono ?_
      rintro e w' ⟨rfl, rfl⟩
      go_wp2_with fail
      go_ret
      refine ⟨ret_bool ?_, hb1⟩
      rw [Bool.true_and, Bool.true_and, Bool.eq_iff_iff, beq_iff_eq, beq_iff_eq]
      omega

end Go.Proofs.Yteedbejlbjfkgaa
