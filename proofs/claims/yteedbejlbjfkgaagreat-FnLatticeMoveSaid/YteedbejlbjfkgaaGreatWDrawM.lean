/- Contract of the draw of a vector and a permutation. -/
import Derived.Test.YteedbejlbjfkgaaGreatWDrawX
import Derived.Test.YteedbejlbjfkgaaGreatWDrawP
set_option linter.unusedVariables false
namespace Go.Proofs.YteedbejlbjfkgaaGreat
open Go.RowKit Res

theorem DrawLatticeMove_any (a : Option Addr) (cap : Nat) (l : List Int) (w : World) (hc : Code w a l cap) :
    Calls Tryz.prog 4 #[.slice a l.length cap] w fun e w' => ∃ v m v2 m2, e = .returned (.tuple #[v, v2]) ∧ Owns w.heap.size w' v m ∧ m.length ≤ 24 ∧ Owns w.heap.size w' v2 m2 ∧ m2.length ≤ 24 ∧ Below w.heap.size w w' := by
  go_enter Tryz.func4, Tryz.ntmps4
  go_wp2_with fail
  refine (l6Open_any _ _ l _ hc.1 hc.2.1 hc.2.2.1 hc.2.2.2).mono ?_
  rintro e w1 ⟨rfl, hR1, hb1, hz1⟩
  have hrl := hR1.lt
  clear hz1
  go_wp2_with fail
  refine (l92Vector_any _ _ _ hR1 (by omega)).mono ?_
  rintro e w2 ⟨v2, m, rfl, hO2, hl2, hR2, hg2⟩
  go_wp2_with fail
  refine (l92Perm_any _ _ _ hR2 (by omega)).mono ?_
  rintro e w3 ⟨v3, m3, rfl, hO3, hl3, hR3, hg3⟩
  go_wp2_with fail
  refine bodyPost_ret (v := .tuple #[v2, v3]) (by simp [results, Tryz.results4, go_sem]) rfl ?_
  exact ⟨_, m, _, m3, rfl, (hO2.read hg3 hrl).mono hb1.size, hl2, hO3.mono (Nat.le_trans hb1.size hg2.size), hl3, drawn_vec hb1 (Nat.le_refl _) (grown_trans hg2 hg3)⟩

end Go.Proofs.YteedbejlbjfkgaaGreat
