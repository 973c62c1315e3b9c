/- Plain laws: words of the code as sums of words of a basis; checks at all 4096. -/
import Derived.Test.YtmgdcnibmifdeaaGreatDoorCd
import Derived.Test.YtmgdcnibmifdeaaGreatDoorPr
set_option linter.unusedVariables false
namespace Go.Proofs.YtmgdcnibmifdeaaGreatDoor.Res

/-- Words of a basis. -/
def cdBase : List Nat := [10928140, 7118858, 6996160, 13017248, 13421568, 11184640, 15658721, 255, 3855, 61455, 983055, 15728655]
/-- Sums of words of the basis. -/
def enTo (m : Nat) : Nat → Nat
  | 0 => 0
  | k + 1 => if m.testBit k then enTo m k ^^^ cdBase.getD k 0 else enTo m k
def en (m : Nat) : Nat := enTo m 12
theorem enTo_hit {m k : Nat} (h : m.testBit k = true) : enTo m (k + 1) = enTo m k ^^^ cdBase.getD k 0 := by simp [enTo, h]
theorem enTo_miss {m k : Nat} (h : m.testBit k = false) : enTo m (k + 1) = enTo m k := by simp [enTo, h]
theorem enTo_xor (x y k : Nat) : enTo (x ^^^ y) k = enTo x k ^^^ enTo y k := by
  induction k with
  | zero => simp [enTo]
  | succ k ih =>
    have h : (x ^^^ y).testBit k = (x.testBit k ^^ y.testBit k) := Nat.testBit_xor x y k
    cases hx : x.testBit k <;> cases hy : y.testBit k <;> rw [hx, hy] at h
    · rw [enTo_miss h, enTo_miss hx, enTo_miss hy, ih]
    · rw [enTo_hit h, enTo_miss hx, enTo_hit hy, ih, Nat.xor_assoc]
    · rw [enTo_hit h, enTo_hit hx, enTo_miss hy, ih, Nat.xor_assoc, Nat.xor_comm (enTo y k), Nat.xor_assoc]
    · have e : enTo x k ^^^ cdBase.getD k 0 ^^^ (enTo y k ^^^ cdBase.getD k 0) = enTo x k ^^^ enTo y k := by
        rw [Nat.xor_comm (enTo y k), Nat.xor_assoc, ← Nat.xor_assoc (cdBase.getD k 0), Nat.xor_self, Nat.zero_xor]
      rw [enTo_miss h, enTo_hit hx, enTo_hit hy, ih, e]
theorem en_xor (x y : Nat) : en (x ^^^ y) = en x ^^^ en y := enTo_xor x y 12

set_option maxRecDepth 100000 in
theorem en_code : allB (fun m => Nat.beq (code m) (en m)) 12 0 = true := by decide +kernel
def cwOk (n : Nat) : Bool := Nat.beq n 0 || Nat.beq n 8 || Nat.beq n 12 || Nat.beq n 16 || Nat.beq n 24
set_option maxRecDepth 100000 in
theorem en_wt : allB (fun m => cwOk (wt (en m))) 12 0 = true := by decide +kernel
theorem base_dual : ∀ i, i < 12 → ∀ j, j < 12 → pr (cdBase.getD i 0) (cdBase.getD j 0) = 0 := by decide +kernel

end Go.Proofs.YtmgdcnibmifdeaaGreatDoor.Res
