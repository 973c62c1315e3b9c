/- Lists that are made of noughts, and cells of owned lists. -/
import Derived.Test.YtmgdcnibmifdeaaGreatDoorRd
import Derived.Deep.RegionLaw
import Derived.Maps.AppendAt
import Derived.Laws.AppendOwn
set_option linter.unusedVariables false
namespace Go.Proofs.YtmgdcnibmifdeaaGreatDoor
open Go.RowKit

/-- 'make([]int, n)'. -/
theorem wpList_mk {w : World} {ops : Array Oper} {rest : List Oper} {o : Oper} {a : Act} {Q : Exit → Act → World → Prop} (hgd : o.guard = none) (x y : Operand)
    (ho : o.op = .makeSlice 63 x y) (B n : Nat) {X Y : Int} (hx : a.eval x = .int .i64 X) (hy : a.eval y = .int .i64 Y) (hX : X = (n : Int)) (hY : Y = (n : Int)) (hn : n ≤ 1000000) (hB : B ≤ w.heap.size)
    (h : ∀ w', Owns B w' (.slice (some ⟨w.heap.size, 0, none⟩) n n) (List.replicate n 0) → Below w.heap.size w w' → w.heap.size < w'.heap.size →
      wpList Tryz.prog ops Q rest (a.put o.dst (.slice (some ⟨w.heap.size, 0, none⟩) n n)) w') :
    wpList Tryz.prog ops Q (o :: rest) a w := by
  obtain ⟨i0, hi, hz0, hz1, hz2⟩ := info_parts infoInt
  refine wpList_make_full w hgd x y 63 ho B 3 i0 (.int .i64 0) 1 Tryz.underlying63 hi hz0 hz1 .i64 .i64 X Y n hx hy hX hY (by rw [hz2]; omega) (by unfold maxLen; omega) hB ?_
  intro w' hown hgrow
  have hO : Owns B w' (.slice (some ⟨w.heap.size, 0, none⟩) n n) (List.replicate n 0) := by
    have : w'.ownsRow B 3 1 (.slice (some ⟨w.heap.size, 0, none⟩) n n) n ((List.replicate n 0).map (Value.int .i64)) := by
      simpa [toList_madeCells_one, Value.cells] using hown
    unfold Owns
    rw [List.length_replicate]
    exact this
  exact h w' hO ((Below.refl _ _).grown hgrow (Nat.le_refl _) (by simp)) (hO.lt w.heap.size rfl).2

/-- A cell of an owned list. -/
theorem Owns.at {B g n cap : Nat} {w : World} {l : List Int} (h : Owns B w (.slice (some ⟨g, 0, none⟩) n cap) l) (j : Nat) (hj : j < l.length) :
    w.cell? ⟨g, j, none⟩ = some (.int .i64 (l.getD j 0)) ∧ w.frozen? ⟨g, j, none⟩ = false := by
  obtain ⟨g', cap', hv, -, -, -, -, hc, hf⟩ := h.head (by omega)
  simp only [Value.slice.injEq, Option.some.injEq, Addr.mk.injEq] at hv
  obtain ⟨⟨rfl, -, -⟩, -, -⟩ := hv
  exact ⟨hc j hj, hf j⟩
theorem Owns.ge {B g n cap : Nat} {w : World} {l : List Int} (h : Owns B w (.slice (some ⟨g, 0, none⟩) n cap) l) : B ≤ g ∧ g < w.heap.size := h.lt g rfl

/-- 'out = append(out, y)' as one step of a region that draws its order. -/
theorem step_app {ops : Array Oper} {o : Oper} {a : Act} {w : World} {K : Act → World → Prop} {Q : Exit → Act → World → Prop} {E : Prop} (hgd : o.guard = none) (s x : Operand)
    (ho : o.op = .call { callee := .builtin .append, args := #[s, x], argTypes := #[63, 63] })
    (B : Nat) {v : Value} (l : List Int) (hs : a.eval s = v) (hO : Owns B w v l) {y : Int} {ad : Addr} (hx : a.eval x = .slice (some ad) 1 1) (hc : w.cell? ad = some (.int .i64 y))
    (hlen : l.length ≤ 1000000000000) (hB : B ≤ w.heap.size)
    (hK : ∀ v' w', Owns B w' v' (l ++ [y]) → Below B w w' → K (a.put o.dst v') w') :
    if Region.wanted o (yielded ops a.tmps) = true then Oper.wp Tryz.prog o a w K Q else E := by
  have hw : Region.wanted o (yielded ops a.tmps) = true := by simp [Region.wanted, hgd]
  rw [if_pos hw]
  obtain ⟨i0, hi, hz0, hz1, hz2⟩ := info_parts infoInt
  have hnews : ∀ (j : Nat) (u : Value), [Value.int .i64 y][j]? = some u → w.cell? (ad.add j) = some u := by
    intro j u hj
    match j, hj with
    | 0, hj => simp at hj; subst hj; simpa [Addr.add] using hc
  have hone : ∀ u ∈ [Value.int .i64 y], u.oneCell' = true := by
    intro u hu; simp at hu; subst hu; rfl
  obtain ⟨v', w', hrun, r1, r2, -⟩ := run_append_own (P := Tryz.prog) w B 63 o.type 3 i0 (.int .i64 0) 1 8 Tryz.underlying63 hi hz0 hz1 hz2 rfl (by decide) v l.length (l.map (Value.int .i64)) hO
    ad 1 1 [.int .i64 y] rfl hnews hone (by unfold maxLen; omega) (by omega) hB
  unfold Oper.wp
  simp [execOp, ho, resolve, invoke, builtin, hs, hx, hrun, Result.andThen]
  refine hK v' w' ?_ ((Below.refl _ _).grown r2 hB (fun k hk => (hO.lt k hk).1))
  show w'.ownsRow B 3 1 v' (l ++ [y]).length ((l ++ [y]).map (Value.int .i64))
  rw [List.length_append, List.map_append]
  exact r1

/-- 'out = append(out, y)', with the place of what comes back. -/
theorem wpList_app2 {w : World} {ops : Array Oper} {rest : List Oper} {o : Oper} {a : Act} {Q : Exit → Act → World → Prop} (hgd : o.guard = none) (s x : Operand)
    (ho : o.op = .call { callee := .builtin .append, args := #[s, x], argTypes := #[63, 63] })
    (B : Nat) {v : Value} (l : List Int) (hs : a.eval s = v) (hO : Owns B w v l) {y : Int} (hx : a.eval x = .slice (some ⟨w.heap.size, 0, none⟩) 1 1)
    (hlen : l.length ≤ 1000000000000) (hB : B ≤ w.heap.size)
    (h : ∀ v' w', Owns B w' v' (l ++ [y]) → w.grownBy w' v.ownBlock → (v'.ownBlock = v.ownBlock ∨ v'.ownBlock = some (w.heap.size + 1)) → wpList Tryz.prog ops Q rest (a.put o.dst v') w') :
    wpList Tryz.prog ops Q (o :: rest) a (w.alloc (.cells #[.int .i64 y] 3)) := by
  obtain ⟨i0, hi, hz0, hz1, hz2⟩ := info_parts infoInt
  refine wpList_append_own_at _ hgd s x 63 ho B 3 i0 (.int .i64 0) 1 8 Tryz.underlying63 hi hz0 hz1 hz2 rfl (by decide) v l.length (l.map (Value.int .i64)) hs (World.ownsRow.alloc hO _)
    ⟨w.heap.size, 0, none⟩ 1 1 [.int .i64 y] hx rfl ?_ ?_ (by unfold maxLen; omega) (by omega) (by simp; omega) ?_
  · intro j u hj
    match j, hj with
    | 0, hj => simp at hj; subst hj; simp [Addr.add]
  · intro u hu; simp at hu; subst hu; rfl
  · intro v' w' h1 h2 _ h4
    have hg : w.grownBy w' v.ownBlock := by
      have h0 := World.grownBy_alloc w (.cells #[.int .i64 y] 3) v.ownBlock
      exact ⟨h2.os.trans h0.os, h2.tape.trans h0.tape, h2.output.trans h0.output, Nat.le_trans h0.size h2.size, fun k hk hne =>
        (h2.block k (Nat.lt_of_lt_of_le hk h0.size) hne).trans (h0.block k hk hne)⟩
    refine h v' w' ?_ hg (by simpa using h4)
    show w'.ownsRow B 3 1 v' (l ++ [y]).length ((l ++ [y]).map (Value.int .i64))
    rw [List.length_append, List.map_append]
    exact h1

/-- 'out = append(out, m...)', out a list of ints of the call's own. -/
theorem wpList_appAll {w : World} {ops : Array Oper} {rest : List Oper} {o : Oper} {a : Act} {Q : Exit → Act → World → Prop} (hgd : o.guard = none) (s x : Operand)
    (ho : o.op = .call { callee := .builtin .append, args := #[s, x], argTypes := #[63, 63] })
    (B : Nat) {v : Value} (l : List Int) (hs : a.eval s = v) (hO : Owns B w v l) {ad : Option Addr} {c : Nat} (m : List Int) (hx : a.eval x = .slice ad m.length c)
    (hR : Reads .i64 w ad m) (hm : 0 < m.length) (hlen : l.length + m.length ≤ 1000000000000) (hB : B ≤ w.heap.size)
    (h : ∀ v' w', Owns B w' v' (l ++ m) → Below B w w' → wpList Tryz.prog ops Q rest (a.put o.dst v') w') :
    wpList Tryz.prog ops Q (o :: rest) a w := by
  obtain ⟨i0, hi, hz0, hz1, hz2⟩ := info_parts infoInt
  obtain ⟨b, off, rfl, -, -⟩ := hR 0 hm
  refine wpList_append_own _ hgd s x 63 ho B 3 i0 (.int .i64 0) 1 8 Tryz.underlying63 hi hz0 hz1 hz2 rfl (by decide) v l.length (l.map (Value.int .i64)) hs hO
    ⟨b, off, none⟩ m.length c (m.map (Value.int .i64)) hx (by simp) ?_ ?_ (by unfold maxLen; omega) (by omega) (by omega) ?_
  · intro j u hj
    rw [List.getElem?_map] at hj
    by_cases hjm : j < m.length
    · obtain ⟨b', off', he, -, hc⟩ := hR j hjm
      simp only [Option.some.injEq, Addr.mk.injEq] at he
      obtain ⟨rfl, rfl, -⟩ := he
      rw [List.getElem?_eq_getElem hjm] at hj
      simp only [Option.map_some, Option.some.injEq] at hj
      subst hj
      rw [Addr.add_lit, hc]
      simp [List.getD, hjm]
    · rw [List.getElem?_eq_none (by omega)] at hj
      cases hj
  · intro u hu
    obtain ⟨y, -, rfl⟩ := List.mem_map.1 hu
    rfl
  · intro v' w' h1 h2 _
    refine h v' w' ?_ ((Below.refl _ _).grown h2 hB (fun k hk => (hO.lt k hk).1))
    show w'.ownsRow B 3 1 v' (l ++ m).length ((l ++ m).map (Value.int .i64))
    rw [List.length_append, List.map_append]
    exact h1

end Go.Proofs.YtmgdcnibmifdeaaGreatDoor
