/- Lists of strings and of bytes that a call makes. -/
import Derived.Test.YtmgdcnibmifdeaaGreatDoorWNum
import Derived.Maps.AppendAt
import Derived.Laws.IdiomStrings
set_option linter.unusedVariables false
namespace Go.Proofs.YtmgdcnibmifdeaaGreatDoor
open Go.RowKit Res

/-- Block B or a later one: the slice value v is the call's own and holds the values xs, of the type e of one cell. -/
def OwnsV (e : TypeId) (B : Nat) (w : World) (v : Value) (xs : List Value) : Prop := w.ownsRow B e 1 v xs.length xs
theorem OwnsV.kept {e : TypeId} {B : Nat} {w w' : World} {v : Value} {xs : List Value} (h : OwnsV e B w v xs) (hb : Below w.heap.size w w') : OwnsV e B w' v xs := by
  refine ⟨h.1, ?_⟩
  rcases h.2 with hn | ⟨g, cap, cur, rfl, hb', hgg, rest⟩
  · exact .inl hn
  · exact .inr ⟨g, cap, cur, rfl, hb', by rw [hb.block g (Array.getElem?_eq_some_iff.1 hgg).1]; exact hgg, rest⟩
theorem OwnsV.alloc {e : TypeId} {B : Nat} {w : World} {v : Value} {xs : List Value} (h : OwnsV e B w v xs) (o : Obj) : OwnsV e B (w.alloc o) v xs := World.ownsRow.alloc h o
theorem OwnsV.lt {e : TypeId} {B : Nat} {w : World} {v : Value} {xs : List Value} (h : OwnsV e B w v xs) : ∀ k, v.ownBlock = some k → B ≤ k ∧ k < w.heap.size := World.ownsRow.lt h
theorem OwnsV.empty {e : TypeId} {B : Nat} (w : World) (hB : B ≤ w.heap.size) : OwnsV e B (w.alloc (.cells #[] e)) (.slice (some ⟨w.heap.size, 0, none⟩) 0 0) [] :=
  World.ownsRow_made w #[] 0 hB (by unfold maxLen; omega) (by simp)
theorem OwnsV.head {e : TypeId} {B : Nat} {w : World} {v : Value} {l : List Value} (h : OwnsV e B w v l) (hl : 0 < l.length) :
    ∃ g cap, v = .slice (some ⟨g, 0, none⟩) l.length cap ∧ B ≤ g ∧ g < w.heap.size ∧ l.length ≤ cap ∧ cap ≤ 9223372036854775807 ∧ ∀ i x, l[i]? = some x → w.cell? ⟨g, i, none⟩ = some x := by
  rcases h.2 with ⟨rfl, hn⟩ | ⟨g, cap, cur, rfl, hb, hg, hnc, hcm, hcs, htake⟩
  · omega
  · refine ⟨g, cap, rfl, hb, (Array.getElem?_eq_some_iff.1 hg).1, hnc, by simpa [maxLen] using hcm, fun i x hi => ?_⟩
    have hil : i < l.length := by
      rcases Nat.lt_or_ge i l.length with h1 | h1
      · exact h1
      · rw [List.getElem?_eq_none h1] at hi; cases hi
    rw [World.ownsRow.cellAt h i (by omega)]
    exact hi
theorem infoStr : (Tryz.prog.info? 9).map (fun i => (i.zero, i.size, i.bytes)) = some (some (.string ByteArray.empty), 1, 16) := by kernel_rfl
theorem infoByte : (Tryz.prog.info? 5).map (fun i => (i.zero, i.size, i.bytes)) = some (some (.int .u8 0), 1, 1) := by kernel_rfl
/-- 'out = append(out, y)', out a list of the call's own, of whatever type of one cell. -/
theorem wpList_appV {t e : TypeId} {z : Value} {nb : Nat} (hinf : (Tryz.prog.info? e).map (fun i => (i.zero, i.size, i.bytes)) = some (some z, 1, nb)) (hz1 : z.cells.size = 1) (hnb : nb ≤ 16) (ht : Tryz.prog.underlying t = some (.slice e))
    {w : World} {ops : Array Oper} {rest : List Oper} {o : Oper} {a : Act} {Q : Exit → Act → World → Prop} (hgd : o.guard = none) (s x : Operand)
    (ho : o.op = .call { callee := .builtin .append, args := #[s, x], argTypes := #[t, t] })
    (B : Nat) {v : Value} (l : List Value) (hs : a.eval s = v) (hO : OwnsV e B w v l) {y : Value} (hy : y.oneCell' = true) (hx : a.eval x = .slice (some ⟨w.heap.size, 0, none⟩) 1 1)
    (hlen : l.length ≤ 1000000) (hB : B ≤ w.heap.size)
    (h : ∀ v' w', OwnsV e B w' v' (l ++ [y]) → Below B w w' → wpList Tryz.prog ops Q rest (a.put o.dst v') w') :
    wpList Tryz.prog ops Q (o :: rest) a (w.alloc (.cells #[y] e)) := by
  obtain ⟨i0, hi, hz0, hzs, hz2⟩ := info_parts hinf
  refine wpList_append_own _ hgd s x t ho B e i0 z 1 nb ht hi hz0 hzs hz2 hz1 (by decide) v l.length l hs (World.ownsRow.alloc hO _)
    ⟨w.heap.size, 0, none⟩ 1 1 [y] hx rfl ?_ ?_ (by unfold maxLen; omega) ?_ (by simp; omega) ?_
  · intro j u hj
    match j, hj with
    | 0, hj => simp at hj; subst hj; simp [Addr.add]
  · intro u hu; simp at hu; subst hu; exact hy
  · have : (l.length + 1) * nb ≤ (l.length + 1) * 16 := Nat.mul_le_mul_left _ hnb
    omega
  · intro v' w' h1 h2 _
    have hg : w.grownBy w' v.ownBlock := by
      have h0 := World.grownBy_alloc w (.cells #[y] e) v.ownBlock
      exact ⟨h2.os.trans h0.os, h2.tape.trans h0.tape, h2.output.trans h0.output, Nat.le_trans h0.size h2.size, fun k hk hne =>
        (h2.block k (Nat.lt_of_lt_of_le hk h0.size) hne).trans (h0.block k hk hne)⟩
    refine h v' w' ?_ ((Below.refl _ _).grown hg hB (fun k hk => (hO.lt k hk).1))
    show World.ownsRow w' B e 1 v' (l ++ [y]).length (l ++ [y])
    rw [List.length_append]
    exact h1
/-- Texts as values. -/
def strs (l : List (List UInt8)) : List Value := l.map fun x => .string ⟨x.toArray⟩
theorem strs_length (l : List (List UInt8)) : (strs l).length = l.length := by simp [strs]
theorem strs_append (l m : List (List UInt8)) : strs (l ++ m) = strs l ++ strs m := by simp [strs]
def bytesV (l : List UInt8) : List Value := l.map fun b => .int .u8 (b.toNat : Int)
theorem bytesV_length (l : List UInt8) : (bytesV l).length = l.length := by simp [bytesV]
theorem bytesV_append (l m : List UInt8) : bytesV (l ++ m) = bytesV l ++ bytesV m := by simp [bytesV]
/-- 'string(b)'. -/
theorem conv_str {B : Nat} {w : World} {g n cap : Nat} {l : List UInt8} (h : OwnsV 5 B w (.slice (some ⟨g, 0, none⟩) n cap) (bytesV l)) (hn : n = l.length) (hl : 0 < l.length) :
    (convert 22 9 (.slice (some ⟨g, 0, none⟩) n cap)).run Tryz.prog w = .ok (.string ⟨l.toArray⟩) w := by
  subst hn
  obtain ⟨g', cap', hv, -, -, -, -, hc⟩ := h.head (by rw [bytesV_length]; exact hl)
  simp only [Value.slice.injEq, Option.some.injEq, Addr.mk.injEq] at hv
  obtain ⟨⟨rfl, -, -⟩, -, rfl⟩ := hv
  refine run_convert_bytes_back w _ _ _ _ _ l Tryz.underlying22 Tryz.underlying5 Tryz.underlying9 fun j hj => ?_
  have h1 := hc j (.int .u8 (l[j].toNat : Int)) (by simp [bytesV, hj])
  rw [Addr.add_lit, Nat.zero_add]
  exact h1
/-- Join over a list of texts of the call's own. -/
theorem JoinV_any (B : Nat) (v : Value) (xs : List (List UInt8)) (c : UInt8) (w : World) (hO : OwnsV 9 B w v (strs xs)) (h0 : 0 < xs.length) (hN : xs.length ≤ 1000000)
    (hlen : (Go.Lib.join xs [c]).length ≤ 1000000000) :
    Calls Tryz.prog 46 #[v, .string ⟨#[c]⟩] w fun e w' => e = .returned (.string ⟨(Go.Lib.join xs [c]).toArray⟩) ∧ Below w.heap.size w w' := by
  obtain ⟨g, cap, rfl, hB, hg, hle, -, hc⟩ := hO.head (by rw [strs_length]; exact h0)
  have hm : (xs.map str).map (·.data.toList) = xs := by simp [List.map_map, Function.comp_def, str]
  have h := Join_any g 0 cap (xs.map str) ⟨#[c]⟩ w (fun j x hj => by
    rw [Nat.zero_add]
    refine hc j (.string x) ?_
    rw [List.getElem?_map] at hj
    simp only [strs, List.getElem?_map]
    cases hx : xs[j]? with
    | none => rw [hx] at hj; cases hj
    | some y =>
      rw [hx] at hj
      simp only [Option.map_some, Option.some.injEq] at hj ⊢
      rw [← hj]; rfl) hg (by simpa using hN) (by rw [List.length_map]; rw [strs_length] at hle; exact hle) (by rw [hm]; exact hlen)
  rw [hm, List.length_map] at h
  rw [strs_length]
  exact h

end Go.Proofs.YtmgdcnibmifdeaaGreatDoor
