/- Texts laid together. -/
import Derived.Test.YtmgdcnibmifdeaaGreatDoorWNr
import Derived.Test.YtmgdcnibmifdeaaGreatDoorWCdS
import Derived.Test.YtmgdcnibmifdeaaGreatDoorMk
import Derived.Test.YtmgdcnibmifdeaaGreatDoorWXA
import Derived.Test.YtmgdcnibmifdeaaGreatDoorWSx
import Derived.Test.YtmgdcnibmifdeaaGreatDoorWTxt
import Derived.Test.YtmgdcnibmifdeaaGreatDoorWCode
import Derived.Test.YtmgdcnibmifdeaaGreatDoorWCdIn
import Derived.Test.YtmgdcnibmifdeaaGreatDoorWOct
/- The reference's list of the nearest words of the code; spec.CodeFar, spec.CodeMend. -/
set_option linter.unusedVariables false
namespace Go.Proofs.YtmgdcnibmifdeaaGreatDoor
open Go.RowKit Res

/-- 'append(out, m...)' as one step of a region that draws its order. -/
theorem step_appAll {ops : Array Oper} {o : Oper} {a : Act} {w : World} {K : Act → World → Prop} {Q : Exit → Act → World → Prop} {E : Prop} (hgd : o.guard = none) (s x : Operand)
    (ho : o.op = .call { callee := .builtin .append, args := #[s, x], argTypes := #[63, 63] })
    (B : Nat) {v : Value} (l m : List Int) (hs : a.eval s = v) (hO : Owns B w v l) (b off n c : Nat) (hn : n = m.length) (hx : a.eval x = .slice (some ⟨b, off, none⟩) n c)
    (hR : ∀ j, j < m.length → w.cell? ⟨b, off + j, none⟩ = some (.int .i64 (m.getD j 0)))
    (hlen : l.length + m.length ≤ 1000000000000) (hB : B ≤ w.heap.size)
    (hK : ∀ v' w', Owns B w' v' (l ++ m) → w.grownBy w' v.ownBlock → K (a.put o.dst v') w') :
    if Region.wanted o (yielded ops a.tmps) = true then Oper.wp Tryz.prog o a w K Q else E := by
  subst hn
  have hw : Region.wanted o (yielded ops a.tmps) = true := by simp [Region.wanted, hgd]
  rw [if_pos hw]
  obtain ⟨i0, hi, hz0, hz1, hz2⟩ := info_parts infoInt
  have hnews : ∀ (j : Nat) (u : Value), (m.map (Value.int .i64))[j]? = some u → w.cell? ((⟨b, off, none⟩ : Addr).add j) = some u := by
    intro j u hj
    rw [List.getElem?_map] at hj
    by_cases hjm : j < m.length
    · rw [List.getElem?_eq_getElem hjm] at hj
      simp only [Option.map_some, Option.some.injEq] at hj
      subst hj
      rw [Addr.add_lit, hR j hjm]
      simp [List.getD, hjm]
    · rw [List.getElem?_eq_none (by omega)] at hj
      cases hj
  have hone : ∀ u ∈ m.map (Value.int .i64), u.oneCell' = true := by
    intro u hu
    obtain ⟨y, -, rfl⟩ := List.mem_map.1 hu
    rfl
  obtain ⟨v', w', hrun, r1, r2, -⟩ := run_append_own (P := Tryz.prog) w B 63 o.type 3 i0 (.int .i64 0) 1 8 Tryz.underlying63 hi hz0 hz1 hz2 rfl (by decide) v l.length (l.map (Value.int .i64)) hO
    ⟨b, off, none⟩ m.length c (m.map (Value.int .i64)) (by simp) hnews hone (by unfold maxLen; omega) (by omega) hB
  unfold Oper.wp
  simp [execOp, ho, resolve, invoke, builtin, hs, hx, hrun, Result.andThen]
  refine hK v' w' ?_ r2
  show w'.ownsRow B 3 1 v' (l ++ m).length ((l ++ m).map (Value.int .i64))
  rw [List.length_append, List.map_append]
  exact r1

theorem one_cell {w : World} {b : Nat} {y : Int} (h : w.cell? ⟨b, 0, none⟩ = some (.int .i64 y)) : ∀ j, j < [y].length → w.cell? ⟨b, 0 + j, none⟩ = some (.int .i64 ([y].getD j 0)) := by
  intro j hj
  have : j < 1 := hj
  obtain rfl : j = 0 := by omega
  exact h
/-- What stands of the reference's list: its cells. -/
structure NrL (n k : Nat) (l : List Int) (g : Nat) (w : World) : Prop where
  near : nearP n k l
  lt : g < w.heap.size
  at' : ∀ j, j < l.length → w.cell? ⟨g, j, none⟩ = some (.int .i64 (l.getD j 0))
theorem NrL.kept {n k : Nat} {l : List Int} {g : Nat} {w w' : World} (h : NrL n k l g w) (hb : Below w.heap.size w w') : NrL n k l g w' :=
  ⟨h.near, Nat.lt_of_lt_of_le h.lt hb.size, fun j hj => by rw [hb.cell (p := ⟨g, j, none⟩) h.lt]; exact h.at' j hj⟩
/-- A word put into a list, wherever. -/
theorem put_mem {l : List Int} {h : Nat} {y x : Int} (hx : x ∈ l.take h ++ [y] ++ l.drop h) : x ∈ l ∨ x = y := by
  rcases List.mem_append.1 hx with hx | hx
  · rcases List.mem_append.1 hx with hx | hx
    · exact .inl (List.mem_of_mem_take hx)
    · exact .inr (List.mem_singleton.1 hx)
  · exact .inl (List.mem_of_mem_drop hx)
theorem put_length {l : List Int} {h : Nat} {y : Int} (hh : h ≤ l.length) : (l.take h ++ [y] ++ l.drop h).length = l.length + 1 := by
  simp only [List.length_append, List.length_take, List.length_drop, List.length_cons, List.length_nil]
  omega

/-- 'out[:h]' and 'out[h:]'. -/
theorem slc_h (g len c h : Nat) (hh : h ≤ c) (W : World) :
    (Instr.slice 63 (.slice (some ⟨g, 0, none⟩) len c) none (some (.int .i64 (h : Int))) none).run Tryz.prog W = .ok (.slice (some ⟨g, 0, none⟩) h c) W := by
  have ht' : Tryz.prog.underlying 63 = some (.slice (Tryz.prog.elem 63)) := by simp [Program.elem, Tryz.underlying63]
  have he : Tryz.prog.elem 63 = 3 := by simp [Program.elem, Tryz.underlying63]
  rw [run_slice_h W 63 _ _ _ ht' .i64 _ (by omega) (by omega), he, Tryz.sizeOf3]
  by_cases h0 : c = 0
  · simp [Result.andThen, sliced, h0]
  · simp [Result.andThen, sliced, Addr.add, h0]
def offH (h c : Nat) : Nat := if c = h then 0 else h
theorem slc_f (g len c h : Nat) (hh : h ≤ len) (W : World) :
    (Instr.slice 63 (.slice (some ⟨g, 0, none⟩) len c) (some (.int .i64 (h : Int))) none none).run Tryz.prog W = .ok (.slice (some ⟨g, offH h c, none⟩) (len - h) (c - h)) W := by
  have ht' : Tryz.prog.underlying 63 = some (.slice (Tryz.prog.elem 63)) := by simp [Program.elem, Tryz.underlying63]
  have he : Tryz.prog.elem 63 = 3 := by simp [Program.elem, Tryz.underlying63]
  rw [run_slice_l W 63 _ _ _ ht' .i64 _ (by omega) (by omega), he, Tryz.sizeOf3]
  unfold offH
  by_cases h0 : c = h
  · simp [Result.andThen, sliced, h0]
  · by_cases h1 : h = 0
    · subst h1; simp [Result.andThen, sliced, Addr.add, h0]
    · simp [Result.andThen, sliced, Addr.add, h0, h1]
theorem take_cells {n k h : Nat} {l : List Int} {g : Nat} {w : World} (hN : NrL n k l g w) (hh : h ≤ l.length) :
    ∀ W, Below w.heap.size w W → ∀ j, j < (l.take h).length → W.cell? ⟨g, 0 + j, none⟩ = some (.int .i64 ((l.take h).getD j 0)) := fun W hb j hj => by
  rw [List.length_take] at hj
  rw [Nat.zero_add, (hN.kept hb).at' j (by omega)]
  simp [List.getD, show j < h by omega]
theorem drop_cells {n k h c : Nat} {l : List Int} {g : Nat} {w : World} (hN : NrL n k l g w) (hh : h ≤ l.length) (hc : l.length ≤ c) :
    ∀ W, Below w.heap.size w W → ∀ j, j < (l.drop h).length → W.cell? ⟨g, offH h c + j, none⟩ = some (.int .i64 ((l.drop h).getD j 0)) := fun W hb j hj => by
  rw [List.length_drop] at hj
  unfold offH
  rw [if_neg (by omega), (hN.kept hb).at' (h + j) (by omega)]
  simp [List.getD, List.getElem?_drop]

set_option maxRecDepth 20000 in
set_option maxHeartbeats 4000000 in
theorem specNear_any (n : Nat) (w : World) (hn : n < 16777216) :
    Calls Tryz.prog 51 #[.int .i64 (n : Int)] w fun e w' => ∃ g c l, e = .returned (.tuple #[.slice (some ⟨g, 0, none⟩) l.length c, .int .i64 ((far n : Nat) : Int)]) ∧ NrL n 4096 l g w' ∧ l.length ≤ c ∧ Below w.heap.size w w' := by
  have hb1 : Below w.heap.size w (w.alloc (.cells #[] 3)) := (Below.refl _ _).alloc (Nat.le_refl _) _
  have HF : Hid (far n = farTo n 4096) := Lib.hid rfl
  have HZ : Hid (farTo n 0 = 25) := Lib.hid rfl
  have HFl := Lib.hid (farTo_le n)
  have HL := Lib.hid (fun k (h : wt (n ^^^ code k) < farTo n k) => farTo_lt h)
  have HGE := Lib.hid (fun k (h : ¬ wt (n ^^^ code k) < farTo n k) => farTo_ge h)
  have HX := Lib.hid (fun k (hk : k < 4096) => Nat.xor_lt_two_pow (n := 24) hn (code_lt hk))
  have P1 := Lib.hid (fun k (h : wt (n ^^^ code k) < farTo n k) => nearP_new h)
  have P2 := Lib.hid (fun k l l' (hl : nearP n k l) (h : wt (n ^^^ code k) = farTo n k) hn hm => nearP_more (l' := l') hl h hn hm)
  have P3 := Lib.hid (fun k l (hl : nearP n k l) h1 h2 => nearP_same hl h1 h2)
  have P0 := Lib.hid (nearP_zero n)
  have HPL : Hid (∀ k l, nearP n k l → l.length ≤ k) := Lib.hid (fun k l h => h.1)
  have hST : NrL n 0 [] w.heap.size (w.alloc (.cells #[] 3)) := ⟨P0.out, by simp, fun j hj => by simp at hj⟩
  generalize far n = F at *
  generalize farTo n = FT at *
  have hnI : (n : Int) ≤ 16777215 := by omega
  clear hn
  go_enter Tryz.func51, Tryz.ntmps51
  go_wp2_with fail
  go_loopw [4, 5, 6] (fun v y x wr => ∃ k : Nat, k ≤ 4096 ∧ x = .int .i64 (k : Int) ∧ y = .int .i64 ((FT k : Nat) : Int) ∧ (∃ g c l, v = .slice (some ⟨g, 0, none⟩) l.length c ∧ l.length ≤ c ∧ NrL n k l g wr) ∧ Below w.heap.size w wr)
    (fun _ _ x _ => (4096 - (intOf x).toNat))
  case atStart => exact ⟨0, by omega, rfl, by rw [HZ.out]; rfl, ⟨_, _, [], rfl, Nat.le_refl _, hST⟩, hb1⟩
  case round =>
    obtain ⟨k, hk, rfl, rfl, ⟨g, c, l, rfl, hlc, hN⟩, hbel⟩ := hrel
    have hlen := HPL.out k l hN.near
    have hsz := hbel.size
    have hfl := HFl.out k
    by_cases hlt : k < 4096
    · have hki : (k : Int) < 4096 := by omega
      have hcl := code_lt (m := k) hlt
      have hxl := HX.out k hlt
      have CC := Lib.hid (fun w => l3Of_any (k : Int) w (by omega) (by omega))
      rw [Int.toNat_natCast] at CC
      have hx : bits .xor .i64 ((code k : Nat) : Int) (n : Int) = ((n ^^^ code k : Nat) : Int) := by
        rw [Nat.xor_comm]; exact i64_xor _ _ (by omega) (by omega)
      have CW := Lib.hid (fun w => l1Weight_any ((n ^^^ code k : Nat) : Int) w (by omega) (by omega))
      rw [Int.toNat_natCast] at CW
      have L1 := Lib.hid (HL.out k)
      have L2 := Lib.hid (HGE.out k)
      have Q1 := Lib.hid (P1.out k)
      have Q2 := Lib.hid (P2.out k l)
      have Q3 := Lib.hid (P3.out k l)
      generalize wt (n ^^^ code k) = t at *
      generalize n ^^^ code k = z at *
      generalize code k = y at *
      clear hcl hxl
      by_cases h1 : t < FT k
      · have h1i : (t : Int) < ((FT k : Nat) : Int) := by omega
        have D := Lib.hid (L1.out h1)
        have Q := Lib.hid (Q1.out h1)
        clear h1
        go_wp2_with fail
        refine (CC.out _).mono ?_
        rintro e w1 ⟨rfl, hs1⟩
        go_wp2_with fail
        refine (CW.out _).mono ?_
        rintro e w' ⟨rfl, rfl⟩
        go_wp2_with fail
        go_loop [9] (fun x => x = .int .i64 0) (fun x => 0)
        case atStart => rfl
        case round =>
          obtain rfl := hrel
          have hW0b : Below w1.heap.size w1 (w1.alloc (.cells #[] 3)) := (Below.refl _ _).alloc (Nat.le_refl _) _
          go_wp2_with fail
          generalize hW0 : w1.alloc (.cells #[] 3) = W0 at *
          have HW0 := Lib.hid hW0
          clear hW0
          have HT : Hid (0 = (([] : List Int).take 0).length) := Lib.hid (by simp)
          have HRA : Hid (∀ W, Below W0.heap.size W0 W → ∀ j, j < (([] : List Int).take 0).length → W.cell? ⟨w1.heap.size, 0 + j, none⟩ = some (.int .i64 ((([] : List Int).take 0).getD j 0))) := Lib.hid (fun W hb j hj => by simp at hj)
          have HD : Hid (0 = (([] : List Int).drop 0).length) := Lib.hid (by simp)
          have HRD : Hid (∀ W, Below W0.heap.size W0 W → ∀ j, j < (([] : List Int).drop 0).length → W.cell? ⟨w1.heap.size, 0 + j, none⟩ = some (.int .i64 ((([] : List Int).drop 0).getD j 0))) := Lib.hid (fun W hb j hj => by simp at hj)
          have hB0 : Below W0.heap.size W0 (W0.alloc (.cells #[] 3)).drew := ((Below.refl _ _).alloc (Nat.le_refl _) _).drew
          have EA1 : Hid (Owns W0.heap.size (W0.alloc (.cells #[] 3)).drew (.slice (some ⟨W0.heap.size, 0, none⟩) 0 0) []) := Lib.hid (Owns.empty W0 (Nat.le_refl _))
          have hB02 : Below W0.heap.size W0 ((W0.alloc (.cells #[] 3)).alloc (.cells #[.int .i64 (y : Int)] 3)).drew := (((Below.refl _ _).alloc (Nat.le_refl _) _).alloc (by simp) _).drew
          have hB03 : Below W0.heap.size W0 ((W0.alloc (.cells #[.int .i64 (y : Int)] 3)).alloc (.cells #[] 3)).drew := (((Below.refl _ _).alloc (Nat.le_refl _) _).alloc (by simp) _).drew
          have HC2 : Hid (((W0.alloc (.cells #[] 3)).alloc (.cells #[.int .i64 (y : Int)] 3)).drew.cell? ⟨W0.heap.size + 1, 0, none⟩ = some (.int .i64 (y : Int))) := Lib.hid (by
            have h := cell_new (W0.alloc (.cells #[] 3)) (.int .i64 (y : Int)) 3
            rw [show (W0.alloc (.cells #[] 3)).heap.size = W0.heap.size + 1 by simp] at h
            exact h)
          have HC3 : Hid (((W0.alloc (.cells #[.int .i64 (y : Int)] 3)).alloc (.cells #[] 3)).drew.cell? ⟨W0.heap.size, 0, none⟩ = some (.int .i64 (y : Int))) := Lib.hid (by
            have h := cell_new W0 (.int .i64 (y : Int)) 3
            have hb := ((Below.refl (W0.alloc (.cells #[.int .i64 (y : Int)] 3)).heap.size (W0.alloc (.cells #[.int .i64 (y : Int)] 3))).alloc (Nat.le_refl _) (.cells #[] 3)).cell (p := ⟨W0.heap.size, 0, none⟩) (by simp)
            exact hb.trans h)
          have EA3 : Hid (Owns W0.heap.size ((W0.alloc (.cells #[.int .i64 (y : Int)] 3)).alloc (.cells #[] 3)).drew (.slice (some ⟨W0.heap.size + 1, 0, none⟩) 0 0) []) := Lib.hid (by
            have h := Owns.empty (B := W0.heap.size) (W0.alloc (.cells #[.int .i64 (y : Int)] 3)) (by simp)
            rw [show (W0.alloc (.cells #[.int .i64 (y : Int)] 3)).heap.size = W0.heap.size + 1 by simp] at h
            exact h)
          have EA2 : Hid (Owns W0.heap.size ((W0.alloc (.cells #[] 3)).alloc (.cells #[.int .i64 (y : Int)] 3)).drew (.slice (some ⟨W0.heap.size, 0, none⟩) 0 0) []) := Lib.hid ((Owns.empty W0 (Nat.le_refl _)).alloc _)
          go_region_law (first
            | (refine step_appAll rfl (.tmp 44) (.tmp 47) rfl W0.heap.size [] (([] : List Int).take 0) (by simp [Act.eval]) EA1.out w1.heap.size 0 0 0 HT.out (by simp [Act.eval]) (HRA.out _ hB0) (by simp <;> omega) (by simp <;> omega) ?_
               intro v2 w2 hO2 hg2
               have hb2 : Below W0.heap.size W0 w2 := hB0.grown hg2 (by simp <;> omega) (fun k hk => (EA1.out.lt k hk).1))
            | (refine step_appAll rfl (.tmp 44) (.tmp 47) rfl W0.heap.size [] (([] : List Int).take 0) (by simp [Act.eval]) EA2.out w1.heap.size 0 0 0 HT.out (by simp [Act.eval]) (HRA.out _ hB02) (by simp <;> omega) (by simp <;> omega) ?_
               intro v2 w2 hO2 hg2
               have hb2 : Below W0.heap.size W0 w2 := hB02.grown hg2 (by simp <;> omega) (fun k hk => (EA2.out.lt k hk).1)
               have hc5 := hg2.cell HC2.out (by simp [Value.ownBlock]))
            | (refine step_appAll rfl (.tmp 44) (.tmp 47) rfl W0.heap.size [] (([] : List Int).take 0) (by simp [Act.eval]) EA3.out w1.heap.size 0 0 0 HT.out (by simp [Act.eval]) (HRA.out _ hB03) (by simp <;> omega) (by simp <;> omega) ?_
               intro v2 w2 hO2 hg2
               have hb2 : Below W0.heap.size W0 w2 := hB03.grown hg2 (by simp <;> omega) (fun k hk => (EA3.out.lt k hk).1)
               have hc6 := hg2.cell HC3.out (by simp [Value.ownBlock]))
            | (refine step_appAll rfl (.tmp 48) (.tmp 50) rfl W0.heap.size ([] ++ ([] : List Int).take 0) [(y : Int)] (by simp [Act.eval]) (hO2.alloc (.cells #[.int .i64 (y : Int)] 3)) w2.heap.size 0 1 1 rfl (by simp [Act.eval]) (one_cell (cell_new w2 (.int .i64 (y : Int)) 3)) (by simp <;> omega) (Nat.le_trans hb2.size (by simp)) ?_
               intro v3 w3 hO3 hg3
               have hb3 : Below W0.heap.size W0 w3 := (hb2.alloc hb2.size _).grown hg3 (Nat.le_trans hb2.size (by simp)) (fun k hk => (hO2.lt k hk).1))
            | (refine step_appAll rfl (.tmp 48) (.tmp 50) rfl W0.heap.size ([] ++ ([] : List Int).take 0) [(y : Int)] (by simp [Act.eval]) hO2 (W0.heap.size + 1) 0 1 1 rfl (by simp [Act.eval]) (one_cell hc5) (by simp <;> omega) (by exact hb2.size) ?_
               intro v3 w3 hO3 hg3
               have hb3 : Below W0.heap.size W0 w3 := hb2.grown hg3 hb2.size (fun k hk => (hO2.lt k hk).1))
            | (refine step_appAll rfl (.tmp 48) (.tmp 50) rfl W0.heap.size ([] ++ ([] : List Int).take 0) [(y : Int)] (by simp [Act.eval]) hO2 W0.heap.size 0 1 1 rfl (by simp [Act.eval]) (one_cell hc6) (by simp <;> omega) (by exact hb2.size) ?_
               intro v3 w3 hO3 hg3
               have hb3 : Below W0.heap.size W0 w3 := hb2.grown hg3 hb2.size (fun k hk => (hO2.lt k hk).1))
            | (refine step_appAll rfl (.tmp 51) (.tmp 54) rfl W0.heap.size ([] ++ ([] : List Int).take 0 ++ [(y : Int)]) (([] : List Int).drop 0) (by simp [Act.eval]) hO3 w1.heap.size (0) (0) (0) HD.out (by simp [Act.eval]) (HRD.out _ hb3) (by simp <;> omega) (by exact hb3.size) ?_
               intro v4 w4 hO4 hg4
               have hb4 : Below W0.heap.size W0 w4 := hb3.grown hg4 hb3.size (fun k hk => (hO3.lt k hk).1)))
          all_goals
            generalize hL4 : ([] ++ ([] : List Int).take 0 ++ [(y : Int)] ++ ([] : List Int).drop 0) = L4 at hO4
            have HL4 := Lib.hid hL4
            clear hL4
            obtain ⟨g', c', hv', -, hlt', hle', -, hcell', -⟩ := hO4.head (by rw [← HL4.out]; simp <;> omega)
            subst hv'
            go_wp2_with fail
            go_roundw
            case rel => exact ⟨k + 1, by omega, by go_num, by rw [D.out], ⟨g', c', _, rfl, hle', ⟨by rw [← HL4.out]; simpa using Q.out, hlt', hcell'⟩⟩, hbel.trans ((hs1.trans ((hW0b.trans (hb4.mono hW0b.size)).mono hs1.size)).mono hsz)⟩
            case measure => simp [intOf]; omega
      · have h1b : ((FT k : Nat) : Int) ≤ (t : Int) := by omega
        have D := Lib.hid (L2.out h1)
        by_cases h2 : t = FT k
        · have hbq : ((t : Int) == ((FT k : Nat) : Int)) = true := by rw [beq_iff_eq]; omega
          have Q := Lib.hid (fun l' => Q2.out l' hN.near h2)
          have h1b : ¬ (t : Int) < ((FT k : Nat) : Int) := by omega
          clear h1 h2
          go_wp2_with fail
          refine (CC.out _).mono ?_
          rintro e w1 ⟨rfl, hs1⟩
          have hN1 := hN.kept hs1
          go_wp2_with fail
          refine (CW.out _).mono ?_
          rintro e w' ⟨rfl, rfl⟩
          go_wp2_with fail
          go_loop [9] (fun x => ∃ h : Nat, h ≤ l.length ∧ x = .int .i64 (h : Int)) (fun x => (intOf x).toNat)
          case atStart => exact ⟨l.length, Nat.le_refl _, rfl⟩
          case round =>
            obtain ⟨h, hh, rfl⟩ := hrel
            have hsh := fun W => slc_h g l.length c h (by omega) W
            have hsf := fun W => slc_f g l.length c h hh W
            by_cases h0 : 0 < h
            · obtain ⟨p, hp⟩ : ∃ p, h = p + 1 := ⟨h - 1, by omega⟩
              have hidx : (h : Int) - 1 = (p : Int) := by omega
              have h0i : (0 : Int) < (h : Int) := by omega
              have hpl : (p : Int) < (l.length : Int) := by omega
              have hpn : p < l.length := by omega
              have hc1 := hN1.at' p (by omega)
              have HP := Lib.hid hp
              clear hp
              by_cases hy : (y : Int) < l.getD p 0
              · generalize l.getD p 0 = q at *
                clear h0
                go_wp2_with fail
                go_round
                case rel => exact ⟨p, by have := HP.out; omega, rfl⟩
                case measure => simp [intOf]; have := HP.out; omega
              · generalize l.getD p 0 = q at *
                clear h0
                go_wp2_with fail
                have HT : Hid (h = (l.take h).length) := Lib.hid (by simp; omega)
                have HRA : Hid (∀ W, Below w1.heap.size w1 W → ∀ j, j < (l.take h).length → W.cell? ⟨g, 0 + j, none⟩ = some (.int .i64 ((l.take h).getD j 0))) := Lib.hid (take_cells hN1 hh)
                have HD : Hid (l.length - h = (l.drop h).length) := Lib.hid (by simp)
                have HRD : Hid (∀ W, Below w1.heap.size w1 W → ∀ j, j < (l.drop h).length → W.cell? ⟨g, (offH h c) + j, none⟩ = some (.int .i64 ((l.drop h).getD j 0))) := Lib.hid (drop_cells hN1 hh hlc)
                have hB0 : Below w1.heap.size w1 (w1.alloc (.cells #[] 3)).drew := ((Below.refl _ _).alloc (Nat.le_refl _) _).drew
                have EA1 : Hid (Owns w1.heap.size (w1.alloc (.cells #[] 3)).drew (.slice (some ⟨w1.heap.size, 0, none⟩) 0 0) []) := Lib.hid (Owns.empty w1 (Nat.le_refl _))
                have hB02 : Below w1.heap.size w1 ((w1.alloc (.cells #[] 3)).alloc (.cells #[.int .i64 (y : Int)] 3)).drew := (((Below.refl _ _).alloc (Nat.le_refl _) _).alloc (by simp) _).drew
                have hB03 : Below w1.heap.size w1 ((w1.alloc (.cells #[.int .i64 (y : Int)] 3)).alloc (.cells #[] 3)).drew := (((Below.refl _ _).alloc (Nat.le_refl _) _).alloc (by simp) _).drew
                have HC2 : Hid (((w1.alloc (.cells #[] 3)).alloc (.cells #[.int .i64 (y : Int)] 3)).drew.cell? ⟨w1.heap.size + 1, 0, none⟩ = some (.int .i64 (y : Int))) := Lib.hid (by
                  have h := cell_new (w1.alloc (.cells #[] 3)) (.int .i64 (y : Int)) 3
                  rw [show (w1.alloc (.cells #[] 3)).heap.size = w1.heap.size + 1 by simp] at h
                  exact h)
                have HC3 : Hid (((w1.alloc (.cells #[.int .i64 (y : Int)] 3)).alloc (.cells #[] 3)).drew.cell? ⟨w1.heap.size, 0, none⟩ = some (.int .i64 (y : Int))) := Lib.hid (by
                  have h := cell_new w1 (.int .i64 (y : Int)) 3
                  have hb := ((Below.refl (w1.alloc (.cells #[.int .i64 (y : Int)] 3)).heap.size (w1.alloc (.cells #[.int .i64 (y : Int)] 3))).alloc (Nat.le_refl _) (.cells #[] 3)).cell (p := ⟨w1.heap.size, 0, none⟩) (by simp)
                  exact hb.trans h)
                have EA3 : Hid (Owns w1.heap.size ((w1.alloc (.cells #[.int .i64 (y : Int)] 3)).alloc (.cells #[] 3)).drew (.slice (some ⟨w1.heap.size + 1, 0, none⟩) 0 0) []) := Lib.hid (by
                  have h := Owns.empty (B := w1.heap.size) (w1.alloc (.cells #[.int .i64 (y : Int)] 3)) (by simp)
                  rw [show (w1.alloc (.cells #[.int .i64 (y : Int)] 3)).heap.size = w1.heap.size + 1 by simp] at h
                  exact h)
                have EA2 : Hid (Owns w1.heap.size ((w1.alloc (.cells #[] 3)).alloc (.cells #[.int .i64 (y : Int)] 3)).drew (.slice (some ⟨w1.heap.size, 0, none⟩) 0 0) []) := Lib.hid ((Owns.empty w1 (Nat.le_refl _)).alloc _)
                go_region_law (first
                  | (refine step_appAll rfl (.tmp 44) (.tmp 47) rfl w1.heap.size [] (l.take h) (by simp [Act.eval]) EA1.out g 0 h c HT.out (by simp [Act.eval]) (HRA.out _ hB0) (by simp <;> omega) (by simp <;> omega) ?_
                     intro v2 w2 hO2 hg2
                     have hb2 : Below w1.heap.size w1 w2 := hB0.grown hg2 (by simp <;> omega) (fun k hk => (EA1.out.lt k hk).1))
                  | (refine step_appAll rfl (.tmp 44) (.tmp 47) rfl w1.heap.size [] (l.take h) (by simp [Act.eval]) EA2.out g 0 h c HT.out (by simp [Act.eval]) (HRA.out _ hB02) (by simp <;> omega) (by simp <;> omega) ?_
                     intro v2 w2 hO2 hg2
                     have hb2 : Below w1.heap.size w1 w2 := hB02.grown hg2 (by simp <;> omega) (fun k hk => (EA2.out.lt k hk).1)
                     have hc5 := hg2.cell HC2.out (by simp [Value.ownBlock]))
                  | (refine step_appAll rfl (.tmp 44) (.tmp 47) rfl w1.heap.size [] (l.take h) (by simp [Act.eval]) EA3.out g 0 h c HT.out (by simp [Act.eval]) (HRA.out _ hB03) (by simp <;> omega) (by simp <;> omega) ?_
                     intro v2 w2 hO2 hg2
                     have hb2 : Below w1.heap.size w1 w2 := hB03.grown hg2 (by simp <;> omega) (fun k hk => (EA3.out.lt k hk).1)
                     have hc6 := hg2.cell HC3.out (by simp [Value.ownBlock]))
                  | (refine step_appAll rfl (.tmp 48) (.tmp 50) rfl w1.heap.size ([] ++ l.take h) [(y : Int)] (by simp [Act.eval]) (hO2.alloc (.cells #[.int .i64 (y : Int)] 3)) w2.heap.size 0 1 1 rfl (by simp [Act.eval]) (one_cell (cell_new w2 (.int .i64 (y : Int)) 3)) (by simp <;> omega) (Nat.le_trans hb2.size (by simp)) ?_
                     intro v3 w3 hO3 hg3
                     have hb3 : Below w1.heap.size w1 w3 := (hb2.alloc hb2.size _).grown hg3 (Nat.le_trans hb2.size (by simp)) (fun k hk => (hO2.lt k hk).1))
                  | (refine step_appAll rfl (.tmp 48) (.tmp 50) rfl w1.heap.size ([] ++ l.take h) [(y : Int)] (by simp [Act.eval]) hO2 (w1.heap.size + 1) 0 1 1 rfl (by simp [Act.eval]) (one_cell hc5) (by simp <;> omega) (by exact hb2.size) ?_
                     intro v3 w3 hO3 hg3
                     have hb3 : Below w1.heap.size w1 w3 := hb2.grown hg3 hb2.size (fun k hk => (hO2.lt k hk).1))
                  | (refine step_appAll rfl (.tmp 48) (.tmp 50) rfl w1.heap.size ([] ++ l.take h) [(y : Int)] (by simp [Act.eval]) hO2 w1.heap.size 0 1 1 rfl (by simp [Act.eval]) (one_cell hc6) (by simp <;> omega) (by exact hb2.size) ?_
                     intro v3 w3 hO3 hg3
                     have hb3 : Below w1.heap.size w1 w3 := hb2.grown hg3 hb2.size (fun k hk => (hO2.lt k hk).1))
                  | (refine step_appAll rfl (.tmp 51) (.tmp 54) rfl w1.heap.size ([] ++ l.take h ++ [(y : Int)]) (l.drop h) (by simp [Act.eval]) hO3 g ((offH h c)) (l.length - h) (c - h) HD.out (by simp [Act.eval]) (HRD.out _ hb3) (by simp <;> omega) (by exact hb3.size) ?_
                     intro v4 w4 hO4 hg4
                     have hb4 : Below w1.heap.size w1 w4 := hb3.grown hg4 hb3.size (fun k hk => (hO3.lt k hk).1)))
                all_goals
                  generalize hL4 : ([] ++ l.take h ++ [(y : Int)] ++ l.drop h) = L4 at hO4
                  have HL4 := Lib.hid hL4
                  clear hL4
                  obtain ⟨g', c', hv', -, hlt', hle', -, hcell', -⟩ := hO4.head (by rw [← HL4.out]; simp <;> omega)
                  subst hv'
                  go_wp2_with fail
                  go_roundw
                  case rel => exact ⟨k + 1, by omega, by go_num, by rw [D.out], ⟨g', c', _, rfl, hle', ⟨Q.out _ (by rw [← HL4.out, List.nil_append]; exact put_length hh) (fun x hx => by rw [← HL4.out, List.nil_append] at hx; exact put_mem hx), hlt', hcell'⟩⟩, hbel.trans ((hs1.trans (hb4.mono hs1.size)).mono hsz)⟩
                  case measure => simp [intOf]; omega
            · have h0i : ¬ (0 : Int) < (h : Int) := by omega
              clear h0
              go_wp2_with fail
              have HT : Hid (h = (l.take h).length) := Lib.hid (by simp; omega)
              have HRA : Hid (∀ W, Below w1.heap.size w1 W → ∀ j, j < (l.take h).length → W.cell? ⟨g, 0 + j, none⟩ = some (.int .i64 ((l.take h).getD j 0))) := Lib.hid (take_cells hN1 hh)
              have HD : Hid (l.length - h = (l.drop h).length) := Lib.hid (by simp)
              have HRD : Hid (∀ W, Below w1.heap.size w1 W → ∀ j, j < (l.drop h).length → W.cell? ⟨g, (offH h c) + j, none⟩ = some (.int .i64 ((l.drop h).getD j 0))) := Lib.hid (drop_cells hN1 hh hlc)
              have hB0 : Below w1.heap.size w1 (w1.alloc (.cells #[] 3)).drew := ((Below.refl _ _).alloc (Nat.le_refl _) _).drew
              have EA1 : Hid (Owns w1.heap.size (w1.alloc (.cells #[] 3)).drew (.slice (some ⟨w1.heap.size, 0, none⟩) 0 0) []) := Lib.hid (Owns.empty w1 (Nat.le_refl _))
              have hB02 : Below w1.heap.size w1 ((w1.alloc (.cells #[] 3)).alloc (.cells #[.int .i64 (y : Int)] 3)).drew := (((Below.refl _ _).alloc (Nat.le_refl _) _).alloc (by simp) _).drew
              have hB03 : Below w1.heap.size w1 ((w1.alloc (.cells #[.int .i64 (y : Int)] 3)).alloc (.cells #[] 3)).drew := (((Below.refl _ _).alloc (Nat.le_refl _) _).alloc (by simp) _).drew
              have HC2 : Hid (((w1.alloc (.cells #[] 3)).alloc (.cells #[.int .i64 (y : Int)] 3)).drew.cell? ⟨w1.heap.size + 1, 0, none⟩ = some (.int .i64 (y : Int))) := Lib.hid (by
                have h := cell_new (w1.alloc (.cells #[] 3)) (.int .i64 (y : Int)) 3
                rw [show (w1.alloc (.cells #[] 3)).heap.size = w1.heap.size + 1 by simp] at h
                exact h)
              have HC3 : Hid (((w1.alloc (.cells #[.int .i64 (y : Int)] 3)).alloc (.cells #[] 3)).drew.cell? ⟨w1.heap.size, 0, none⟩ = some (.int .i64 (y : Int))) := Lib.hid (by
                have h := cell_new w1 (.int .i64 (y : Int)) 3
                have hb := ((Below.refl (w1.alloc (.cells #[.int .i64 (y : Int)] 3)).heap.size (w1.alloc (.cells #[.int .i64 (y : Int)] 3))).alloc (Nat.le_refl _) (.cells #[] 3)).cell (p := ⟨w1.heap.size, 0, none⟩) (by simp)
                exact hb.trans h)
              have EA3 : Hid (Owns w1.heap.size ((w1.alloc (.cells #[.int .i64 (y : Int)] 3)).alloc (.cells #[] 3)).drew (.slice (some ⟨w1.heap.size + 1, 0, none⟩) 0 0) []) := Lib.hid (by
                have h := Owns.empty (B := w1.heap.size) (w1.alloc (.cells #[.int .i64 (y : Int)] 3)) (by simp)
                rw [show (w1.alloc (.cells #[.int .i64 (y : Int)] 3)).heap.size = w1.heap.size + 1 by simp] at h
                exact h)
              have EA2 : Hid (Owns w1.heap.size ((w1.alloc (.cells #[] 3)).alloc (.cells #[.int .i64 (y : Int)] 3)).drew (.slice (some ⟨w1.heap.size, 0, none⟩) 0 0) []) := Lib.hid ((Owns.empty w1 (Nat.le_refl _)).alloc _)
              go_region_law (first
                | (refine step_appAll rfl (.tmp 44) (.tmp 47) rfl w1.heap.size [] (l.take h) (by simp [Act.eval]) EA1.out g 0 h c HT.out (by simp [Act.eval]) (HRA.out _ hB0) (by simp <;> omega) (by simp <;> omega) ?_
                   intro v2 w2 hO2 hg2
                   have hb2 : Below w1.heap.size w1 w2 := hB0.grown hg2 (by simp <;> omega) (fun k hk => (EA1.out.lt k hk).1))
                | (refine step_appAll rfl (.tmp 44) (.tmp 47) rfl w1.heap.size [] (l.take h) (by simp [Act.eval]) EA2.out g 0 h c HT.out (by simp [Act.eval]) (HRA.out _ hB02) (by simp <;> omega) (by simp <;> omega) ?_
                   intro v2 w2 hO2 hg2
                   have hb2 : Below w1.heap.size w1 w2 := hB02.grown hg2 (by simp <;> omega) (fun k hk => (EA2.out.lt k hk).1)
                   have hc5 := hg2.cell HC2.out (by simp [Value.ownBlock]))
                | (refine step_appAll rfl (.tmp 44) (.tmp 47) rfl w1.heap.size [] (l.take h) (by simp [Act.eval]) EA3.out g 0 h c HT.out (by simp [Act.eval]) (HRA.out _ hB03) (by simp <;> omega) (by simp <;> omega) ?_
                   intro v2 w2 hO2 hg2
                   have hb2 : Below w1.heap.size w1 w2 := hB03.grown hg2 (by simp <;> omega) (fun k hk => (EA3.out.lt k hk).1)
                   have hc6 := hg2.cell HC3.out (by simp [Value.ownBlock]))
                | (refine step_appAll rfl (.tmp 48) (.tmp 50) rfl w1.heap.size ([] ++ l.take h) [(y : Int)] (by simp [Act.eval]) (hO2.alloc (.cells #[.int .i64 (y : Int)] 3)) w2.heap.size 0 1 1 rfl (by simp [Act.eval]) (one_cell (cell_new w2 (.int .i64 (y : Int)) 3)) (by simp <;> omega) (Nat.le_trans hb2.size (by simp)) ?_
                   intro v3 w3 hO3 hg3
                   have hb3 : Below w1.heap.size w1 w3 := (hb2.alloc hb2.size _).grown hg3 (Nat.le_trans hb2.size (by simp)) (fun k hk => (hO2.lt k hk).1))
                | (refine step_appAll rfl (.tmp 48) (.tmp 50) rfl w1.heap.size ([] ++ l.take h) [(y : Int)] (by simp [Act.eval]) hO2 (w1.heap.size + 1) 0 1 1 rfl (by simp [Act.eval]) (one_cell hc5) (by simp <;> omega) (by exact hb2.size) ?_
                   intro v3 w3 hO3 hg3
                   have hb3 : Below w1.heap.size w1 w3 := hb2.grown hg3 hb2.size (fun k hk => (hO2.lt k hk).1))
                | (refine step_appAll rfl (.tmp 48) (.tmp 50) rfl w1.heap.size ([] ++ l.take h) [(y : Int)] (by simp [Act.eval]) hO2 w1.heap.size 0 1 1 rfl (by simp [Act.eval]) (one_cell hc6) (by simp <;> omega) (by exact hb2.size) ?_
                   intro v3 w3 hO3 hg3
                   have hb3 : Below w1.heap.size w1 w3 := hb2.grown hg3 hb2.size (fun k hk => (hO2.lt k hk).1))
                | (refine step_appAll rfl (.tmp 51) (.tmp 54) rfl w1.heap.size ([] ++ l.take h ++ [(y : Int)]) (l.drop h) (by simp [Act.eval]) hO3 g ((offH h c)) (l.length - h) (c - h) HD.out (by simp [Act.eval]) (HRD.out _ hb3) (by simp <;> omega) (by exact hb3.size) ?_
                   intro v4 w4 hO4 hg4
                   have hb4 : Below w1.heap.size w1 w4 := hb3.grown hg4 hb3.size (fun k hk => (hO3.lt k hk).1)))
              all_goals
                generalize hL4 : ([] ++ l.take h ++ [(y : Int)] ++ l.drop h) = L4 at hO4
                have HL4 := Lib.hid hL4
                clear hL4
                obtain ⟨g', c', hv', -, hlt', hle', -, hcell', -⟩ := hO4.head (by rw [← HL4.out]; simp <;> omega)
                subst hv'
                go_wp2_with fail
                go_roundw
                case rel => exact ⟨k + 1, by omega, by go_num, by rw [D.out], ⟨g', c', _, rfl, hle', ⟨Q.out _ (by rw [← HL4.out, List.nil_append]; exact put_length hh) (fun x hx => by rw [← HL4.out, List.nil_append] at hx; exact put_mem hx), hlt', hcell'⟩⟩, hbel.trans ((hs1.trans (hb4.mono hs1.size)).mono hsz)⟩
                case measure => simp [intOf]; omega
        · have hbq : ((t : Int) == ((FT k : Nat) : Int)) = false := by rw [beq_eq_false_iff_ne]; omega
          have Q := Lib.hid (Q3.out hN.near h1 h2)
          clear h1 h2
          go_wp2_with fail
          refine (CC.out _).mono ?_
          rintro e w1 ⟨rfl, hs1⟩
          have hN1 := hN.kept hs1
          go_wp2_with fail
          refine (CW.out _).mono ?_
          rintro e w' ⟨rfl, rfl⟩
          go_wp2_with fail
          go_roundw
          case rel => exact ⟨k + 1, by omega, by go_num, by rw [D.out], ⟨_, _, l, rfl, hlc, ⟨Q.out, hN1.lt, hN1.at'⟩⟩, hbel.trans (hs1.mono hsz)⟩
          case measure => simp [intOf]; omega
    · have hkl : k = 4096 := by omega
      subst hkl
      clear hlt
      go_wp2_with fail
      go_ret2
      exact ⟨_, _, l, congrArg (fun m : Nat => Ending.returned (.tuple #[.slice (some ⟨g, 0, none⟩) l.length c, .int .i64 (m : Int)])) HF.out.symm, hN, hlc, hbel⟩

theorem specCodeFar_ok (n : Nat) (w : World) (hn : n < 16777216) :
    Calls Tryz.prog 103 #[.int .i64 (n : Int)] w fun e w' => e = .returned (.int .i64 ((far n : Nat) : Int)) ∧ Below w.heap.size w w' := by
  have hin : inB (n : Int) 0 16777215 = true := inB_true (by omega) (by omega)
  have CN := Lib.hid (fun w => specNear_any n w hn)
  generalize far n = F at *
  go_enter Tryz.func103, Tryz.ntmps103
  go_wp2_with fail
  refine (specWordValid_any _ _).mono ?_
  rintro e w' ⟨rfl, rfl⟩
  go_wp2_with fail
  refine (CN.out _).mono ?_
  rintro e w1 ⟨g, c, l, rfl, -, -, hs⟩
  go_wp2_with fail
  go_ret
  exact ⟨rfl, hs⟩
theorem specCodeMend_no (k : Int) (w : World) (h : inB k 0 16777215 = false) :
    Calls Tryz.prog 26 #[.int .i64 k] w fun e w' => e = .returned (.tuple #[.int .i64 0, .bool false]) ∧ Below w.heap.size w w' := by
  go_enter Tryz.func26, Tryz.ntmps26
  go_wp2_with fail
  refine (specWordValid_any _ _).mono ?_
  rintro e w' ⟨rfl, rfl⟩
  go_wp2_with fail
  go_ret2
  exact ⟨rfl, Below.refl _ _⟩
theorem specCodeMend_ok (n : Nat) (w : World) (hn : n < 16777216) :
    Calls Tryz.prog 26 #[.int .i64 (n : Int)] w fun e w' => e = .returned (mendV n) ∧ Below w.heap.size w w' := by
  have hin : inB (n : Int) 0 16777215 = true := inB_true (by omega) (by omega)
  have HH := Lib.hid (fun l => @near_head n hn l)
  have HP : Hid (∀ l, nearP n 4096 l → 0 < l.length) := Lib.hid (fun l h => h.2.1 (by omega))
  have HV : Hid (mendV n = if far n ≤ 3 then .tuple #[.int .i64 ((mendW n : Nat) : Int), .bool true] else .tuple #[.int .i64 0, .bool false]) := Lib.hid rfl
  have CN := Lib.hid (fun w => specNear_any n w hn)
  generalize mendV n = V at *
  generalize mendW n = m at *
  generalize far n = F at *
  go_enter Tryz.func26, Tryz.ntmps26
  go_wp2_with fail
  refine (specWordValid_any _ _).mono ?_
  rintro e w' ⟨rfl, rfl⟩
  go_wp2_with fail
  refine (CN.out _).mono ?_
  rintro e w1 ⟨g, c, l, rfl, hN, hlc, hs⟩
  have h0 := HP.out l hN.near
  have hc := hN.at' 0 h0
  have hli : (0 : Int) < (l.length : Int) := by omega
  by_cases h3 : F ≤ 3
  · have h3i : ¬ (3 : Int) < (F : Int) := by omega
    rw [HH.out l hN.near h3] at hc
    have HQ := Lib.hid HV.out
    rw [if_pos h3] at HQ
    clear HV HH HP hN h3
    go_wp2_with fail
    go_ret2
    exact ⟨by rw [HQ.out]; rfl, hs⟩
  · have h3i : (3 : Int) < (F : Int) := by omega
    have HQ := Lib.hid HV.out
    rw [if_neg h3] at HQ
    clear HV HH HP hN h3 hc
    go_wp2_with fail
    go_ret2
    exact ⟨by rw [HQ.out]; rfl, hs⟩

end Go.Proofs.YtmgdcnibmifdeaaGreatDoor

/- Contracts of the reference's l6Dec, l10Number, l10Numbers, l10Said. -/
set_option linter.unusedVariables false
namespace Go.Proofs.YtmgdcnibmifdeaaGreatDoor
open Go.RowKit Res

theorem idx_l (l : List UInt8) (c : Nat) (hc : c < l.length) (w : World) :
    (Instr.index 9 (.string ⟨l.toArray⟩) (.int .i64 (c : Int))).run Tryz.prog w = .ok (.int .u8 (((l.getD c 0).toNat : Nat) : Int)) w :=
  idx_str ⟨l.toArray⟩ c (by simpa [ByteArray.size] using hc) w
theorem slc_l (l : List UInt8) (i j : Nat) (hij : i ≤ j) (hj : j ≤ l.length) (w : World) :
    (Instr.slice 9 (.string ⟨l.toArray⟩) (some (.int .i64 (i : Int))) (some (.int .i64 (j : Int))) none).run Tryz.prog w = .ok (.string ⟨((l.drop i).take (j - i)).toArray⟩) w := by
  have h := run_slice_string (P := Tryz.prog) w 9 ⟨l.toArray⟩ .i64 .i64 (i : Int) (j : Int) Tryz.underlying9 (by omega) (by omega) (by simp [ByteArray.size]; omega)
  rw [Int.toNat_natCast, Int.toNat_natCast, ByteArray.extract_mk] at h
  exact h

theorem slc_to (l : List UInt8) (j : Nat) (hj : j ≤ l.length) (w : World) :
    (Instr.slice 9 (.string ⟨l.toArray⟩) none (some (.int .i64 (j : Int))) none).run Tryz.prog w = .ok (.string ⟨(l.take j).toArray⟩) w := by
  have h := run_slice_string_to_if (P := Tryz.prog) w 9 ⟨l.toArray⟩ .i64 (j : Int) Tryz.underlying9
  rw [if_pos (by simp [ByteArray.size]; omega)] at h
  rw [h, Int.toNat_natCast, ByteArray.extract_mk]
  simp
theorem slc_from (l : List UInt8) (i : Nat) (hi : i ≤ l.length) (w : World) :
    (Instr.slice 9 (.string ⟨l.toArray⟩) (some (.int .i64 (i : Int))) none none).run Tryz.prog w = .ok (.string ⟨(l.drop i).toArray⟩) w := by
  have h := run_slice_string_from_if (P := Tryz.prog) w 9 ⟨l.toArray⟩ .i64 (i : Int) Tryz.underlying9
  rw [if_pos (by simp [ByteArray.size]; omega)] at h
  rw [h, Int.toNat_natCast]
  have hz : (ByteArray.mk l.toArray).size = l.length := by simp [ByteArray.size]
  rw [hz, ByteArray.extract_mk, List.take_of_length_le (by simp)]

set_option maxRecDepth 20000 in
theorem l6Dec_any (n : Nat) : ∀ (w : World), n ≤ 100000000 →
    Calls Tryz.prog 39 #[.int .i64 (n : Int)] w fun e w' => e = .returned (.string ⟨(dec n).toArray⟩) ∧ Below w.heap.size w w' := by
  induction n using Nat.strongRecOn with
  | _ n ih =>
    intro w hn
    have hq1 : ¬ (n : Int) < -9223372036854775807 := by omega
    have hq2 : ¬ (n : Int) < 0 := by omega
    by_cases h10 : n < 10
    · have hi : (n : Int) < 10 := by omega
      have h0 : (0 : Int) ≤ (n : Int) := by omega
      have hw : IntKind.i64.wrap (48 + (n : Int)) = 48 + (n : Int) := IntWalk.i64_in _ (by omega)
      have hw8 : IntKind.u8.wrap (48 + (n : Int)) = 48 + (n : Int) := by rw [IntKind.wrap_u8]; omega
      have CV := conv_digit w n h10
      rw [dec_small h10]
      generalize UInt8.ofNat (48 + n) = b at *
      clear ih hn h10
      go_enter Tryz.func39, Tryz.ntmps39
      go_wp2_with fail
      go_ret
      exact ⟨rfl, (Below.refl _ _).alloc (Nat.le_refl _) _⟩
    · have hi : ¬ (n : Int) < 10 := by omega
      have CD := Lib.hid (fun w => ih (n / 10) (by omega) w (by omega))
      have hql : (dec (n / 10)).length ≤ 9 := dec_length 8 (by omega)
      have hd1 : (n : Int).tdiv 10 = ((n / 10 : Nat) : Int) := by rw [Int.tdiv_eq_ediv_of_nonneg (by omega)]; omega
      have hd2 : (n : Int) / 10 = ((n / 10 : Nat) : Int) := by omega
      have hm1 : (n : Int).tmod 10 = ((n % 10 : Nat) : Int) := by rw [Int.tmod_eq_emod_of_nonneg (by omega)]; omega
      have hm2 : (n : Int) % 10 = ((n % 10 : Nat) : Int) := by omega
      have hw0 : IntKind.i64.wrap ((n / 10 : Nat) : Int) = ((n / 10 : Nat) : Int) := IntWalk.i64_in _ (by omega)
      have hw : IntKind.i64.wrap (48 + ((n % 10 : Nat) : Int)) = 48 + ((n % 10 : Nat) : Int) := IntWalk.i64_in _ (by omega)
      have hw8 : IntKind.u8.wrap (48 + ((n % 10 : Nat) : Int)) = 48 + ((n % 10 : Nat) : Int) := by rw [IntKind.wrap_u8]; omega
      have HR : Hid (n % 10 < 10) := Lib.hid (by omega)
      have CV := Lib.hid (fun W => conv_digit W (n % 10) HR.out)
      rw [dec_big h10]
      have hbt : ((UInt8.ofNat (48 + n % 10)).toNat : Int) = 48 + ((n % 10 : Nat) : Int) := by rw [toNat_digit HR.out]; omega
      generalize UInt8.ofNat (48 + n % 10) = b at *
      generalize dec (n / 10) = D at *
      generalize n / 10 = q at *
      generalize n % 10 = r at *
      clear ih hn h10
      have CV0 := CV.out w.drew
      have HX := Lib.hid (show (w.drew.alloc (.cells #[.int .u8 (48 + (r : Int))] 5)).cell? ⟨w.heap.size, 0, none⟩ = some (.int .u8 (b.toNat : Int)) by rw [hbt]; exact cell_new w.drew _ _)
      rw [show w.drew.heap.size = w.heap.size from rfl] at CV0
      have HKP := Lib.hid (fun w1 hx => conv_cell (b := b) (g := w.heap.size) w1 hx)
      have CV0 := HKP.out (w.alloc (.cells #[.int .u8 (48 + (r : Int))] 5)).drew HX.out
      clear hbt
      go_enter Tryz.func39, Tryz.ntmps39
      go_wp2_with fail
      go_region_with (go_at_call 39; refine (CD.out _).mono ?_; rintro e w1 ⟨rfl, hs1⟩; have CV1 := CV.out w1; try (have hx := (hs1.cell (p := ⟨w.heap.size, 0, none⟩) (by simp)).trans HX.out); try (have CV2 := HKP.out w1 hx))
      all_goals
        go_wp2_with fail
        go_ret
        refine ⟨congrArg (fun x => Ending.returned (.string x)) (str_app D [b]), ?_⟩
        first
          | exact (show Below w.heap.size w w1 from ⟨hs1.os, hs1.tape, hs1.output, hs1.size, hs1.block⟩).alloc hs1.size _
          | exact (((Below.refl w.heap.size w).alloc (Nat.le_refl _) _).drew).trans (hs1.mono (by simp))

/-- What l10Number answers. -/
def numberV (l : List UInt8) : Value := match numF l with
  | some n => .tuple #[.int .i64 (n : Int), .bool true]
  | none => .tuple #[.int .i64 0, .bool false]
theorem numberV_some {l : List UInt8} {n : Nat} (h : numF l = some n) : numberV l = .tuple #[.int .i64 (n : Int), .bool true] := by unfold numberV; rw [h]
theorem numberV_none {l : List UInt8} (h : numF l = none) : numberV l = .tuple #[.int .i64 0, .bool false] := by unfold numberV; rw [h]
theorem l10Number_any (l : List UInt8) (w : World) (hl : l.length ≤ 100000) :
    Calls Tryz.prog 151 #[.string ⟨l.toArray⟩] w fun e w' => e = .returned (numberV l) ∧ w = w' := by
  have HV := Lib.hid (fun n (h : numF l = some n) => numberV_some h)
  have HN := Lib.hid (fun (h : numF l = none) => numberV_none h)
  cases hin : inB (l.length : Int) 1 8
  · have HQ := Lib.hid (HN.out (numF_short (fun h => by rw [inB_true (by omega) (by omega)] at hin; cases hin)))
    generalize numberV l = V at *
    go_enter Tryz.func151, Tryz.ntmps151
    go_wp2_with fail
    refine (l6In_any _ _ _ _).mono ?_
    rintro e w' ⟨rfl, rfl⟩
    go_wp2_with fail
    go_ret2
    exact ⟨by rw [HQ.out]; rfl, rfl⟩
  · obtain ⟨i1, i2⟩ := inB_iff.1 hin
    have HS := Lib.hid (DgS.start l)
    have HB := Lib.hid (idx_l l)
    have HE := Lib.hid (fun n (h : DgS l l.length n) => HV.out n (h.all (by omega) (by omega)))
    have HF := Lib.hid (fun k (hk : k < l.length) h => HN.out (DgS.no hk h))
    have HLT := Lib.hid (fun k n (h : DgS l k n) => h.lt (by omega))
    generalize numberV l = V at *
    clear HV HN
    go_enter Tryz.func151, Tryz.ntmps151
    go_wp2_with fail
    refine (l6In_any _ _ _ _).mono ?_
    rintro e w' ⟨rfl, rfl⟩
    go_wp2_with fail
    go_loop [4, 5] (fun s x => ∃ k n : Nat, k ≤ l.length ∧ x = .int .i64 (k : Int) ∧ s = .int .i64 (n : Int) ∧ DgS l k n) (fun _ x => (l.length - (intOf x).toNat))
    case atStart => exact ⟨0, 0, by omega, rfl, rfl, HS.out⟩
    case round =>
      obtain ⟨k, n, hk, rfl, rfl, hD⟩ := hrel
      have hnl := HLT.out k n hD
      have hni : (n : Int) < 100000000 := by omega
      clear hnl
      by_cases hlt : k < l.length
      · have hki : (k : Int) < (l.length : Int) := by omega
        have hb := fun w => HB.out k hlt w
        have HFk := Lib.hid (HF.out k hlt)
        have HNx := Lib.hid (hD.next hlt)
        cases hd : isD (l.getD k 0)
        · have HQ := Lib.hid (HFk.out hd)
          have hno : ¬ (48 ≤ (l.getD k 0).toNat ∧ (l.getD k 0).toNat ≤ 57) := fun e => by rw [isD_iff.2 e] at hd; cases hd
          generalize (l.getD k 0).toNat = b at *
          clear HNx HFk hd
          by_cases h48 : b < 48
          · have hbi : (b : Int) < 48 := by omega
            clear hno h48
            go_wp2_with fail
            go_ret2
            exact ⟨by rw [HQ.out]; rfl, rfl⟩
          · have hbi : ¬ (b : Int) < 48 := by omega
            have hbj : (57 : Int) < (b : Int) := by omega
            clear hno h48
            go_wp2_with fail
            go_ret2
            exact ⟨by rw [HQ.out]; rfl, rfl⟩
        · have hyes := isD_iff.1 hd
          have D := Lib.hid (HNx.out hd)
          generalize (l.getD k 0).toNat = b at *
          have hbi : ¬ (b : Int) < 48 := by omega
          have hbj : ¬ (57 : Int) < (b : Int) := by omega
          have hw8 : IntKind.u8.wrap ((b : Int) - 48) = (b : Int) - 48 := by rw [IntKind.wrap_u8]; omega
          have hq0 : (48 : Int) ≤ (b : Int) := by omega
          have hq1 : (b : Int) ≤ 57 := by omega
          have he : 10 * (n : Int) + ((b : Int) - 48) = ((10 * n + (b - 48) : Nat) : Int) := by omega
          have HEQ := Lib.hid he
          clear hyes HNx HFk hd he
          go_wp2_with fail
          go_round
          case rel => exact ⟨k + 1, _, by omega, by go_num, congrArg _ HEQ.out, D.out⟩
          case measure => simp [intOf]; omega
      · obtain rfl : k = l.length := by omega
        have HQ := Lib.hid (HE.out n hD)
        clear hlt hk
        go_wp2_with fail
        go_ret2
        exact ⟨by rw [HQ.out]; rfl, rfl⟩

/-- How far the numbers of a text have been read. -/
def NmR (l : List UInt8) (m : List Nat) (f k : Nat) : Prop := (k ≤ l.length ∧ NmS l m f k) ∨ (k = l.length + 1 ∧ nums l = some m)
theorem numbersB_none {l : List UInt8} {want : Int} (h : nums l = none) : numbersB l want = false := by unfold numbersB; rw [h]
theorem numbers_some {l : List UInt8} {want : Int} {m : List Nat} (h : nums l = some m) : numbersB l want = ((m.length : Int) == want) ∧ numbersL l = ints m := by
  unfold numbersB numbersL
  rw [h]
  refine ⟨?_, rfl⟩
  rw [Bool.eq_iff_iff, decide_eq_true_eq, beq_iff_eq]
/-- What l10Numbers answers. -/
def NumsV (w : World) (l : List UInt8) (want : Int) (e : Ending) (w' : World) : Prop :=
  ∃ v, e = .returned (.tuple #[v, .bool (numbersB l want)]) ∧ (numbersB l want = true → Owns w.heap.size w' v (numbersL l)) ∧ Below w.heap.size w w'
theorem l10Numbers_any (l : List UInt8) (want : Int) (w : World) (hl : l.length ≤ 100000) :
    Calls Tryz.prog 108 #[.string ⟨l.toArray⟩, .int .i64 want] w (NumsV w l want) := by
  have HB := Lib.hid (idx_l l)
  have HSL := Lib.hid (slc_l l)
  have HN0 := Lib.hid (fun (h : nums l = none) => numbersB_none (want := want) h)
  have HN1 := Lib.hid (fun m (h : nums l = some m) => numbers_some (want := want) h)
  have HLI : Hid (l.length ≤ 100000) := Lib.hid hl
  have hli : (l.length : Int) ≤ 100000 := by omega
  have HST := Lib.hid (NmS.start l)
  clear hl
  go_enter Tryz.func108, Tryz.ntmps108
  go_wp2_with fail
  go_loopw [6, 7, 8] (fun v y x wr => ∃ (k f : Nat) (m : List Nat), k ≤ l.length + 1 ∧ x = .int .i64 (k : Int) ∧ y = .int .i64 (f : Int) ∧ NmR l m f k ∧ Owns w.heap.size wr v (ints m) ∧ Below w.heap.size w wr)
    (fun _ _ x _ => (l.length + 1 - (intOf x).toNat))
  case atStart => exact ⟨0, 0, [], by omega, rfl, rfl, .inl ⟨by omega, HST.out⟩, Owns.empty w (Nat.le_refl _), (Below.refl _ _).alloc (Nat.le_refl _) _⟩
  case round =>
    obtain ⟨k, f, m, hk, rfl, rfl, hR, hO, hbel⟩ := hrel
    have hsz := hbel.size
    have hil := ints_length m
    by_cases hle : k ≤ l.length
    · have hN : NmS l m f k := by
        rcases hR with ⟨-, h⟩ | ⟨h, -⟩
        · exact h
        · omega
      obtain ⟨hfk, -, hml⟩ := hN.len
      have hkI : (k : Int) ≤ (l.length : Int) := by omega
      have hmI : (ints m).length ≤ 100000 := by have := HLI.out; omega
      have hsl := fun w => HSL.out f k hfk hle w
      clear hR
      by_cases he : k = l.length
      · subst he
        have hpc : (l.drop f).take (l.length - f) = l.drop f := List.take_of_length_le (by simp)
        rw [hpc] at hsl
        have CN := Lib.hid (fun w => l10Number_any (l.drop f) w (by rw [List.length_drop]; have := HLI.out; omega))
        clear hpc
        cases hn : numF (l.drop f) with
        | none =>
          have Q := Lib.hid (HN0.out (hN.lastBad hn))
          rw [numberV_none hn] at CN
          generalize l.drop f = P at *
          clear hn hN hk hle hml hmI
          go_wp2_with fail
          refine (CN.out _).mono ?_
          rintro e w' ⟨rfl, rfl⟩
          go_wp2_with fail
          go_ret2
          exact ⟨_, by rw [Q.out]; rfl, (fun h => by rw [Q.out] at h; cases h), hbel⟩
        | some n =>
          have D := Lib.hid (hN.last hn)
          rw [numberV_some hn] at CN
          generalize l.drop f = P at *
          clear hn hN hk hle
          go_wp2_with fail
          refine (CN.out _).mono ?_
          rintro e w' ⟨rfl, rfl⟩
          go_wp2_with (first | (at_builtin; refine wpList_app rfl _ _ rfl w.heap.size _ rfl hO rfl (by omega) (by omega) ?_; intro v' w5 hO' hbel' hg'))
          go_roundw
          case rel => exact ⟨l.length + 1, l.length + 1, m ++ [n], by omega, by go_num, by go_num, .inr ⟨rfl, D.out⟩, by rw [ints_append]; exact hO', hbel.trans hbel'⟩
          case measure => simp [intOf]
      · have hkl : k < l.length := by omega
        have hkb : ((k : Int) == (l.length : Int)) = false := by rw [beq_eq_false_iff_ne]; omega
        have hb := fun w => HB.out k hkl w
        by_cases hx : l.getD k 0 = 32
        · have hbn : (l.getD k 0).toNat = 32 := by rw [hx]; rfl
          rw [hbn] at hb
          have CN := Lib.hid (fun w => l10Number_any ((l.drop f).take (k - f)) w (by rw [List.length_take, List.length_drop]; have := HLI.out; omega))
          clear hbn
          cases hn : numF ((l.drop f).take (k - f)) with
          | none =>
            have Q := Lib.hid (HN0.out (hN.bad hkl hx hn))
            rw [numberV_none hn] at CN
            generalize (l.drop f).take (k - f) = P at *
            clear hn hN hk hle hml hmI hx he
            go_wp2_with fail
            refine (CN.out _).mono ?_
            rintro e w' ⟨rfl, rfl⟩
            go_wp2_with fail
            go_ret2
            exact ⟨_, by rw [Q.out]; rfl, (fun h => by rw [Q.out] at h; cases h), hbel⟩
          | some n =>
            have D := Lib.hid (hN.hit hkl hx hn)
            rw [numberV_some hn] at CN
            generalize (l.drop f).take (k - f) = P at *
            clear hn hN hk hle hx he
            go_wp2_with fail
            refine (CN.out _).mono ?_
            rintro e w' ⟨rfl, rfl⟩
            go_wp2_with (first | (at_builtin; refine wpList_app rfl _ _ rfl w.heap.size _ rfl hO rfl (by omega) (by omega) ?_; intro v' w5 hO' hbel' hg'))
            go_roundw
            case rel => exact ⟨k + 1, k + 1, m ++ [n], by omega, by go_num, by go_num, .inl ⟨by omega, D.out⟩, by rw [ints_append]; exact hO', hbel.trans hbel'⟩
            case measure => simp [intOf]; omega
        · have D := Lib.hid (hN.next hkl hx)
          have hbn : (l.getD k 0).toNat ≠ 32 := fun e => hx (by rw [← UInt8.ofNat_toNat (x := l.getD k 0), e]; rfl)
          generalize (l.getD k 0).toNat = t at *
          have hbi : (((t : Nat) : Int) == 32) = false := by rw [beq_eq_false_iff_ne]; omega
          clear hbn hN hk hle hx he
          go_wp2_with fail
          go_roundw
          case rel => exact ⟨k + 1, f, m, by omega, by go_num, rfl, .inl ⟨by omega, D.out⟩, hO, hbel⟩
          case measure => simp [intOf]; omega
    · have hkI : ¬ (k : Int) ≤ (l.length : Int) := by omega
      have hQ : nums l = some m := by
        rcases hR with ⟨h, -⟩ | ⟨-, h⟩
        · omega
        · exact h
      obtain ⟨q1, q2⟩ := HN1.out m hQ
      obtain ⟨a9, c9, rfl, hR9, hl9, hc9⟩ := hO.shape
      have HQ1 := Lib.hid q1
      have HQ2 := Lib.hid q2
      have hO2 : Owns w.heap.size wr (.slice a9 m.length c9) (ints m) := by rw [← hil]; exact hO
      clear hQ hR q1 q2 hk hle
      go_wp2_with fail
      go_ret2
      exact ⟨_, by rw [HQ1.out]; rfl, (fun _ => by rw [HQ2.out]; exact hO2), hbel⟩

end Go.Proofs.YtmgdcnibmifdeaaGreatDoor

/- Contracts of the draw of scripts, and of the laws' complete and lastLine. -/
set_option linter.unusedVariables false
namespace Go.Proofs.YtmgdcnibmifdeaaGreatDoor
open Go.RowKit Res

/-- A draw of a text out of a reader. -/
def DrewS (N r K : Nat) (w : World) (e : Ending) (w' : World) : Prop :=
  ∃ l : List UInt8, e = .returned (.string ⟨l.toArray⟩) ∧ l.length ≤ N ∧ Reader w' r K ∧ w.grownBy w' (some r)
theorem of_any (r K g c : Nat) (xs : List (List UInt8)) (N : Nat) (w : World) (hR : Reader w r K) (hK : K ≤ 900000) (h0 : 1 ≤ xs.length) (h1 : xs.length ≤ 1000) (hg : g ≠ r) (hgl : g < w.heap.size)
    (hc : ∀ j x, xs[j]? = some x → w.cell? ⟨g, j, none⟩ = some (.string ⟨x.toArray⟩)) (hN : ∀ x, x ∈ xs → x.length ≤ N) :
    Calls Tryz.prog 52 #[.pointer (some ⟨r, 0, none⟩), .slice (some ⟨g, 0, none⟩) xs.length c] w (DrewS N r (K + 1) w) := by
  have HC := Lib.hid hc
  have HNN := Lib.hid hN
  clear hc hN
  go_enter Tryz.func52, Tryz.ntmps52
  go_wp2_with fail
  refine (pick_any _ _ _ _ hR (by omega) (by omega) (by omega)).mono ?_
  rintro e w2 ⟨k, rfl, hk0, hk1, hR2, hg2, hz2⟩
  obtain ⟨k, rfl⟩ := Int.eq_ofNat_of_zero_le hk0
  have hkl : k < xs.length := by omega
  have hcell : w2.cell? ⟨g, k, none⟩ = some (.string ⟨xs[k].toArray⟩) := by
    exact hg2.cell (HC.out k xs[k] (List.getElem?_eq_getElem hkl)) (by simpa using hg)
  have hxl := HNN.out xs[k] (List.getElem_mem hkl)
  generalize xs[k] = x at *
  go_wp2_with fail
  go_ret
  exact ⟨x, rfl, hxl, hR2, hg2⟩

/-- The same, of a list that is written out. -/
theorem of_new (r K : Nat) (xs : List (List UInt8)) (N : Nat) (w : World) (hR : Reader w r K) (hK : K ≤ 900000) (h0 : 1 ≤ xs.length) (h1 : xs.length ≤ 1000) (hN : ∀ x, x ∈ xs → x.length ≤ N) :
    Calls Tryz.prog 52 #[.pointer (some ⟨r, 0, none⟩), .slice (some ⟨w.heap.size, 0, none⟩) xs.length xs.length] (w.alloc (.cells (xs.map fun x => Value.string ⟨x.toArray⟩).toArray 9)) (DrewS N r (K + 1) w) := by
  have hlt := hR.lt
  have hb := (Below.refl w.heap.size w).alloc (Nat.le_refl _) (.cells (xs.map fun x => Value.string ⟨x.toArray⟩).toArray 9)
  refine (of_any r K w.heap.size xs.length xs N _ (hR.kept hb) hK h0 h1 (by omega) (by simp) (fun j x hj => ?_) hN).mono ?_
  · rw [cell_of_row _ w.heap.size j _ _ _ (heap_alloc_new w _), List.getElem?_toArray, List.getElem?_map, hj]
    rfl
  · rintro e w' ⟨l, rfl, hl, hR', hg⟩
    exact ⟨l, rfl, hl, hR', grown_trans (grown_of_below hb _) hg⟩

theorem of_arr (r K n : Nat) (arr : Array Value) (xs : List (List UInt8)) (N : Nat) (w : World) (hR : Reader w r K) (hK : K ≤ 900000) (ha : arr = (xs.map fun x => Value.string ⟨x.toArray⟩).toArray) (hn : n = xs.length) (h0 : 1 ≤ xs.length) (h1 : xs.length ≤ 1000) (hN : ∀ x, x ∈ xs → x.length ≤ N) :
    Calls Tryz.prog 52 #[.pointer (some ⟨r, 0, none⟩), .slice (some ⟨w.heap.size, 0, none⟩) n n] (w.alloc (.cells arr 9)) (DrewS N r (K + 1) w) := by
  subst ha hn
  exact of_new r K xs N w hR hK h0 h1 hN

/-- What complete answers. -/
def CompV (w : World) (l : List UInt8) (e : Ending) (w' : World) : Prop := ∃ s : List UInt8, e = .returned (.string ⟨s.toArray⟩) ∧ CompS l s ∧ w = w'
theorem complete_any (l : List UInt8) (w : World) (hl : l.length ≤ 1000000) :
    Calls Tryz.prog 13 #[.string ⟨l.toArray⟩] w (CompV w l) := by
  have HB := Lib.hid (idx_l l)
  have HST := Lib.hid (BkS.start l)
  have HLN := Lib.hid hl
  have hlI : (l.length : Int) ≤ 1000000 := by omega
  have HSL := Lib.hid (fun j (hj : j ≤ l.length) w => slc_to l j hj w)
  clear hl
  go_enter Tryz.func13, Tryz.ntmps13
  go_wp2_with fail
  go_loop [3] (fun x => ∃ k : Nat, k ≤ l.length ∧ x = .int .i64 (k : Int) ∧ BkS l k) (fun x => (intOf x).toNat)
  case atStart => exact ⟨l.length, Nat.le_refl _, rfl, HST.out⟩
  case round =>
    obtain ⟨k, hk, rfl, hS⟩ := hrel
    by_cases h0 : 0 < k
    · obtain ⟨p, hp⟩ : ∃ p, k = p + 1 := ⟨k - 1, by omega⟩
      have hidx : (k : Int) - 1 = (p : Int) := by omega
      have h0i : (0 : Int) < (k : Int) := by omega
      have hpl : (p : Int) < (l.length : Int) := by omega
      have hb := fun w => HB.out p (by omega) w
      have hs := fun w => HSL.out k hk w
      have HP := Lib.hid hp
      clear h0 hp
      by_cases hx : l.getD p 0 = 10
      · have hbn : (l.getD p 0).toNat = 10 := by rw [hx]; rfl
        have HC : Hid (CompS l (l.take k)) := Lib.hid (by
          have h := HP.out
          subst h
          exact hS.hit hx)
        rw [hbn] at hb
        clear hbn hx
        go_wp2_with fail
        go_ret
        exact ⟨_, rfl, HC.out, rfl⟩
      · have HN : Hid (BkS l p) := Lib.hid (by
          have h := HP.out
          subst h
          exact hS.next hx)
        have hbn : (l.getD p 0).toNat ≠ 10 := fun e => hx (by rw [← UInt8.ofNat_toNat (x := l.getD p 0), e]; rfl)
        generalize (l.getD p 0).toNat = t at *
        have hbi : (((t : Nat) : Int) == 10) = false := by rw [beq_eq_false_iff_ne]; omega
        clear hbn hx
        go_wp2_with fail
        go_round
        case rel => exact ⟨p, by have := HP.out; omega, rfl, HN.out⟩
        case measure => simp [intOf]; have := HP.out; omega
    · have hk0 : k = 0 := by omega
      subst hk0
      have HC := Lib.hid hS.none
      clear h0
      go_wp2_with fail
      go_ret
      exact ⟨[], rfl, HC.out, rfl⟩
theorem lastLine_any (l a x : List UInt8) (w : World) (hl : l.length ≤ 100000000) (hL : LastS l a x) :
    Calls Tryz.prog 14 #[.string ⟨l.toArray⟩] w fun e w' => e = .returned (.string ⟨(x ++ [10]).toArray⟩) ∧ w = w' := by
  have HB := Lib.hid (idx_l l)
  have hlI : (l.length : Int) ≤ 100000000 := by omega
  have HSF := Lib.hid (fun j (hj : j ≤ l.length) w => slc_from l j hj w)
  have hlen := hL.length
  have hlJ : (a.length : Int) + 1 ≤ (l.length : Int) := by omega
  have HSK := Lib.hid (fun j => @LastS.skip l a x hL j)
  have HAT := Lib.hid hL.at'
  have HDR := Lib.hid hL.drop
  have HEQ : Hid (a.length = 0 → l = x ++ [10]) := Lib.hid (fun h => by
    have h2 := hL.drop
    rw [h, List.drop_zero] at h2
    exact h2)
  have HLEN := Lib.hid hlen
  clear hl hlen hL
  go_enter Tryz.func14, Tryz.ntmps14
  go_wp2_with fail
  go_loop [3] (fun y => ∃ i : Int, y = .int .i64 i ∧ (a.length : Int) ≤ i + 1 ∧ i + 2 ≤ (l.length : Int)) (fun y => (intOf y + 1).toNat)
  case atStart => exact ⟨_, rfl, by omega, by omega⟩
  case round =>
    obtain ⟨i, rfl, hi1, hi2⟩ := hrel
    by_cases h0 : 0 ≤ i
    · obtain ⟨p, rfl⟩ := Int.eq_ofNat_of_zero_le h0
      have hpl : (p : Int) < (l.length : Int) := by omega
      have hb := fun w => HB.out p (by omega) w
      by_cases hx : p + 1 = a.length
      · have h10 : l.getD p 0 = 10 := by
          have h := HAT.out (by omega)
          rw [← hx] at h
          exact h
        have hbn : (l.getD p 0).toNat = 10 := by rw [h10]; rfl
        rw [hbn] at hb
        have hs := fun w => HSF.out (p + 1) (by omega) w
        rw [hx, HDR.out, ← hx] at hs
        have e1 : ((p + 1 : Nat) : Int) = (p : Int) + 1 := by omega
        rw [e1] at hs
        clear hbn h10 hx e1 h0 hi1 hi2
        go_wp2_with fail
        go_ret
        exact ⟨rfl, rfl⟩
      · have hne : l.getD p 0 ≠ 10 := HSK.out p (by omega) (by have := HLEN.out; omega)
        have hbn : (l.getD p 0).toNat ≠ 10 := fun e => hne (by rw [← UInt8.ofNat_toNat (x := l.getD p 0), e]; rfl)
        generalize (l.getD p 0).toNat = t at *
        have hbi : (((t : Nat) : Int) == 10) = false := by rw [beq_eq_false_iff_ne]; omega
        have hq1 : (a.length : Int) ≤ (p : Int) := by omega
        clear hbn hne hx hi1
        go_wp2_with fail
        go_round
        case rel => exact ⟨_, rfl, by omega, by omega⟩
        case measure => first | (simp [intOf]; done) | (simp [intOf]; omega)
    · have hz : a.length = 0 := by omega
      have HQ := Lib.hid (HEQ.out hz)
      clear hz
      go_wp2_with fail
      go_ret
      exact ⟨by rw [← HQ.out]; rfl, rfl⟩

theorem l6Many_any (w : World) :
    Calls Tryz.prog 30 #[.string ⟨#[115, 104, 111, 119, 10]⟩, .int .i64 130] w fun e w' => (∃ m : List UInt8, e = .returned (.string ⟨m.toArray⟩) ∧ m.length ≤ 650) ∧ w = w' := by
  have h0 : (⟨#[115, 104, 111, 119, 10]⟩ : ByteArray) = ⟨([115, 104, 111, 119, 10] : List UInt8).toArray⟩ := rfl
  go_enter Tryz.func30, Tryz.ntmps30
  go_wp2_with fail
  go_loop [0, 1, 5] (fun s x o => ∃ (n : Nat) (t u : List UInt8), s = .string ⟨t.toArray⟩ ∧ x = .int .i64 (n : Int) ∧ o = .string ⟨u.toArray⟩ ∧ n ≤ 130 ∧ u.length + t.length * n ≤ 650) (fun _ x _ => (intOf x).toNat)
  case atStart => exact ⟨130, [115, 104, 111, 119, 10], [], rfl, rfl, rfl, by omega, by simp⟩
  case round =>
    obtain ⟨n, t, u, rfl, rfl, rfl, hn, hb⟩ := hrel
    have HB := Lib.hid hb
    by_cases h0 : 0 < n
    · have h0i : (0 : Int) < (n : Int) := by omega
      have htl : t.length ≤ 650 := Nat.le_trans (Nat.le_mul_of_pos_right _ h0) (Nat.le_trans (Nat.le_add_left _ _) hb)
      have hul : u.length ≤ 650 := Nat.le_trans (Nat.le_add_right _ _) hb
      have hd1 : (n : Int).tdiv 2 = ((n / 2 : Nat) : Int) := by rw [Int.tdiv_eq_ediv_of_nonneg (by omega)]; omega
      have hd2 : (n : Int) / 2 = ((n / 2 : Nat) : Int) := by omega
      have HQ : Hid (n / 2 ≤ 130 ∧ n / 2 < n) := Lib.hid (by omega)
      obtain ⟨q, hq⟩ : ∃ q, q = n / 2 := ⟨_, rfl⟩
      by_cases h1 : n % 2 = 1
      · have hm1 : (n : Int).tmod 2 = 1 := by rw [Int.tmod_eq_emod_of_nonneg (by omega)]; omega
        have hm2 : (n : Int) % 2 = 1 := by omega
        have HX : Hid ((u ++ t).length + (t ++ t).length * q ≤ 650) := Lib.hid (by
          have e : n = 2 * q + 1 := by omega
          rw [e, Nat.mul_add, Nat.mul_one, ← Nat.mul_assoc] at hb
          rw [List.length_append, List.length_append, ← Nat.two_mul, Nat.mul_comm 2 t.length]
          omega)
        rw [← hq] at hd1 hd2 HQ
        clear h0 hb h1 hq
        go_wp2_with fail
        go_round
        case rel => exact ⟨q, t ++ t, u ++ t, congrArg _ (str_app t t), rfl, congrArg _ (str_app u t), HQ.out.1, HX.out⟩
        case measure => simp [intOf]; exact HQ.out.2
      · have hm1 : (n : Int).tmod 2 = 0 := by rw [Int.tmod_eq_emod_of_nonneg (by omega)]; omega
        have hm2 : (n : Int) % 2 = 0 := by omega
        have HX : Hid (u.length + (t ++ t).length * q ≤ 650) := Lib.hid (by
          have e : n = 2 * q := by omega
          rw [e, ← Nat.mul_assoc] at hb
          rw [List.length_append, ← Nat.two_mul, Nat.mul_comm 2 t.length]
          exact hb)
        rw [← hq] at hd1 hd2 HQ
        clear h0 hb h1 hq
        go_wp2_with fail
        go_round
        case rel => exact ⟨q, t ++ t, u, congrArg _ (str_app t t), rfl, rfl, HQ.out.1, HX.out⟩
        case measure => simp [intOf]; exact HQ.out.2
    · have h0i : ¬ (0 : Int) < (n : Int) := by omega
      have hul : u.length ≤ 650 := Nat.le_trans (Nat.le_add_right _ _) hb
      clear h0 hb
      go_wp2_with fail
      go_ret
      exact ⟨⟨u, rfl, hul⟩, rfl⟩

set_option maxRecDepth 100000 in
theorem l92Line_any (r K : Nat) (w : World) (hR : Reader w r K) (hK : K ≤ 800000) :
    Calls Tryz.prog 29 #[.pointer (some ⟨r, 0, none⟩)] w (DrewS 40 r (K + 3) w) := by
  go_enter Tryz.func29, Tryz.ntmps29
  go_wp2_with fail
  refine (pick_any _ _ _ _ hR (by omega) (by omega) (by omega)).mono ?_
  rintro e w1 ⟨k1, rfl, hk10, hk11, hR1, hg1, hz1⟩
  clear hz1
  by_cases h0 : k1 = 0
  · subst h0
    go_wp2_with fail
    refine (of_arr _ _ _ _ [[115, 101, 116, 32], [97, 100, 100, 32]] 4 _ hR1 (by omega) (by simp only [List.map_cons, List.map_nil]) rfl (by decide) (by decide) (by decide)).mono ?_
    rintro e w2 ⟨m2, rfl, hm2, hR2, hg2⟩
    go_wp2_with fail
    refine (of_arr _ _ _ _ [[49, 53], [50, 53, 53], [49], [49, 54, 55, 55, 55, 50, 49, 53], [49, 54, 55, 55, 55, 50, 49, 54], [120], [49, 32, 50]] 8 _ hR2 (by omega) (by simp only [List.map_cons, List.map_nil]) rfl (by decide) (by decide) (by decide)).mono ?_
    rintro e w3 ⟨m3, rfl, hm3, hR3, hg3⟩
    go_wp2_with fail
    go_ret
    exact ⟨m2 ++ m3, congrArg (fun x => Ending.returned (.string x)) (str_app m2 m3), by simp; omega, hR3.mono (by omega), grown_trans (grown_trans hg1 hg2) hg3⟩
  have e0 : (k1 == 0) = false := by rw [beq_eq_false_iff_ne]; exact h0
  by_cases h1 : k1 = 1
  · subst h1
    go_wp2_with fail
    refine (of_arr _ _ _ _ [[115, 101, 116, 32], [97, 100, 100, 32]] 4 _ hR1 (by omega) (by simp only [List.map_cons, List.map_nil]) rfl (by decide) (by decide) (by decide)).mono ?_
    rintro e w2 ⟨m2, rfl, hm2, hR2, hg2⟩
    go_wp2_with fail
    refine (of_arr _ _ _ _ [[49, 53], [50, 53, 53], [49], [49, 54, 55, 55, 55, 50, 49, 53], [49, 54, 55, 55, 55, 50, 49, 54], [120], [49, 32, 50]] 8 _ hR2 (by omega) (by simp only [List.map_cons, List.map_nil]) rfl (by decide) (by decide) (by decide)).mono ?_
    rintro e w3 ⟨m3, rfl, hm3, hR3, hg3⟩
    go_wp2_with fail
    go_ret
    exact ⟨m2 ++ m3, congrArg (fun x => Ending.returned (.string x)) (str_app m2 m3), by simp; omega, hR3.mono (by omega), grown_trans (grown_trans hg1 hg2) hg3⟩
  have e1 : (k1 == 1) = false := by rw [beq_eq_false_iff_ne]; exact h1
  by_cases h2 : k1 = 2
  · subst h2
    go_wp2_with fail
    refine (of_arr _ _ _ _ [[48], [54, 53], [52, 48, 57, 53], [52, 48, 57, 54]] 27 _ hR1 (by omega) (by simp only [List.map_cons, List.map_nil]) rfl (by decide) (by decide) (by decide)).mono ?_
    rintro e w2 ⟨m2, rfl, hm2, hR2, hg2⟩
    go_wp2_with fail
    go_ret
    exact ⟨[99, 111, 100, 101, 32] ++ m2, congrArg (fun x => Ending.returned (.string x)) (str_app [99, 111, 100, 101, 32] m2), by simp; omega, hR2.mono (by omega), grown_trans hg1 hg2⟩
  have e2 : (k1 == 2) = false := by rw [beq_eq_false_iff_ne]; exact h2
  by_cases h3 : k1 = 3
  · subst h3
    go_wp2_with fail
    refine (of_arr _ _ _ _ [[48, 32, 49, 32, 50, 32, 51, 32, 52], [48, 32, 53, 32, 49, 48, 32, 49, 53, 32, 50, 48], [48, 32, 48, 32, 49, 32, 50, 32, 51], [49, 32, 50, 32, 51]] 27 _ hR1 (by omega) (by simp only [List.map_cons, List.map_nil]) rfl (by decide) (by decide) (by decide)).mono ?_
    rintro e w2 ⟨m2, rfl, hm2, hR2, hg2⟩
    go_wp2_with fail
    go_ret
    exact ⟨[111, 99, 116, 97, 100, 32] ++ m2, congrArg (fun x => Ending.returned (.string x)) (str_app [111, 99, 116, 97, 100, 32] m2), by simp; omega, hR2.mono (by omega), grown_trans hg1 hg2⟩
  have e3 : (k1 == 3) = false := by rw [beq_eq_false_iff_ne]; exact h3
  by_cases h4 : k1 = 4
  · subst h4
    go_wp2_with fail
    refine (of_arr _ _ _ _ [[48], [50, 50], [50, 51]] 27 _ hR1 (by omega) (by simp only [List.map_cons, List.map_nil]) rfl (by decide) (by decide) (by decide)).mono ?_
    rintro e w2 ⟨m2, rfl, hm2, hR2, hg2⟩
    go_wp2_with fail
    go_ret
    exact ⟨[108, 105, 110, 101, 32] ++ m2, congrArg (fun x => Ending.returned (.string x)) (str_app [108, 105, 110, 101, 32] m2), by simp; omega, hR2.mono (by omega), grown_trans hg1 hg2⟩
  have e4 : (k1 == 4) = false := by rw [beq_eq_false_iff_ne]; exact h4
  by_cases h5 : k1 = 5
  · subst h5
    go_wp2_with fail
    refine (of_arr _ _ _ _ [[120, 120, 46, 46, 46, 46, 47, 120, 120, 46, 46, 46, 46, 47, 120, 120, 46, 46, 46, 46, 47, 120, 120, 46, 46, 46, 46], [46, 46, 46, 46, 46, 46], [120, 46, 46, 46, 46, 46, 47, 46, 46, 46, 46, 46, 46, 47, 46, 46, 46, 46, 46, 46, 47, 46, 46, 46, 46, 46, 46]] 27 _ hR1 (by omega) (by simp only [List.map_cons, List.map_nil]) rfl (by decide) (by decide) (by decide)).mono ?_
    rintro e w2 ⟨m2, rfl, hm2, hR2, hg2⟩
    go_wp2_with fail
    go_ret
    exact ⟨[114, 101, 97, 100, 32] ++ m2, congrArg (fun x => Ending.returned (.string x)) (str_app [114, 101, 97, 100, 32] m2), by simp; omega, hR2.mono (by omega), grown_trans hg1 hg2⟩
  have e5 : (k1 == 5) = false := by rw [beq_eq_false_iff_ne]; exact h5
  by_cases h6 : k1 = 6
  · subst h6
    go_wp2_with fail
    refine (of_arr _ _ _ _ [[], [122, 122, 122], [115, 104, 111, 119, 32, 49], [115, 101, 116], [108, 105, 110, 101], [105, 110, 32], [109, 101, 110, 100, 32, 50]] 27 _ hR1 (by omega) (by simp only [List.map_cons, List.map_nil]) rfl (by decide) (by decide) (by decide)).mono ?_
    rintro e w2 ⟨m2, rfl, hm2, hR2, hg2⟩
    go_wp2_with fail
    go_ret
    exact ⟨m2, rfl, by omega, hR2.mono (by omega), grown_trans hg1 hg2⟩
  have e6 : (k1 == 6) = false := by rw [beq_eq_false_iff_ne]; exact h6
  go_wp2_with fail
  refine (of_arr _ _ _ _ [[115, 104, 111, 119], [112, 108, 97, 99, 101, 115], [119, 101, 105, 103, 104, 116], [115, 99, 111, 114, 101, 115], [105, 110], [109, 101, 110, 100], [110, 101, 97, 114], [115, 101, 120, 116, 101, 116], [109, 101, 101, 116]] 27 _ hR1 (by omega) (by simp only [List.map_cons, List.map_nil]) rfl (by decide) (by decide) (by decide)).mono ?_
  rintro e w2 ⟨m2, rfl, hm2, hR2, hg2⟩
  go_wp2_with fail
  go_ret
  exact ⟨m2, rfl, by omega, hR2.mono (by omega), grown_trans hg1 hg2⟩
/-- A draw of a text. -/
def DrewT (N : Nat) (w : World) (e : Ending) (w' : World) : Prop := ∃ l : List UInt8, e = .returned (.string ⟨l.toArray⟩) ∧ l.length ≤ N ∧ Below w.heap.size w w'
theorem DrawExecute_any (a : Option Addr) (cap : Nat) (l : List Int) (w : World) (hc : Code w a l cap) :
    Calls Tryz.prog 10 #[.slice a l.length cap] w (DrewT 1000 w) := by
  go_enter Tryz.func10, Tryz.ntmps10
  go_wp2_with fail
  refine (l6Open_any _ _ l _ hc.1 hc.2.1 hc.2.2.1 hc.2.2.2).mono ?_
  rintro e w1 ⟨rfl, hR1, hb1, hz1⟩
  go_wp2_with fail
  refine (pick_any _ _ _ _ hR1 (by omega) (by omega) (by omega)).mono ?_
  rintro e w2 ⟨n2, rfl, hn2, hm2, hR2, hg2, hz2⟩
  have hb2 : Below w.heap.size w w2 := below_picked hb1 hg2 (by omega) (Nat.le_refl _)
  have HZ1 := Lib.hid hz1
  clear hz1
  go_wp2_with fail
  go_loopw [4, 6] (fun s x wr => ∃ (i : Nat) (t : List UInt8), (i : Int) ≤ n2 ∧ x = .int .i64 (i : Int) ∧ s = .string ⟨t.toArray⟩ ∧ t.length ≤ 41 * i ∧ Reader wr w.heap.size (0 + 1 + 3 * i) ∧ Below w.heap.size w wr)
    (fun _ x _ => (8 - (intOf x).toNat))
  case atStart => exact ⟨0, [], by omega, rfl, rfl, by simp, hR2, hb2⟩
  case round =>
    obtain ⟨i, t, hi, rfl, rfl, htl, hRi, hbi⟩ := hrel
    have ht3 : t.length ≤ 287 := by omega
    by_cases hlt : (i : Int) < n2
    · go_wp2_with fail
      refine (l92Line_any _ _ _ hRi (by omega)).mono ?_
      rintro e w4 ⟨m, rfl, hml, hR4, hg4⟩
      go_wp2_with fail
      go_roundw
      case rel => exact ⟨i + 1, t ++ m ++ [10], by omega, by go_num, congrArg _ ((congrArg (· ++ (⟨#[10]⟩ : ByteArray)) (str_app t m)).trans (str_app (t ++ m) [10])), by simp; omega, hR4, below_picked hbi hg4 hbi.size (Nat.le_refl _)⟩
      case measure => simp [intOf]; omega
    · go_wp2_with fail
      refine (pick_any _ _ _ _ hRi (by omega) (by omega) (by omega)).mono ?_
      rintro e w4 ⟨k4, rfl, hk40, hk41, hR4, hg4, hz4⟩
      have hb4 := below_picked hbi hg4 hbi.size (Nat.le_refl _)
      by_cases h0 : k4 = 0
      · subst h0
        go_wp2_with fail
        go_ret
        exact ⟨t ++ [115, 104, 111, 119], congrArg (fun x => Ending.returned (.string x)) (str_app t [115, 104, 111, 119]), by simp; omega, hb4⟩
      by_cases h1 : k4 = 1
      · subst h1
        go_wp2_with fail
        refine (l6Many_any _).mono ?_
        rintro e w5 ⟨⟨m, rfl, hml⟩, rfl⟩
        go_wp2_with fail
        go_ret
        exact ⟨t ++ m, congrArg (fun x => Ending.returned (.string x)) (str_app t m), by simp; omega, hb4⟩
      have e0 : (k4 == 0) = false := by rw [beq_eq_false_iff_ne]; exact h0
      have e1 : (k4 == 1) = false := by rw [beq_eq_false_iff_ne]; exact h1
      go_wp2_with fail
      go_ret
      exact ⟨t, rfl, by omega, hb4⟩

end Go.Proofs.YtmgdcnibmifdeaaGreatDoor

/- Contracts of the reference's SextetOf, OctadMeet, WordRead, WordAdd. -/
set_option linter.unusedVariables false
namespace Go.Proofs.YtmgdcnibmifdeaaGreatDoor
open Go.RowKit Res

theorem specSextetOf_no (n : Nat) (w : World) (hn : n < 16777216) (h : wt n ≠ 4) :
    Calls Tryz.prog 104 #[.int .i64 (n : Int)] w fun e w' => ∃ a c, e = .returned (.tuple #[.slice a 0 c, .bool false]) ∧ Below w.heap.size w w' := by
  have hin : inB (n : Int) 0 16777215 = true := inB_true (by omega) (by omega)
  have CW := Lib.hid (fun w => l1Weight_any (n : Int) w (by omega) (by omega))
  rw [Int.toNat_natCast] at CW
  have hb : (((wt n : Nat) : Int) != 4) = true := by rw [bne_iff_ne]; omega
  generalize wt n = t at *
  clear h hn
  go_enter Tryz.func104, Tryz.ntmps104
  go_wp2_with fail
  refine (specWordValid_any _ _).mono ?_
  rintro e w' ⟨rfl, rfl⟩
  go_wp2_with fail
  refine (CW.out _).mono ?_
  rintro e w' ⟨rfl, rfl⟩
  go_wp2_with fail
  go_ret2
  exact ⟨_, _, rfl, (Below.refl _ _).alloc (Nat.le_refl _) _⟩
theorem specSextetOf_ok (n : Nat) (w : World) (hn : n < 16777216) (h : wt n = 4) :
    Calls Tryz.prog 104 #[.int .i64 (n : Int)] w fun e w' => ∃ a c, e = .returned (.tuple #[.slice a (sxL n).length c, .bool true]) ∧ Reads .i64 w' a (sxL n) ∧ Below w.heap.size w w' := by
  have hin : inB (n : Int) 0 16777215 = true := inB_true (by omega) (by omega)
  have CW := Lib.hid (fun w => l1Weight_any (n : Int) w (by omega) (by omega))
  rw [Int.toNat_natCast, h] at CW
  have CL := Lib.hid (fun w => l4With_any (n : Int) w (by omega) (by omega))
  rw [Int.toNat_natCast] at CL
  have hb1 : Below w.heap.size w (w.alloc (.cells #[.int .i64 (n : Int)] 3)) := (Below.refl _ _).alloc (Nat.le_refl _) _
  have hO0 : Owns w.heap.size (w.alloc (.cells #[.int .i64 (n : Int)] 3)) (.slice (some ⟨w.heap.size, 0, none⟩) 1 1) [(n : Int)] := Owns.lit w [(n : Int)] (Nat.le_refl _) (by simp)
  have hsz1 : (w.alloc (.cells #[.int .i64 (n : Int)] 3)).heap.size = w.heap.size + 1 := by simp
  have HG := Lib.hid (fun i (h : i < (wi n).length) => wi_get h)
  have HSU := Lib.hid (sxTo_succ n (wi n))
  have HE : Hid (sxL n = srt (sxTo n (wi n) (wi n).length)) := Lib.hid rfl
  have HLn := Lib.hid (sxTo_length n (wi n))
  have HZ : Hid (sxTo n (wi n) 0 = [(n : Int)]) := Lib.hid rfl
  have hwl := wi_length_le n
  generalize sxL n = SX at *
  generalize sxTo n (wi n) = ST at *
  clear h
  go_enter Tryz.func104, Tryz.ntmps104
  go_wp2_with fail
  refine (specWordValid_any _ _).mono ?_
  rintro e w' ⟨rfl, rfl⟩
  go_wp2_with fail
  refine (CW.out _).mono ?_
  rintro e w' ⟨rfl, rfl⟩
  go_wp2_with fail
  refine (CL.out _).mono ?_
  rintro e w2 ⟨v2, rfl, hO2, hs2⟩
  have hOo := hO0.kept hs2
  have hb2 := hb1.trans (hs2.mono hb1.size)
  generalize wi n = S at *
  obtain ⟨a2, c2, rfl, hR2, hl2, hc2⟩ := hO2.shape
  rw [hsz1] at hO2
  have HO2 := Lib.hid hO2
  clear hO2 hR2 hsz1
  go_wp2_with fail
  go_loopw [4, 6] (fun v x wr => ∃ k : Nat, k ≤ S.length ∧ x = .int .i64 (k : Int) ∧ (∃ g c, v = .slice (some ⟨g, 0, none⟩) (ST k).length c ∧ Owns w.heap.size wr (.slice (some ⟨g, 0, none⟩) (ST k).length c) (ST k) ∧
      (Value.slice a2 S.length c2).ownBlock ≠ some g) ∧ Owns (w.heap.size + 1) wr (.slice a2 S.length c2) S ∧ Below w.heap.size w wr)
    (fun _ x _ => (S.length - (intOf x).toNat))
  case atStart =>
    refine ⟨0, by omega, rfl, ⟨_, _, by rw [HZ.out]; rfl, by rw [HZ.out]; exact hOo, fun hj => ?_⟩, HO2.out, hb2⟩
    have := (HO2.out.lt _ hj).1
    omega
  case round =>
    obtain ⟨k, hk, rfl, ⟨gv, cv, rfl, hO, hne⟩, hOS, hbel⟩ := hrel
    have hlen := HLn.out k
    have hsz := hbel.size
    by_cases hlt : k < S.length
    · have hki : (k : Int) < (S.length : Int) := by omega
      obtain ⟨b, off, ha, hb, hc⟩ := hOS.reads.1 k hlt
      obtain ⟨o, ho, hoc, how⟩ := HG.out k hlt
      have D := Lib.hid (HSU.out k)
      rw [ho] at hc D
      rw [Int.toNat_natCast] at D
      have hol := hoc.1
      have hx : bits .xor .i64 (o : Int) (n : Int) = ((o ^^^ n : Nat) : Int) := i64_xor _ _ (by omega) (by omega)
      have HOS := Lib.hid hOS
      have HNE := Lib.hid hne
      clear hOS hne how hoc ho
      subst ha
      generalize o ^^^ n = z at *
      go_wp2_with (first | (at_builtin; refine wpList_app2 rfl _ _ rfl w.heap.size _ rfl hO rfl (by omega) (by omega) ?_; intro v' w' hO' hg' hat'))
      go_roundw
      case rel =>
        obtain ⟨g', c', hv', hB', -⟩ := hO'.head (by simp)
        subst hv'
        rw [← D.out] at hO'
        refine ⟨k + 1, by omega, by go_num, ⟨g', c', by rw [D.out], by rw [D.out] at hO' ⊢; exact hO', fun hj => ?_⟩, HOS.out.grown hg' (fun j hj e => HNE.out (hj.trans (by rw [e]; rfl))), hbel.grown hg' hsz (fun q hq => (hO.lt q hq).1)⟩
        rcases hat' with h | h
        · have e : some g' = some gv := h
          exact HNE.out (hj.trans e)
        · have hlt2 := (HOS.out.lt _ hj).2
          have e : some g' = some (wr.heap.size + 1) := h
          simp at e
          omega
      case measure => simp [intOf]; omega
    · obtain hkl : k = S.length := by omega
      have hEk : SX = srt (ST k) := by rw [hkl]; exact HE.out
      obtain ⟨a3, c3, hv3, hR3, hl3, hc3⟩ := hO.shape
      simp only [Value.slice.injEq] at hv3
      obtain ⟨rfl, -, rfl⟩ := hv3
      have CS := Lib.hid (l4Sort_any (ST k).length (some ⟨gv, 0, none⟩) cv (ST k) wr rfl (by omega) hl3 hc3 hR3)
      rw [← hEk] at CS
      have hsl : SX.length = (ST k).length := by rw [hEk]; exact srt_length _
      have hkS : (S.length : Int) ≤ (k : Int) := by omega
      have HSL := Lib.hid hsl
      clear hk hlt hlen HE HSU HLn HZ HG hEk hkl hwl hsl hO hR3
      generalize ST k = T at *
      generalize T.length = N at *
      go_wp2_with fail
      refine CS.out.mono ?_
      rintro e w3 ⟨a4, c4, rfl, hR4, -, -, hl4, hc4, hs4⟩
      go_wp2_with fail
      go_ret2
      exact ⟨a4, c4, by rw [HSL.out]; rfl, hR4, hbel.trans (hs4.mono hsz)⟩

theorem specOctadMeet_no (n : Nat) (w : World) (h : octB (n : Int) = false) :
    Calls Tryz.prog 105 #[.int .i64 (n : Int)] w fun e w' => ∃ a c, e = .returned (.tuple #[.slice a 0 c, .bool false]) ∧ Below w.heap.size w w' := by
  have hb0 := Below.refl w.heap.size w
  have CT := Lib.hid (fun w => specOctadIn_any (n : Int) w)
  rw [h] at CT
  clear h
  go_enter Tryz.func105, Tryz.ntmps105
  go_wp2_with (first | (at_builtin; fail) | (refine wpList_mk rfl _ _ rfl w.heap.size 9 rfl rfl rfl rfl (by omega) (Nat.le_refl _) ?_; intro w1 hO1 hb1 hlt1))
  go_wp2_with fail
  refine (CT.out _).mono ?_
  rintro e w2 ⟨rfl, hs2⟩
  have hb2 := hb1.trans (hs2.mono hb1.size)
  go_wp2_with fail
  go_ret2
  exact ⟨_, _, rfl, hb2.alloc hb2.size _⟩
theorem specOctadMeet_ok (n : Nat) (w : World) (hn : n < 16777216) (h : octB (n : Int) = true) :
    Calls Tryz.prog 105 #[.int .i64 (n : Int)] w fun e w' => ∃ v, e = .returned (.tuple #[v, .bool true]) ∧ Owns w.heap.size w' v (omL n) ∧ Below w.heap.size w w' := by
  have hb0 := Below.refl w.heap.size w
  have CT := Lib.hid (fun w => specOctadIn_any (n : Int) w)
  rw [h] at CT
  clear h
  have CO := Lib.hid (fun w => l4All_any w)
  have HG := Lib.hid (fun i (h : i < ocs.length) => ocs_get h)
  have HWl := Lib.hid (fun i (h : i < ocs.length) => oct_meet_le n h)
  have HS : Hid (∀ k, omTo ocs n (k + 1) = (omTo ocs n k).set (wt ((ocs.getD k 0).toNat &&& n)) ((omTo ocs n k).getD (wt ((ocs.getD k 0).toNat &&& n)) 0 + 1)) := Lib.hid (fun k => rfl)
  have HL := Lib.hid (omTo_length ocs n)
  have HB := Lib.hid (omTo_bd ocs n)
  have HE : Hid (omL n = omTo ocs n ocs.length) := Lib.hid rfl
  have HZ : Hid (omTo ocs n 0 = List.replicate 9 0) := Lib.hid rfl
  have hol := ocs_length
  generalize omL n = OM at *
  generalize omTo ocs n = OT at *
  go_enter Tryz.func105, Tryz.ntmps105
  go_wp2_with (first | (at_builtin; fail) | (refine wpList_mk rfl _ _ rfl w.heap.size 9 rfl rfl rfl rfl (by omega) (Nat.le_refl _) ?_; intro w1 hO1 hb1 hlt1))
  go_wp2_with fail
  refine (CT.out _).mono ?_
  rintro e w2 ⟨rfl, hs2⟩
  have hb2 := hb1.trans (hs2.mono hb1.size)
  have hO12 := hO1.kept hs2
  go_wp2_with fail
  refine (CO.out _).mono ?_
  rintro e w3 ⟨v3, rfl, hO3, hs3⟩
  have hb3 := hb2.trans (hs3.mono hb2.size)
  have hO13 := hO12.kept hs3
  generalize ocs = S at *
  obtain ⟨a3, c3, rfl, hR3, hl3, hc3⟩ := hO3.shape
  have HO3 := Lib.hid hO3
  have hlt2 : w.heap.size < w2.heap.size := Nat.lt_of_lt_of_le hlt1 hs2.size
  clear hO3 hR3
  go_wp2_with fail
  go_loopw [6] (fun x wr => ∃ k : Nat, k ≤ S.length ∧ x = .int .i64 (k : Int) ∧ Owns w.heap.size wr (.slice (some ⟨w.heap.size, 0, none⟩) 9 9) (OT k) ∧ Owns w2.heap.size wr (.slice a3 S.length c3) S ∧ Below w.heap.size w wr)
    (fun x _ => (S.length - (intOf x).toNat))
  case atStart => exact ⟨0, by omega, rfl, by rw [HZ.out]; exact hO13, HO3.out, hb3⟩
  case round =>
    obtain ⟨k, hk, rfl, hO, hOS, hbel⟩ := hrel
    have hsz := hbel.size
    by_cases hlt : k < S.length
    · have hki : (k : Int) < (S.length : Int) := by omega
      obtain ⟨b, off, ha, hb, hc⟩ := hOS.reads.1 k hlt
      obtain ⟨g0, g1⟩ := HG.out k hlt
      have hw8 := HWl.out k hlt
      have D := Lib.hid (HS.out k)
      have HOS := Lib.hid hOS
      clear hOS
      subst ha
      generalize S.getD k 0 = y at *
      obtain ⟨y, rfl⟩ := Int.eq_ofNat_of_zero_le g0
      rw [Int.toNat_natCast] at D hw8
      have hand : bits .and .i64 (y : Int) (n : Int) = ((y &&& n : Nat) : Int) := i64_and y n (by omega) (by omega)
      have hal : y &&& n ≤ y := Nat.and_le_left
      have CW := Lib.hid (fun w => l1Weight_any ((y &&& n : Nat) : Int) w (by omega) (by omega))
      rw [Int.toNat_natCast] at CW
      generalize wt (y &&& n) = j at *
      generalize y &&& n = z at *
      have hj9 : (j : Int) < 9 := by omega
      obtain ⟨hcell, hfz⟩ := hO.at j (by rw [HL.out]; omega)
      obtain ⟨b0, b1⟩ := HB.out k j
      have hstore := hO.store j ((OT k).getD j 0 + 1)
      obtain ⟨hO', hg'⟩ := hstore
      generalize (OT k).getD j 0 = q at *
      have hw1 : IntKind.i64.wrap (q + 1) = q + 1 := IntWalk.i64_in _ (by omega)
      go_wp2_with fail
      go_wp2_with fail
      refine (CW.out _).mono ?_
      rintro e w' ⟨rfl, rfl⟩
      go_wp2_with fail
      go_roundw
      case rel =>
        refine ⟨k + 1, by omega, by go_num, by rw [D.out]; exact hO', HOS.out.grown hg' (fun j hj e => ?_), hbel.grown hg' hsz (fun q hq => by simp at hq; omega)⟩
        have h1 := (HOS.out.lt j hj).1
        simp at e
        omega
      case measure => simp [intOf]; omega
    · obtain rfl : k = S.length := by omega
      rw [← HE.out] at hO
      have hki : ¬ (S.length : Int) < (S.length : Int) := by omega
      go_wp2
      go_ret2
      exact ⟨_, rfl, hO, hbel⟩

theorem l1Both_ok (a b c : Int) (w : World) (ha : inB a 0 16777215 = true) (hb : inB b 0 16777215 = true) :
    Calls Tryz.prog 153 #[.int .i64 a, .int .i64 b, .int .i64 c] w fun e w' => e = .returned (.tuple #[.int .i64 c, .bool true]) ∧ w = w' := by
  have C1 := Lib.hid (fun w => specWordValid_any a w)
  have C2 := Lib.hid (fun w => specWordValid_any b w)
  rw [ha] at C1
  rw [hb] at C2
  clear ha hb
  go_enter Tryz.func153, Tryz.ntmps153
  go_wp2_with fail
  refine (C1.out _).mono ?_
  rintro e w' ⟨rfl, rfl⟩
  go_wp2_with fail
  refine (C2.out _).mono ?_
  rintro e w' ⟨rfl, rfl⟩
  go_wp2_with fail
  go_ret2
  exact ⟨rfl, rfl⟩
theorem l1Both_no (a b c : Int) (w : World) (ha : inB a 0 16777215 = true) (hb : inB b 0 16777215 = false) :
    Calls Tryz.prog 153 #[.int .i64 a, .int .i64 b, .int .i64 c] w fun e w' => e = .returned (.tuple #[.int .i64 0, .bool false]) ∧ w = w' := by
  have C1 := Lib.hid (fun w => specWordValid_any a w)
  have C2 := Lib.hid (fun w => specWordValid_any b w)
  rw [ha] at C1
  rw [hb] at C2
  clear ha hb
  go_enter Tryz.func153, Tryz.ntmps153
  go_wp2_with fail
  refine (C1.out _).mono ?_
  rintro e w' ⟨rfl, rfl⟩
  go_wp2_with fail
  refine (C2.out _).mono ?_
  rintro e w' ⟨rfl, rfl⟩
  go_wp2_with fail
  go_ret2
  exact ⟨rfl, rfl⟩
theorem specWordAdd_ok (n m : Nat) (w : World) (hn : n < 16777216) (hm : m < 16777216) :
    Calls Tryz.prog 110 #[.int .i64 (n : Int), .int .i64 (m : Int)] w fun e w' => e = .returned (.tuple #[.int .i64 ((n ^^^ m : Nat) : Int), .bool true]) ∧ w = w' := by
  have hx : bits .xor .i64 (n : Int) (m : Int) = ((n ^^^ m : Nat) : Int) := i64_xor _ _ (by omega) (by omega)
  have C := Lib.hid (fun c w => l1Both_ok (n : Int) (m : Int) c w (inB_true (by omega) (by omega)) (inB_true (by omega) (by omega)))
  generalize n ^^^ m = z at *
  clear hn hm
  go_enter Tryz.func110, Tryz.ntmps110
  go_wp2_with fail
  refine (C.out _ _).mono ?_
  rintro e w' ⟨rfl, rfl⟩
  go_wp2_with fail
  go_ret2
  exact ⟨rfl, rfl⟩
theorem specWordAdd_no (n : Nat) (m : Int) (w : World) (hn : n < 16777216) (hm : inB m 0 16777215 = false) :
    Calls Tryz.prog 110 #[.int .i64 (n : Int), .int .i64 m] w fun e w' => e = .returned (.tuple #[.int .i64 0, .bool false]) ∧ w = w' := by
  have C := Lib.hid (fun c w => l1Both_no (n : Int) m c w (inB_true (by omega) (by omega)) hm)
  clear hm
  go_enter Tryz.func110, Tryz.ntmps110
  go_wp2_with fail
  refine (C.out _ _).mono ?_
  rintro e w' ⟨rfl, rfl⟩
  go_wp2_with fail
  go_ret2
  exact ⟨rfl, rfl⟩

theorem good_zero (l : List UInt8) : goodTo l 0 := fun i h => by omega
theorem good_next {l : List UInt8} {k : Nat} (h : goodTo l k) (hk : if k % 7 = 6 then l.getD k 0 = 47 else l.getD k 0 = 120 ∨ l.getD k 0 = 46) : goodTo l (k + 1) := fun i hi => by
  by_cases e : i = k
  · rw [e]; exact hk
  · exact h i (by omega)
theorem good_bad {l : List UInt8} {k : Nat} (hk : k < 27) (h : ¬ (if k % 7 = 6 then l.getD k 0 = 47 else l.getD k 0 = 120 ∨ l.getD k 0 = 46)) : readV l = .tuple #[.int .i64 0, .bool false] := by
  unfold readV
  rw [read_bad (fun e => h (e.2 k hk))]
theorem good_all {l : List UInt8} (hl : l.length = 27) (h : goodTo l 27) : readV l = .tuple #[.int .i64 ((spTo l 27 : Nat) : Int), .bool true] := by
  unfold readV
  rw [read_good hl h]
theorem byte_ne {b : UInt8} {n : Nat} (hn : n < 256) : ((((b.toNat : Nat) : Int) == (n : Int)) = true ↔ b = UInt8.ofNat n) := by
  rw [beq_iff_eq]
  constructor
  · intro e
    have e2 : b.toNat = n := by omega
    rw [← e2, UInt8.ofNat_toNat]
  · intro e
    rw [e, UInt8.toNat_ofNat']
    omega
theorem byte_is {b : UInt8} {n : Nat} (hn : n < 256) (h : b = UInt8.ofNat n) : b.toNat = n := by
  rw [h, UInt8.toNat_ofNat']
  omega
theorem byte_not {b : UInt8} {n : Nat} (hn : n < 256) (h : b ≠ UInt8.ofNat n) : b.toNat ≠ n := fun e => h (by rw [← e, UInt8.ofNat_toNat])
theorem specWordRead_any (l : List UInt8) (w : World) (hl : l.length ≤ 100000) :
    Calls Tryz.prog 107 #[.string ⟨l.toArray⟩] w fun e w' => e = .returned (readV l) ∧ w = w' := by
  by_cases h27 : l.length = 27
  · have h27b : ((l.length : Int) != 27) = false := by rw [h27]; rfl
    have HB := Lib.hid (idx_l l)
    have HGB := Lib.hid (fun k (hk : k < 27) => @good_bad l k hk)
    have HGA := Lib.hid (good_all h27)
    have HGN := Lib.hid (fun k => @good_next l k)
    have HSL := Lib.hid (spTo_lt l)
    have HSF := Lib.hid (fun k (hk : k < 27) => spTo_fresh l hk)
    have HSH := Lib.hid (fun k => @spTo_hit l k)
    have HSM := Lib.hid (fun k => @spTo_miss l k)
    have HSZ : Hid (spTo l 0 = 0) := Lib.hid rfl
    have HG0 := Lib.hid (good_zero l)
    have HLN := Lib.hid h27
    generalize readV l = V at *
    generalize spTo l = ST at *
    clear h27 hl
    go_enter Tryz.func107, Tryz.ntmps107
    go_wp2_with fail
    go_loop [4, 5] (fun s x => ∃ k : Nat, k ≤ 27 ∧ x = .int .i64 (k : Int) ∧ s = .int .i64 ((ST k : Nat) : Int) ∧ goodTo l k) (fun _ x => (27 - (intOf x).toNat))
    case atStart => exact ⟨0, by omega, rfl, by rw [HSZ.out]; rfl, HG0.out⟩
    case round =>
      obtain ⟨k, hk, rfl, rfl, hG⟩ := hrel
      have hsl := HSL.out k hk
      have hsI : ((ST k : Nat) : Int) ≤ 16777215 := by omega
      by_cases hlt : k < 27
      · have hki : (k : Int) < 27 := by omega
        have hb := fun w => HB.out k (by have := HLN.out; omega) w
        have HBad := Lib.hid (HGB.out k hlt)
        have HNx := Lib.hid (fun h => HGN.out k hG h)
        have HF := Lib.hid (HSF.out k hlt)
        have HH := Lib.hid (HSH.out k)
        have HM := Lib.hid (HSM.out k)
        have hd1 : (k : Int).tdiv 7 = ((k / 7 : Nat) : Int) := by rw [Int.tdiv_eq_ediv_of_nonneg (by omega)]; omega
        have hd2 : (k : Int) / 7 = ((k / 7 : Nat) : Int) := by omega
        have hm1 : (k : Int).tmod 7 = ((k % 7 : Nat) : Int) := by rw [Int.tmod_eq_emod_of_nonneg (by omega)]; omega
        have hm2 : (k : Int) % 7 = ((k % 7 : Nat) : Int) := by omega
        have hr3 : k / 7 ≤ 3 := by omega
        have hc6 : k % 7 ≤ 6 := by omega
        generalize k % 7 = c at *
        generalize k / 7 = r at *
        generalize l.getD k 0 = b at *
        clear hG hsl
        by_cases h6 : c = 6
        · subst h6
          by_cases hx : b = 47
          · have hbn := byte_is (n := 47) (by omega) hx
            have D := Lib.hid (HNx.out (by rw [if_pos rfl]; exact hx))
            have E := Lib.hid (HM.out (fun e => by omega))
            rw [hbn] at hb
            clear hbn hx
            go_wp2_with fail
            go_round
            case rel => exact ⟨k + 1, by omega, by go_num, by rw [E.out], D.out⟩
            case measure => simp [intOf]; omega
          · have hbn := byte_not (n := 47) (by omega) hx
            have Q := Lib.hid (HBad.out (by rw [if_pos rfl]; exact hx))
            generalize b.toNat = t at *
            have hbI : (((t : Nat) : Int) != 47) = true := by rw [bne_iff_ne]; omega
            clear hbn hx
            go_wp2_with fail
            go_ret2
            exact ⟨by rw [Q.out]; rfl, rfl⟩
        · have h6I : ((c : Int) == 6) = false := by rw [beq_eq_false_iff_ne]; omega
          have h6J : (c : Int) < 6 := by omega
          by_cases hx : b = 120
          · have hbn := byte_is (n := 120) (by omega) hx
            have D := Lib.hid (HNx.out (by rw [if_neg h6]; exact .inl hx))
            have E := Lib.hid (HH.out ⟨by omega, hx⟩)
            have hor := (add_step (m := ST k) (k := 4 * c + r) (by omega) (by omega)).trans (congrArg (Nat.cast : Nat → Int) (add_bit (HF.out (by omega))))
            have HOR := Lib.hid hor
            rw [hbn] at hb
            clear hbn hx hor
            go_wp2_with fail
            go_round
            case rel => exact ⟨k + 1, by omega, by go_num, by rw [E.out]; exact congrArg _ HOR.out, D.out⟩
            case measure => simp [intOf]; omega
          · have hbn := byte_not (n := 120) (by omega) hx
            by_cases hy : b = 46
            · have hbm := byte_is (n := 46) (by omega) hy
              have D := Lib.hid (HNx.out (by rw [if_neg h6]; exact .inr hy))
              have E := Lib.hid (HM.out (fun e => hx e.2))
              rw [hbm] at hb
              clear hbn hx hy hbm
              go_wp2_with fail
              go_round
              case rel => exact ⟨k + 1, by omega, by go_num, by rw [E.out], D.out⟩
              case measure => simp [intOf]; omega
            · have hbm := byte_not (n := 46) (by omega) hy
              have Q := Lib.hid (HBad.out (by rw [if_neg h6]; exact fun e => e.elim hx hy))
              generalize b.toNat = t at *
              have hbI : (((t : Nat) : Int) == 120) = false := by rw [beq_eq_false_iff_ne]; omega
              have hbJ : (((t : Nat) : Int) != 46) = true := by rw [bne_iff_ne]; omega
              clear hbn hx hy hbm
              go_wp2_with fail
              go_ret2
              exact ⟨by rw [Q.out]; rfl, rfl⟩
      · obtain rfl : k = 27 := by omega
        have Q := Lib.hid (HGA.out hG)
        clear hlt hk hsl
        go_wp2_with fail
        go_ret2
        exact ⟨by rw [Q.out]; rfl, rfl⟩
  · have h27b : ((l.length : Int) != 27) = true := by rw [bne_iff_ne]; omega
    have HQ : Hid (readV l = .tuple #[.int .i64 0, .bool false]) := Lib.hid (by unfold readV; rw [read_bad (fun e => h27 e.1)])
    generalize readV l = V at *
    clear h27
    go_enter Tryz.func107, Tryz.ntmps107
    go_wp2_with fail
    go_ret2
    exact ⟨by rw [HQ.out]; rfl, rfl⟩

end Go.Proofs.YtmgdcnibmifdeaaGreatDoor

/- Contracts of the reference's l10Said, l10Bare. -/
set_option linter.unusedVariables false
namespace Go.Proofs.YtmgdcnibmifdeaaGreatDoor
open Go.RowKit Res

theorem join_snoc (xs : List (List UInt8)) (x : List UInt8) (c : UInt8) (h : xs ≠ []) : Go.Lib.join (xs ++ [x]) [c] = Go.Lib.join xs [c] ++ ([c] ++ x) := by
  unfold Go.Lib.join
  induction xs with
  | nil => exact absurd rfl h
  | cons y r ih =>
    cases r with
    | nil => simp [List.intercalate, List.intersperse]
    | cons z r =>
      have e : ∀ (q : List (List UInt8)), List.intercalate [c] (y :: z :: q) = y ++ [c] ++ List.intercalate [c] (z :: q) := fun q => by simp [List.intercalate, List.intersperse]
      have h1 := ih (by simp)
      rw [List.cons_append, List.cons_append, e, e]
      rw [List.cons_append] at h1
      rw [h1]
      simp only [List.append_assoc]
theorem joinT_succ {l : List Nat} {k : Nat} (hk : k < l.length) (h0 : 0 < k) : joinT (l.take (k + 1)) = joinT (l.take k) ++ [32] ++ dec (l.getD k 0) := by
  unfold joinT
  have e : l.getD k 0 = l[k] := by simp [List.getD, hk]
  rw [List.take_succ_eq_append_getElem hk, List.map_append, ← e]
  rw [show [l.getD k 0].map dec = [dec (l.getD k 0)] from rfl, join_snoc _ _ _ (by
    intro h
    have := congrArg List.length h
    rw [List.length_map, List.length_take, List.length_nil] at this
    omega), List.append_assoc]
theorem joinT_one {l : List Nat} (hk : 0 < l.length) : joinT (l.take 1) = dec (l.getD 0 0) := by
  cases l with
  | nil => simp at hk
  | cons x l => simp [joinT, Go.Lib.join, List.intercalate]
theorem joinT_take_len {l : List Nat} (hb : ∀ x, x ∈ l → x ≤ 100000000) (k : Nat) : (joinT (l.take k)).length ≤ 10 * l.length := by
  have h1 := joinT_len (l := l.take k) (fun x hx => hb x (List.mem_of_mem_take hx))
  have h2 : (l.take k).length ≤ l.length := by rw [List.length_take]; omega
  omega
/-- A line's answer. -/
def BareV (w : World) (T : List UInt8) (e : Ending) (w' : World) : Prop := e = .returned (.string ⟨(T ++ [10]).toArray⟩) ∧ Below w.heap.size w w'
theorem l10Said_no (v : Value) (w : World) :
    Calls Tryz.prog 100 #[v, .bool false] w fun e w' => e = .returned (.string ⟨(noB ++ [10]).toArray⟩) ∧ w = w' := by
  go_enter Tryz.func100, Tryz.ntmps100
  go_wp2_with fail
  go_ret
  exact ⟨rfl, rfl⟩
theorem l10Said_ok (a : Option Addr) (cap : Nat) (l : List Nat) (w : World) (hr : Reads .i64 w a (ints l)) (hl : l.length ≤ 5000) (hb : ∀ x, x ∈ l → x ≤ 100000000) :
    Calls Tryz.prog 100 #[.slice a l.length cap, .bool true] w (BareV w (joinT l)) := by
  have HJ : Hid (joinT (l.take l.length) = joinT l) := Lib.hid (by rw [List.take_length])
  have HJL := Lib.hid (joinT_take_len hb)
  have HJS := Lib.hid (fun k hk h0 => @joinT_succ l k hk h0)
  have HJ1 := Lib.hid (@joinT_one l)
  have HJ0 : Hid (joinT (l.take 0) = []) := Lib.hid rfl
  have HB : Hid (∀ k (h : k < l.length), l.getD k 0 ≤ 100000000) := Lib.hid (fun k h => hb _ (by simp [List.getD, h]))
  have HLN := Lib.hid hl
  have hlI : (l.length : Int) ≤ 5000 := by omega
  have hil := ints_length l
  obtain ⟨J, HJD⟩ : ∃ J : Nat → List UInt8, Hid (J = fun k => joinT (l.take k)) := ⟨_, Lib.hid rfl⟩
  have HJ : Hid (J l.length = joinT l) := Lib.hid (by rw [HJD.out]; exact HJ.out)
  have HJL : Hid (∀ k, (J k).length ≤ 10 * l.length) := Lib.hid (by rw [HJD.out]; exact HJL.out)
  have HJS : Hid (∀ k, k < l.length → 0 < k → J (k + 1) = J k ++ [32] ++ dec (l.getD k 0)) := Lib.hid (by rw [HJD.out]; exact HJS.out)
  have HJ1 : Hid (0 < l.length → J 1 = dec (l.getD 0 0)) := Lib.hid (by rw [HJD.out]; exact HJ1.out)
  have HJ0 : Hid (J 0 = []) := Lib.hid (by rw [HJD.out]; exact HJ0.out)
  clear hb hl HJD
  generalize joinT l = JT at *
  go_enter Tryz.func100, Tryz.ntmps100
  go_wp2_with fail
  go_loopw [5, 6] (fun s x wr => ∃ k : Nat, k ≤ l.length ∧ x = .int .i64 (k : Int) ∧ s = .string ⟨(J k).toArray⟩ ∧ Below w.heap.size w wr) (fun _ x _ => (l.length - (intOf x).toNat))
  case atStart => exact ⟨0, by omega, rfl, by rw [HJ0.out], Below.refl _ _⟩
  case round =>
    obtain ⟨k, hk, rfl, rfl, hbel⟩ := hrel
    have hsz := hbel.size
    have hjl := HJL.out k
    have hj5 : (J k).length ≤ 50000 := by have := HLN.out; omega
    clear hjl
    by_cases hlt : k < l.length
    · have hki : (k : Int) < (l.length : Int) := by omega
      obtain ⟨b, off, ha, hbb, hc⟩ := (hr.kept hbel) k (by rw [hil]; exact hlt)
      subst ha
      rw [ints_get] at hc
      have hv := HB.out k hlt
      have CI := Lib.hid (fun w => l6Dec_any (l.getD k 0) w hv)
      have hdl : (dec (l.getD k 0)).length ≤ 9 := dec_length 8 (by omega)
      have DS := Lib.hid (HJS.out k hlt)
      by_cases h0 : k = 0
      · subst h0
        have D := Lib.hid (HJ1.out (by omega))
        rw [Nat.add_zero] at hc
        clear DS hv
        generalize dec (l.getD 0 0) = dk at *
        generalize l.getD 0 0 = y at *
        go_wp2_with fail
        refine (CI.out _).mono ?_
        rintro e w2 ⟨rfl, hs2⟩
        go_wp2_with fail
        go_roundw
        case rel => exact ⟨1, by omega, by go_num, by rw [D.out]; exact congrArg _ ((str_app (J 0) dk).trans (by rw [HJ0.out]; rfl)), hbel.trans (hs2.mono hsz)⟩
        case measure => simp [intOf]; omega
      · have h0i : (0 : Int) < (k : Int) := by omega
        have D := Lib.hid (DS.out (by omega))
        clear DS hv h0
        generalize dec (l.getD k 0) = dk at *
        generalize l.getD k 0 = y at *
        go_wp2_with fail
        refine (CI.out _).mono ?_
        rintro e w2 ⟨rfl, hs2⟩
        go_wp2_with fail
        go_roundw
        case rel => exact ⟨k + 1, by omega, by go_num, by rw [D.out]; exact congrArg _ ((congrArg (· ++ (⟨dk.toArray⟩ : ByteArray)) (str_app (J k) [32])).trans (str_app (J k ++ [32]) dk)), hbel.trans (hs2.mono hsz)⟩
        case measure => simp [intOf]; omega
    · obtain rfl : k = l.length := by omega
      clear hlt hk
      go_wp2_with fail
      go_ret
      exact ⟨congrArg (fun x => Ending.returned (.string x)) ((str_app (J l.length) [10]).trans (by rw [HJ.out])), hbel⟩

theorem bare_show (n : Nat) (w : World) (hn : n < 16777216) :
    Calls Tryz.prog 69 #[.int .i64 (n : Int), .string ⟨cShow.toArray⟩] w (BareV w (wText n)) := by
  have HT := Lib.hid (fun w => specWordText_ok n w hn)
  have hl : (wText n).length ≤ 30 := by rw [wText_length]; omega
  generalize wText n = T at *
  clear hn
  unfold cShow
  go_enter Tryz.func69, Tryz.ntmps69
  go_wp2_with fail
  refine (HT.out _).mono ?_
  rintro e w' ⟨rfl, rfl⟩
  go_wp2_with fail
  go_ret
  exact ⟨congrArg (fun x => Ending.returned (.string x)) (str_app T [10]), Below.refl _ _⟩
theorem bare_places (n : Nat) (w : World) (hn : n < 16777216) :
    Calls Tryz.prog 69 #[.int .i64 (n : Int), .string ⟨cPlaces.toArray⟩] w (BareV w (joinT (places n))) := by
  have hb0 := Below.refl w.heap.size w
  have hbx : ∀ x, x ∈ places n → x ≤ 100000000 := fun x hx => by have := (places_mem.1 hx).1; omega
  have hbl : (places n).length ≤ 5000 := by rw [places_length]; have := wt_le n; omega
  have HT : Hid (∀ w, Calls Tryz.prog 101 #[.int .i64 (n : Int)] w fun e w' => ∃ v, e = .returned v ∧ Owns w.heap.size w' v (ints (places n)) ∧ Below w.heap.size w w') := Lib.hid (fun w => by have h := l1Places_any (n : Int) w (by omega) (by omega); rw [Int.toNat_natCast] at h; exact h)
  have CL := Lib.hid (fun a c w hr => l10Said_ok a c (places n) w hr hbl hbx)
  generalize joinT (places n) = T at *
  generalize places n = LL at *
  clear hn hbx hbl
  unfold cPlaces
  go_enter Tryz.func69, Tryz.ntmps69
  go_wp2_with fail
  refine (HT.out _).mono ?_
  rintro e w1 ⟨v1, rfl, hO1, hs1⟩
  obtain ⟨a1, c1, rfl, hR1, hl1, hc1⟩ := hO1.shapeN
  have hb1 := hb0.trans (hs1.mono hb0.size)
  go_wp2_with fail
  refine (CL.out _ _ _ (readsN_ints hR1)).mono ?_
  rintro e w2 ⟨rfl, hs2⟩
  have hb2 := hb1.trans (hs2.mono hb1.size)
  go_wp2_with fail
  go_ret
  exact ⟨rfl, hb2⟩
theorem joinT_single (t : Nat) : joinT [t] = dec t := by simp [joinT, Go.Lib.join, List.intercalate]
theorem reads_single (w : World) (t : Nat) : Reads .i64 (w.alloc (.cells #[.int .i64 (t : Int)] 3)) (some ⟨w.heap.size, 0, none⟩) (ints [t]) :=
  (Owns.lit (B := w.heap.size) w [(t : Int)] (Nat.le_refl _) (by simp)).reads.1
theorem said_single (t c : Nat) (w : World) (ht : t ≤ 100000000) :
    Calls Tryz.prog 100 #[.slice (some ⟨w.heap.size, 0, none⟩) 1 c, .bool true] (w.alloc (.cells #[.int .i64 (t : Int)] 3)) fun e w' => e = .returned (.string ⟨(dec t ++ [10]).toArray⟩) ∧ Below w.heap.size w w' := by
  refine (l10Said_ok (some ⟨w.heap.size, 0, none⟩) c [t] _ (reads_single w t) (by simp) (by simp; exact ht)).mono ?_
  rintro e w' ⟨rfl, hb⟩
  rw [joinT_single]
  exact ⟨rfl, ((Below.refl _ _).alloc (Nat.le_refl _) _).trans (hb.mono (by simp))⟩
theorem bare_weight (n : Nat) (w : World) (hn : n < 16777216) :
    Calls Tryz.prog 69 #[.int .i64 (n : Int), .string ⟨cWeight.toArray⟩] w (BareV w (dec (wt n))) := by
  have hb0 := Below.refl w.heap.size w
  have HT := Lib.hid (fun w => l1Weight_any (n : Int) w (by omega) (by omega))
  rw [Int.toNat_natCast] at HT
  have CL := Lib.hid (fun c w => said_single (wt n) c w (by have := wt_le n; omega))
  generalize dec (wt n) = T at *
  generalize wt n = t at *
  clear hn
  unfold cWeight
  go_enter Tryz.func69, Tryz.ntmps69
  go_wp2_with fail
  refine (HT.out _).mono ?_
  rintro e w' ⟨rfl, rfl⟩
  go_wp2_with fail
  refine (CL.out _ _).mono ?_
  rintro e w1 ⟨rfl, hb1⟩
  go_wp2_with fail
  go_ret
  exact ⟨rfl, hb1⟩
theorem bare_near_of (n t : Nat) (w : World) (ht : t ≤ 25)
    (HT : Hid (∀ w, Calls Tryz.prog 103 #[.int .i64 (n : Int)] w fun e w' => e = .returned (.int .i64 ((t : Nat) : Int)) ∧ Below w.heap.size w w')) :
    Calls Tryz.prog 69 #[.int .i64 (n : Int), .string ⟨cNear.toArray⟩] w (BareV w (dec t)) := by
  have hb0 := Below.refl w.heap.size w
  have CL := Lib.hid (fun c w => said_single t c w (by omega))
  generalize dec t = T at *
  clear ht
  unfold cNear
  go_enter Tryz.func69, Tryz.ntmps69
  go_wp2_with fail
  refine (HT.out _).mono ?_
  rintro e w1 ⟨rfl, hs1⟩
  have hb1 := hb0.trans (hs1.mono hb0.size)
  go_wp2_with fail
  refine (CL.out _ _).mono ?_
  rintro e w2 ⟨rfl, hb2⟩
  go_wp2_with fail
  go_ret
  exact ⟨rfl, hb1.trans (hb2.mono hb1.size)⟩
theorem bare_scores (n : Nat) (w : World) (hn : n < 16777216) :
    Calls Tryz.prog 69 #[.int .i64 (n : Int), .string ⟨cScores.toArray⟩] w (BareV w (joinT (scl n))) := by
  have hb0 := Below.refl w.heap.size w
  have hbx : ∀ x, x ∈ scl n → x ≤ 100000000 := fun x hx => by
    obtain ⟨i, hi, rfl⟩ := List.getElem_of_mem hx
    have h1 := scl_le n i
    have h2 : (scl n).getD i 0 = (scl n)[i] := by simp [List.getD, hi]
    omega
  have hbl : (scl n).length ≤ 5000 := by rw [scl_length]; omega
  have HT : Hid (∀ w, Calls Tryz.prog 102 #[.int .i64 (n : Int)] w fun e w' => ∃ v, e = .returned v ∧ Owns w.heap.size w' v (ints (scl n)) ∧ Below w.heap.size w w') := Lib.hid (fun w => by have h := l3Scores_any (n : Int) w (by omega) (by omega); rw [Int.toNat_natCast] at h; exact h)
  have CL := Lib.hid (fun a c w hr => l10Said_ok a c (scl n) w hr hbl hbx)
  generalize joinT (scl n) = T at *
  generalize scl n = LL at *
  clear hn hbx hbl
  unfold cScores
  go_enter Tryz.func69, Tryz.ntmps69
  go_wp2_with fail
  refine (HT.out _).mono ?_
  rintro e w1 ⟨v1, rfl, hO1, hs1⟩
  obtain ⟨a1, c1, rfl, hR1, hl1, hc1⟩ := hO1.shapeN
  have hb1 := hb0.trans (hs1.mono hb0.size)
  go_wp2_with fail
  refine (CL.out _ _ _ (readsN_ints hR1)).mono ?_
  rintro e w2 ⟨rfl, hs2⟩
  have hb2 := hb1.trans (hs2.mono hb1.size)
  go_wp2_with fail
  go_ret
  exact ⟨rfl, hb2⟩
theorem bare_in (n : Nat) (w : World) (hn : n < 16777216) :
    Calls Tryz.prog 69 #[.int .i64 (n : Int), .string ⟨cIn.toArray⟩] w (BareV w (if codeB n then yesB else notB)) := by
  have hb0 := Below.refl w.heap.size w
  have HT := Lib.hid (fun w => specCodeIn_ok (n : Int) w (by omega) (by omega))
  rw [Int.toNat_natCast] at HT
  generalize codeB n = t at *
  clear hn
  unfold cIn
  cases t
  · go_enter Tryz.func69, Tryz.ntmps69
    go_wp2_with fail
    refine (HT.out _).mono ?_
    rintro e w1 ⟨rfl, hs1⟩
    have hb1 := hb0.trans (hs1.mono hb0.size)
    go_wp2_with fail
    go_ret
    exact ⟨rfl, hb1⟩
  · go_enter Tryz.func69, Tryz.ntmps69
    go_wp2_with fail
    refine (HT.out _).mono ?_
    rintro e w1 ⟨rfl, hs1⟩
    have hb1 := hb0.trans (hs1.mono hb0.size)
    go_wp2_with fail
    go_ret
    exact ⟨rfl, hb1⟩
theorem bare_sextet_no (n : Nat) (w : World) (hn : n < 16777216) (h : wt n ≠ 4) :
    Calls Tryz.prog 69 #[.int .i64 (n : Int), .string ⟨cSextet.toArray⟩] w (BareV w noB) := by
  have HT := Lib.hid (fun w => specSextetOf_no n w hn h)
  have CL := Lib.hid (fun v w => l10Said_no v w)
  clear h hn
  unfold cSextet
  go_enter Tryz.func69, Tryz.ntmps69
  go_wp2_with fail
  refine (HT.out _).mono ?_
  rintro e w1 ⟨a, c, rfl, hb1⟩
  go_wp2_with fail
  refine (CL.out _ _).mono ?_
  rintro e w' ⟨rfl, rfl⟩
  go_wp2_with fail
  go_ret
  exact ⟨rfl, hb1⟩
theorem bare_sextet_ok (n : Nat) (w : World) (hn : n < 16777216) (h : wt n = 4) :
    Calls Tryz.prog 69 #[.int .i64 (n : Int), .string ⟨cSextet.toArray⟩] w (BareV w (joinT (natsOf (sxL n)))) := by
  have hbx : ∀ x, x ∈ natsOf (sxL n) → x ≤ 100000000 := fun x hx => by
    obtain ⟨y, hy, rfl⟩ := List.mem_map.1 hx
    have := sxL_mem hn hy
    omega
  have hbl : (natsOf (sxL n)).length ≤ 5000 := by rw [natsOf_length]; have := sxL_length n; omega
  have HT : Hid (∀ w, Calls Tryz.prog 104 #[.int .i64 (n : Int)] w fun e w' => ∃ a c, e = .returned (.tuple #[.slice a (natsOf (sxL n)).length c, .bool true]) ∧ Reads .i64 w' a (ints (natsOf (sxL n))) ∧ Below w.heap.size w w') := Lib.hid (fun w => by
    have h := specSextetOf_ok n w hn h
    rw [natsOf_length, ints_natsOf (l := sxL n) (fun x hx => (sxL_mem hn hx).1)]
    exact h)
  have CL := Lib.hid (fun a c w hr => l10Said_ok a c (natsOf (sxL n)) w hr hbl hbx)
  generalize joinT (natsOf (sxL n)) = T at *
  generalize natsOf (sxL n) = LL at *
  clear hn hbx hbl h
  unfold cSextet
  go_enter Tryz.func69, Tryz.ntmps69
  go_wp2_with fail
  refine (HT.out _).mono ?_
  rintro e w1 ⟨a, c, rfl, hR1, hb1⟩
  go_wp2_with fail
  refine (CL.out _ _ _ hR1).mono ?_
  rintro e w2 ⟨rfl, hs2⟩
  have hb2 := hb1.trans (hs2.mono hb1.size)
  go_wp2_with fail
  go_ret
  exact ⟨rfl, hb2⟩
theorem bare_meet_no (n : Nat) (w : World) (h : octB (n : Int) = false) :
    Calls Tryz.prog 69 #[.int .i64 (n : Int), .string ⟨cMeet.toArray⟩] w (BareV w noB) := by
  have HT := Lib.hid (fun w => specOctadMeet_no n w h)
  have CL := Lib.hid (fun v w => l10Said_no v w)
  clear h
  unfold cMeet
  go_enter Tryz.func69, Tryz.ntmps69
  go_wp2_with fail
  refine (HT.out _).mono ?_
  rintro e w1 ⟨a, c, rfl, hb1⟩
  go_wp2_with fail
  refine (CL.out _ _).mono ?_
  rintro e w' ⟨rfl, rfl⟩
  go_wp2_with fail
  go_ret
  exact ⟨rfl, hb1⟩
theorem bare_meet_ok (n : Nat) (w : World) (hn : n < 16777216) (h : octB (n : Int) = true) :
    Calls Tryz.prog 69 #[.int .i64 (n : Int), .string ⟨cMeet.toArray⟩] w (BareV w (joinT (natsOf (omL n)))) := by
  have hb0 := Below.refl w.heap.size w
  have hbx : ∀ x, x ∈ natsOf (omL n) → x ≤ 100000000 := fun x hx => by
    obtain ⟨y, hy, rfl⟩ := List.mem_map.1 hx
    have := omL_mem hy
    omega
  have hbl : (natsOf (omL n)).length ≤ 5000 := by rw [natsOf_length, omL_length]; omega
  have HT : Hid (∀ w, Calls Tryz.prog 105 #[.int .i64 (n : Int)] w fun e w' => ∃ v, e = .returned (.tuple #[v, .bool true]) ∧ Owns w.heap.size w' v (ints (natsOf (omL n))) ∧ Below w.heap.size w w') := Lib.hid (fun w => by
    have h := specOctadMeet_ok n w hn h
    rw [← ints_natsOf (l := omL n) (fun x hx => (omL_mem hx).1)] at h
    exact h)
  have CL := Lib.hid (fun a c w hr => l10Said_ok a c (natsOf (omL n)) w hr hbl hbx)
  generalize joinT (natsOf (omL n)) = T at *
  generalize natsOf (omL n) = LL at *
  clear hn hbx hbl h
  unfold cMeet
  go_enter Tryz.func69, Tryz.ntmps69
  go_wp2_with fail
  refine (HT.out _).mono ?_
  rintro e w1 ⟨v1, rfl, hO1, hs1⟩
  obtain ⟨a1, c1, rfl, hR1, hl1, hc1⟩ := hO1.shapeN
  have hb1 := hb0.trans (hs1.mono hb0.size)
  go_wp2_with fail
  refine (CL.out _ _ _ (readsN_ints hR1)).mono ?_
  rintro e w2 ⟨rfl, hs2⟩
  have hb2 := hb1.trans (hs2.mono hb1.size)
  go_wp2_with fail
  go_ret
  exact ⟨rfl, hb2⟩
theorem bare_what (n : Nat) (l : List UInt8) (w : World)
    (h1 : l ≠ cShow) (h2 : l ≠ cPlaces) (h3 : l ≠ cWeight) (h4 : l ≠ cScores) (h5 : l ≠ cIn) (h7 : l ≠ cNear) (h8 : l ≠ cSextet) (h9 : l ≠ cMeet) :
    Calls Tryz.prog 69 #[.int .i64 (n : Int), .string ⟨l.toArray⟩] w (BareV w whatB) := by
  have h1 := beq_eq_false_iff_ne.2 h1
  have h2 := beq_eq_false_iff_ne.2 h2
  have h3 := beq_eq_false_iff_ne.2 h3
  have h4 := beq_eq_false_iff_ne.2 h4
  have h5 := beq_eq_false_iff_ne.2 h5
  have h7 := beq_eq_false_iff_ne.2 h7
  have h8 := beq_eq_false_iff_ne.2 h8
  have h9 := beq_eq_false_iff_ne.2 h9
  unfold cShow at h1
  unfold cPlaces at h2
  unfold cWeight at h3
  unfold cScores at h4
  unfold cIn at h5
  unfold cNear at h7
  unfold cSextet at h8
  unfold cMeet at h9
  go_enter Tryz.func69, Tryz.ntmps69
  go_wp2_with fail
  go_ret
  exact ⟨rfl, Below.refl _ _⟩
theorem bare_any (n : Nat) (l : List UInt8) (w : World) (hn : n < 16777216) (hm : l ≠ cMend) :
    Calls Tryz.prog 69 #[.int .i64 (n : Int), .string ⟨l.toArray⟩] w (BareV w (exW n l).2) ∧ (exW n l).1 = n := by
  unfold exW
  by_cases h1 : l = cShow
  · rw [if_pos h1, h1]; exact ⟨bare_show n w hn, rfl⟩
  rw [if_neg h1]
  by_cases h2 : l = cPlaces
  · rw [if_pos h2, h2]; exact ⟨bare_places n w hn, rfl⟩
  rw [if_neg h2]
  by_cases h3 : l = cWeight
  · rw [if_pos h3, h3]; exact ⟨bare_weight n w hn, rfl⟩
  rw [if_neg h3]
  by_cases h4 : l = cScores
  · rw [if_pos h4, h4]; exact ⟨bare_scores n w hn, rfl⟩
  rw [if_neg h4]
  by_cases h5 : l = cIn
  · rw [if_pos h5, h5]; exact ⟨bare_in n w hn, rfl⟩
  rw [if_neg h5, if_neg hm]
  by_cases h7 : l = cNear
  · rw [if_pos h7, h7]; exact ⟨bare_near_of n (far n) w (far_le n) (Lib.hid (fun w => specCodeFar_ok n w hn)), rfl⟩
  rw [if_neg h7]
  by_cases h8 : l = cSextet
  · rw [if_pos h8, h8]
    by_cases h : wt n = 4
    · rw [if_pos h]; exact ⟨bare_sextet_ok n w hn h, rfl⟩
    · rw [if_neg h]; exact ⟨bare_sextet_no n w hn h, rfl⟩
  rw [if_neg h8]
  by_cases h9 : l = cMeet
  · rw [if_pos h9, h9]
    by_cases h : octB (n : Int) = true
    · rw [if_pos h]; exact ⟨bare_meet_ok n w hn h, rfl⟩
    · rw [if_neg h]; exact ⟨bare_meet_no n w (by simpa using h), rfl⟩
  rw [if_neg h9]
  exact ⟨bare_what n l w h1 h2 h3 h4 h5 h7 h8 h9, rfl⟩

end Go.Proofs.YtmgdcnibmifdeaaGreatDoor

/- Contracts of the reference's l10Change, l10Line. -/
set_option linter.unusedVariables false
namespace Go.Proofs.YtmgdcnibmifdeaaGreatDoor
open Go.RowKit Res

/-- What l10Change answers: the word, whether the line is known, whether it does not fail. -/
def ChgW (x : Int) (known ok : Bool) : Option (Option Nat) → Prop
  | none => known = false
  | some none => known = true ∧ ok = false
  | some (some m) => known = true ∧ ok = true ∧ x = (m : Int)
def ChgV (w : World) (r : Option (Option Nat)) (e : Ending) (w' : World) : Prop :=
  (∃ (x : Int) (known ok : Bool), e = .returned (.tuple #[.int .i64 x, .bool known, .bool ok]) ∧ ChgW x known ok r) ∧ Below w.heap.size w w'
theorem nums_yes (s : List UInt8) (p : Nat) (w : World) (hs : s.length ≤ 100000) (h : oneN s = some p) :
    Calls Tryz.prog 108 #[.string ⟨s.toArray⟩, .int .i64 1] w fun e w' => ∃ g c, e = .returned (.tuple #[.slice (some ⟨g, 0, none⟩) 1 c, .bool true]) ∧ w'.cell? ⟨g, 0, none⟩ = some (.int .i64 (p : Int)) ∧ Below w.heap.size w w' := by
  obtain ⟨e1, e2, -⟩ := oneN_yes h
  refine (l10Numbers_any s 1 w hs).mono ?_
  rintro e w' ⟨v, rfl, hO, hb⟩
  rw [e1, e2] at *
  obtain ⟨g, c, rfl, -, -, -, -, hc, -⟩ := (hO rfl).head (by simp)
  exact ⟨g, c, rfl, hc 0 (by simp), hb⟩
theorem nums_no (s : List UInt8) (w : World) (hs : s.length ≤ 100000) (h : oneN s = none) :
    Calls Tryz.prog 108 #[.string ⟨s.toArray⟩, .int .i64 1] w fun e w' => ∃ v, e = .returned (.tuple #[v, .bool false]) ∧ Below w.heap.size w w' := by
  have e2 := oneN_no h
  refine (l10Numbers_any s 1 w hs).mono ?_
  rintro e w' ⟨v, rfl, hO, hb⟩
  rw [e2] at *
  exact ⟨v, rfl, hb⟩

theorem chg_set_ok (n p : Nat) (s : List UInt8) (w : World) (hn : n < 16777216) (hs : s.length ≤ 100000) (ho : oneN s = some p) (hp : p ≤ 16777215) :
    Calls Tryz.prog 70 #[.int .i64 (n : Int), .string ⟨cSet.toArray⟩, .string ⟨s.toArray⟩] w (ChgV w (some (some p))) := by
  have hb0 := Below.refl w.heap.size w
  have CN := Lib.hid (fun w => nums_yes s p w hs ho)
  have CV := Lib.hid (fun w => specWordValid_any (p : Int) w)
  rw [inB_true (by omega) (by omega)] at CV
  clear ho hs hn hp
  unfold cSet
  go_enter Tryz.func70, Tryz.ntmps70
  go_wp2_with fail
  refine (CN.out _).mono ?_
  rintro e w1 ⟨g, c, rfl, hc, hb1⟩
  go_wp2_with fail
  refine (CV.out _).mono ?_
  rintro e w' ⟨rfl, rfl⟩
  go_wp2_with fail
  go_ret3
  exact ⟨⟨_, _, _, rfl, rfl, rfl, rfl⟩, hb1⟩

theorem chg_set_big (n p : Nat) (s : List UInt8) (w : World) (hn : n < 16777216) (hs : s.length ≤ 100000) (ho : oneN s = some p) (hp : ¬ p ≤ 16777215) :
    Calls Tryz.prog 70 #[.int .i64 (n : Int), .string ⟨cSet.toArray⟩, .string ⟨s.toArray⟩] w (ChgV w (some none)) := by
  have hb0 := Below.refl w.heap.size w
  have CN := Lib.hid (fun w => nums_yes s p w hs ho)
  have CV := Lib.hid (fun w => specWordValid_any (p : Int) w)
  rw [show inB (p : Int) 0 16777215 = false by (rw [Bool.eq_false_iff]; intro h; have := (inB_iff.1 h).2; omega)] at CV
  clear ho hs hn hp
  unfold cSet
  go_enter Tryz.func70, Tryz.ntmps70
  go_wp2_with fail
  refine (CN.out _).mono ?_
  rintro e w1 ⟨g, c, rfl, hc, hb1⟩
  go_wp2_with fail
  refine (CV.out _).mono ?_
  rintro e w' ⟨rfl, rfl⟩
  go_wp2_with fail
  go_ret3
  exact ⟨⟨_, _, _, rfl, rfl, rfl⟩, hb1⟩

theorem chg_set_no (n : Nat) (s : List UInt8) (w : World) (hn : n < 16777216) (hs : s.length ≤ 100000) (ho : oneN s = none) :
    Calls Tryz.prog 70 #[.int .i64 (n : Int), .string ⟨cSet.toArray⟩, .string ⟨s.toArray⟩] w (ChgV w (some none)) := by
  have hb0 := Below.refl w.heap.size w
  have CN := Lib.hid (fun w => nums_no s w hs ho)
  have CV := Lib.hid (fun w => specWordValid_any (-1) w)
  rw [show inB (-1) 0 16777215 = false by decide] at CV
  clear ho hs hn
  unfold cSet
  go_enter Tryz.func70, Tryz.ntmps70
  go_wp2_with fail
  refine (CN.out _).mono ?_
  rintro e w1 ⟨v, rfl, hb1⟩
  go_wp2_with fail
  refine (CV.out _).mono ?_
  rintro e w' ⟨rfl, rfl⟩
  go_wp2_with fail
  go_ret3
  exact ⟨⟨_, _, _, rfl, rfl, rfl⟩, hb1⟩

theorem chg_add_ok (n p : Nat) (s : List UInt8) (w : World) (hn : n < 16777216) (hs : s.length ≤ 100000) (ho : oneN s = some p) (hp : p ≤ 16777215) :
    Calls Tryz.prog 70 #[.int .i64 (n : Int), .string ⟨cAdd.toArray⟩, .string ⟨s.toArray⟩] w (ChgV w (some (some (n ^^^ p)))) := by
  have hb0 := Below.refl w.heap.size w
  have CN := Lib.hid (fun w => nums_yes s p w hs ho)
  have CV := Lib.hid (fun w => specWordAdd_ok n p w hn (by omega))
  generalize n ^^^ p = z at *
  clear ho hs hn hp
  unfold cAdd
  go_enter Tryz.func70, Tryz.ntmps70
  go_wp2_with fail
  refine (CN.out _).mono ?_
  rintro e w1 ⟨g, c, rfl, hc, hb1⟩
  go_wp2_with fail
  refine (CV.out _).mono ?_
  rintro e w' ⟨rfl, rfl⟩
  go_wp2_with fail
  go_ret3
  exact ⟨⟨_, _, _, rfl, rfl, rfl, rfl⟩, hb1⟩

theorem chg_add_big (n p : Nat) (s : List UInt8) (w : World) (hn : n < 16777216) (hs : s.length ≤ 100000) (ho : oneN s = some p) (hp : ¬ p ≤ 16777215) :
    Calls Tryz.prog 70 #[.int .i64 (n : Int), .string ⟨cAdd.toArray⟩, .string ⟨s.toArray⟩] w (ChgV w (some none)) := by
  have hb0 := Below.refl w.heap.size w
  have CN := Lib.hid (fun w => nums_yes s p w hs ho)
  have CV := Lib.hid (fun w => specWordAdd_no n (p : Int) w hn (by rw [Bool.eq_false_iff]; intro h; have := (inB_iff.1 h).2; omega))
  clear ho hs hn hp
  unfold cAdd
  go_enter Tryz.func70, Tryz.ntmps70
  go_wp2_with fail
  refine (CN.out _).mono ?_
  rintro e w1 ⟨g, c, rfl, hc, hb1⟩
  go_wp2_with fail
  refine (CV.out _).mono ?_
  rintro e w' ⟨rfl, rfl⟩
  go_wp2_with fail
  go_ret3
  exact ⟨⟨_, _, _, rfl, rfl, rfl⟩, hb1⟩

theorem chg_add_no (n : Nat) (s : List UInt8) (w : World) (hn : n < 16777216) (hs : s.length ≤ 100000) (ho : oneN s = none) :
    Calls Tryz.prog 70 #[.int .i64 (n : Int), .string ⟨cAdd.toArray⟩, .string ⟨s.toArray⟩] w (ChgV w (some none)) := by
  have hb0 := Below.refl w.heap.size w
  have CN := Lib.hid (fun w => nums_no s w hs ho)
  have CV := Lib.hid (fun w => specWordAdd_no n (-1) w hn (by decide))
  clear ho hs hn
  unfold cAdd
  go_enter Tryz.func70, Tryz.ntmps70
  go_wp2_with fail
  refine (CN.out _).mono ?_
  rintro e w1 ⟨v, rfl, hb1⟩
  go_wp2_with fail
  refine (CV.out _).mono ?_
  rintro e w' ⟨rfl, rfl⟩
  go_wp2_with fail
  go_ret3
  exact ⟨⟨_, _, _, rfl, rfl, rfl⟩, hb1⟩

theorem chg_code_ok (n p : Nat) (s : List UInt8) (w : World) (hn : n < 16777216) (hs : s.length ≤ 100000) (ho : oneN s = some p) (hp : p ≤ 4095) :
    Calls Tryz.prog 70 #[.int .i64 (n : Int), .string ⟨cCode.toArray⟩, .string ⟨s.toArray⟩] w (ChgV w (some (some (code p)))) := by
  have hb0 := Below.refl w.heap.size w
  have CN := Lib.hid (fun w => nums_yes s p w hs ho)
  have CV := Lib.hid (fun w => specCodeOf_ok (p : Int) w (by omega) (by omega))
  rw [Int.toNat_natCast] at CV
  generalize code p = z at *
  clear ho hs hn hp
  unfold cCode
  go_enter Tryz.func70, Tryz.ntmps70
  go_wp2_with fail
  refine (CN.out _).mono ?_
  rintro e w1 ⟨g, c, rfl, hc, hb1⟩
  go_wp2_with fail
  refine (CV.out _).mono ?_
  rintro e w2 ⟨rfl, hs2⟩
  have hb2 := hb1.trans (hs2.mono hb1.size)
  go_wp2_with fail
  go_ret3
  exact ⟨⟨_, _, _, rfl, rfl, rfl, rfl⟩, hb2⟩

theorem chg_code_big (n p : Nat) (s : List UInt8) (w : World) (hn : n < 16777216) (hs : s.length ≤ 100000) (ho : oneN s = some p) (hp : ¬ p ≤ 4095) :
    Calls Tryz.prog 70 #[.int .i64 (n : Int), .string ⟨cCode.toArray⟩, .string ⟨s.toArray⟩] w (ChgV w (some none)) := by
  have hb0 := Below.refl w.heap.size w
  have CN := Lib.hid (fun w => nums_yes s p w hs ho)
  have CV := Lib.hid (fun w => specCodeOf_no (p : Int) w (by rw [Bool.eq_false_iff]; intro h; have := (inB_iff.1 h).2; omega))
  clear ho hs hn hp
  unfold cCode
  go_enter Tryz.func70, Tryz.ntmps70
  go_wp2_with fail
  refine (CN.out _).mono ?_
  rintro e w1 ⟨g, c, rfl, hc, hb1⟩
  go_wp2_with fail
  refine (CV.out _).mono ?_
  rintro e w' ⟨rfl, rfl⟩
  go_wp2_with fail
  go_ret3
  exact ⟨⟨_, _, _, rfl, rfl, rfl⟩, hb1⟩

theorem chg_code_no (n : Nat) (s : List UInt8) (w : World) (hn : n < 16777216) (hs : s.length ≤ 100000) (ho : oneN s = none) :
    Calls Tryz.prog 70 #[.int .i64 (n : Int), .string ⟨cCode.toArray⟩, .string ⟨s.toArray⟩] w (ChgV w (some none)) := by
  have hb0 := Below.refl w.heap.size w
  have CN := Lib.hid (fun w => nums_no s w hs ho)
  have CV := Lib.hid (fun w => specCodeOf_no (-1) w (by decide))
  clear ho hs hn
  unfold cCode
  go_enter Tryz.func70, Tryz.ntmps70
  go_wp2_with fail
  refine (CN.out _).mono ?_
  rintro e w1 ⟨v, rfl, hb1⟩
  go_wp2_with fail
  refine (CV.out _).mono ?_
  rintro e w' ⟨rfl, rfl⟩
  go_wp2_with fail
  go_ret3
  exact ⟨⟨_, _, _, rfl, rfl, rfl⟩, hb1⟩

theorem chg_line_ok (n p : Nat) (s : List UInt8) (w : World) (hn : n < 16777216) (hs : s.length ≤ 100000) (ho : oneN s = some p) (hp : p ≤ 22) :
    Calls Tryz.prog 70 #[.int .i64 (n : Int), .string ⟨cLine.toArray⟩, .string ⟨s.toArray⟩] w (ChgV w (some (some (gen p)))) := by
  have hb0 := Below.refl w.heap.size w
  have CN := Lib.hid (fun w => nums_yes s p w hs ho)
  have CV := Lib.hid (fun w => specLineWord_ok (p : Int) w (by omega) (by omega))
  rw [Int.toNat_natCast] at CV
  generalize gen p = z at *
  clear ho hs hn hp
  unfold cLine
  go_enter Tryz.func70, Tryz.ntmps70
  go_wp2_with fail
  refine (CN.out _).mono ?_
  rintro e w1 ⟨g, c, rfl, hc, hb1⟩
  go_wp2_with fail
  refine (CV.out _).mono ?_
  rintro e w' ⟨rfl, rfl⟩
  go_wp2_with fail
  go_ret3
  exact ⟨⟨_, _, _, rfl, rfl, rfl, rfl⟩, hb1⟩

theorem chg_line_big (n p : Nat) (s : List UInt8) (w : World) (hn : n < 16777216) (hs : s.length ≤ 100000) (ho : oneN s = some p) (hp : ¬ p ≤ 22) :
    Calls Tryz.prog 70 #[.int .i64 (n : Int), .string ⟨cLine.toArray⟩, .string ⟨s.toArray⟩] w (ChgV w (some none)) := by
  have hb0 := Below.refl w.heap.size w
  have CN := Lib.hid (fun w => nums_yes s p w hs ho)
  have CV := Lib.hid (fun w => specLineWord_no (p : Int) w (by rw [Bool.eq_false_iff]; intro h; have := (inB_iff.1 h).2; omega))
  clear ho hs hn hp
  unfold cLine
  go_enter Tryz.func70, Tryz.ntmps70
  go_wp2_with fail
  refine (CN.out _).mono ?_
  rintro e w1 ⟨g, c, rfl, hc, hb1⟩
  go_wp2_with fail
  refine (CV.out _).mono ?_
  rintro e w' ⟨rfl, rfl⟩
  go_wp2_with fail
  go_ret3
  exact ⟨⟨_, _, _, rfl, rfl, rfl⟩, hb1⟩

theorem chg_line_no (n : Nat) (s : List UInt8) (w : World) (hn : n < 16777216) (hs : s.length ≤ 100000) (ho : oneN s = none) :
    Calls Tryz.prog 70 #[.int .i64 (n : Int), .string ⟨cLine.toArray⟩, .string ⟨s.toArray⟩] w (ChgV w (some none)) := by
  have hb0 := Below.refl w.heap.size w
  have CN := Lib.hid (fun w => nums_no s w hs ho)
  have CV := Lib.hid (fun w => specLineWord_no (-1) w (by decide))
  clear ho hs hn
  unfold cLine
  go_enter Tryz.func70, Tryz.ntmps70
  go_wp2_with fail
  refine (CN.out _).mono ?_
  rintro e w1 ⟨v, rfl, hb1⟩
  go_wp2_with fail
  refine (CV.out _).mono ?_
  rintro e w' ⟨rfl, rfl⟩
  go_wp2_with fail
  go_ret3
  exact ⟨⟨_, _, _, rfl, rfl, rfl⟩, hb1⟩

theorem readV_some {s : List UInt8} {m : Nat} (h : wRead s = some m) : readV s = .tuple #[.int .i64 (m : Int), .bool true] := by unfold readV; rw [h]
theorem readV_none {s : List UInt8} (h : wRead s = none) : readV s = .tuple #[.int .i64 0, .bool false] := by unfold readV; rw [h]
theorem chg_read (n : Nat) (s : List UInt8) (w : World) (hn : n < 16777216) (hs : s.length ≤ 100000) :
    Calls Tryz.prog 70 #[.int .i64 (n : Int), .string ⟨cRead.toArray⟩, .string ⟨s.toArray⟩] w (ChgV w (some (wRead s))) := by
  have CR := Lib.hid (fun w => specWordRead_any s w hs)
  cases hr : wRead s with
  | none =>
    rw [readV_none hr] at CR
    clear hr hn hs
    unfold cRead
    go_enter Tryz.func70, Tryz.ntmps70
    go_wp2_with fail
    refine (CR.out _).mono ?_
    rintro e w' ⟨rfl, rfl⟩
    go_wp2_with fail
    go_ret3
    exact ⟨⟨_, _, _, rfl, rfl, rfl⟩, Below.refl _ _⟩
  | some m =>
    rw [readV_some hr] at CR
    clear hr hn hs
    unfold cRead
    go_enter Tryz.func70, Tryz.ntmps70
    go_wp2_with fail
    refine (CR.out _).mono ?_
    rintro e w' ⟨rfl, rfl⟩
    go_wp2_with fail
    go_ret3
    exact ⟨⟨_, _, _, rfl, rfl, rfl, rfl⟩, Below.refl _ _⟩
theorem octT_no {l : List Int} (h : diff l = false) : octT l = .tuple #[.int .i64 0, .bool false] := by unfold octT; rw [h]; rfl
theorem octT_yes {l : List Int} {o : Nat} (h : diff l = true) (h5 : l.length = 5) (hw : wi (mk l 5) = [((o : Nat) : Int)]) : octT l = .tuple #[.int .i64 (o : Int), .bool true] := by
  unfold octT
  rw [h, h5, hw]
  rfl
theorem nums5_no (s : List UInt8) (w : World) (hs : s.length ≤ 100000) (h : numbersB s 5 = false) :
    Calls Tryz.prog 108 #[.string ⟨s.toArray⟩, .int .i64 5] w fun e w' => ∃ v, e = .returned (.tuple #[v, .bool false]) ∧ Below w.heap.size w w' := by
  refine (l10Numbers_any s 5 w hs).mono ?_
  rintro e w' ⟨v, rfl, hO, hb⟩
  rw [h] at *
  exact ⟨v, rfl, hb⟩
theorem nums5_yes (s : List UInt8) (fl : List Nat) (w : World) (hs : s.length ≤ 100000) (h : numbersB s 5 = true) (hl : numbersL s = ints fl) :
    Calls Tryz.prog 108 #[.string ⟨s.toArray⟩, .int .i64 5] w fun e w' => ∃ a c, e = .returned (.tuple #[.slice a (ints fl).length c, .bool true]) ∧ Reads .i64 w' a (ints fl) ∧ Below w.heap.size w w' := by
  refine (l10Numbers_any s 5 w hs).mono ?_
  rintro e w' ⟨v, rfl, hO, hb⟩
  rw [h] at *
  have hO := hO rfl
  rw [hl] at hO
  obtain ⟨a, c, rfl, hR, -, -⟩ := hO.shape
  exact ⟨a, c, rfl, hR, hb⟩
theorem chg_octad_bad (n : Nat) (s : List UInt8) (w : World) (hn : n < 16777216) (hs : s.length ≤ 100000) (h : numbersB s 5 = false) :
    Calls Tryz.prog 70 #[.int .i64 (n : Int), .string ⟨cOctad.toArray⟩, .string ⟨s.toArray⟩] w (ChgV w (some none)) := by
  have CN := Lib.hid (fun w => nums5_no s w hs h)
  clear hn hs h
  unfold cOctad
  go_enter Tryz.func70, Tryz.ntmps70
  go_wp2_with fail
  refine (CN.out _).mono ?_
  rintro e w1 ⟨v, rfl, hb1⟩
  go_wp2_with fail
  go_ret3
  exact ⟨⟨_, _, _, rfl, rfl, rfl⟩, hb1⟩
theorem chg_octad_of (n : Nat) (s : List UInt8) (fl : List Nat) (w : World) (hn : n < 16777216) (hs : s.length ≤ 100000) (h : numbersB s 5 = true) (hl : numbersL s = ints fl) (h5 : fl.length = 5) (o : Option Nat)
    (ho : octT (ints fl) = match o with | some m => .tuple #[.int .i64 (m : Int), .bool true] | none => .tuple #[.int .i64 0, .bool false]) :
    Calls Tryz.prog 70 #[.int .i64 (n : Int), .string ⟨cOctad.toArray⟩, .string ⟨s.toArray⟩] w (ChgV w (some o)) := by
  have CN := Lib.hid (fun w => nums5_yes s fl w hs h hl)
  have CO := Lib.hid (fun a c w hr => specOctadThrough_any a c (ints fl) w (by rw [ints_length]; omega) hr)
  rw [ho] at CO
  clear hn hs h hl h5 ho
  generalize ints fl = L at *
  unfold cOctad
  cases o with
  | none =>
    go_enter Tryz.func70, Tryz.ntmps70
    go_wp2_with fail
    refine (CN.out _).mono ?_
    rintro e w1 ⟨a, c, rfl, hR1, hb1⟩
    go_wp2_with fail
    refine (CO.out _ _ _ hR1).mono ?_
    rintro e w2 ⟨rfl, hs2⟩
    have hb2 := hb1.trans (hs2.mono hb1.size)
    go_wp2_with fail
    go_ret3
    exact ⟨⟨_, _, _, rfl, rfl, rfl⟩, hb2⟩
  | some m =>
    go_enter Tryz.func70, Tryz.ntmps70
    go_wp2_with fail
    refine (CN.out _).mono ?_
    rintro e w1 ⟨a, c, rfl, hR1, hb1⟩
    go_wp2_with fail
    refine (CO.out _ _ _ hR1).mono ?_
    rintro e w2 ⟨rfl, hs2⟩
    have hb2 := hb1.trans (hs2.mono hb1.size)
    go_wp2_with fail
    go_ret3
    exact ⟨⟨_, _, _, rfl, rfl, rfl, rfl⟩, hb2⟩
theorem chg_what (n : Nat) (c s : List UInt8) (w : World) (hs : s.length ≤ 100000)
    (h1 : c ≠ cSet) (h2 : c ≠ cAdd) (h3 : c ≠ cRead) (h4 : c ≠ cCode) (h5 : c ≠ cOctad) (h6 : c ≠ cLine) :
    Calls Tryz.prog 70 #[.int .i64 (n : Int), .string ⟨c.toArray⟩, .string ⟨s.toArray⟩] w (ChgV w none) := by
  have h1 := beq_eq_false_iff_ne.2 h1
  have h2 := beq_eq_false_iff_ne.2 h2
  have h3 := beq_eq_false_iff_ne.2 h3
  have h4 := beq_eq_false_iff_ne.2 h4
  have h5 := beq_eq_false_iff_ne.2 h5
  have h6 := beq_eq_false_iff_ne.2 h6
  unfold cSet at h1
  unfold cAdd at h2
  unfold cRead at h3
  unfold cCode at h4
  unfold cOctad at h5
  unfold cLine at h6
  cases ho : oneN s with
  | none =>
    have CN := Lib.hid (fun w => nums_no s w hs ho)
    clear ho hs
    go_enter Tryz.func70, Tryz.ntmps70
    go_wp2_with fail
    refine (CN.out _).mono ?_
    rintro e w1 ⟨v, rfl, hb1⟩
    go_wp2_with fail
    go_ret3
    exact ⟨⟨_, _, _, rfl, rfl⟩, hb1⟩
  | some p =>
    have CN := Lib.hid (fun w => nums_yes s p w hs ho)
    clear ho hs
    go_enter Tryz.func70, Tryz.ntmps70
    go_wp2_with fail
    refine (CN.out _).mono ?_
    rintro e w1 ⟨g, cc, rfl, hc, hb1⟩
    go_wp2_with fail
    go_ret3
    exact ⟨⟨_, _, _, rfl, rfl⟩, hb1⟩
theorem chg_any (n : Nat) (c s : List UInt8) (w : World) (hn : n < 16777216) (hs : s.length ≤ 100000) :
    Calls Tryz.prog 70 #[.int .i64 (n : Int), .string ⟨c.toArray⟩, .string ⟨s.toArray⟩] w (ChgV w (exR n c s)) := by
  unfold exR
  by_cases h1 : c = cSet
  · subst h1
    rw [if_pos rfl]
    cases ho : oneN s with
    | none => exact chg_set_no n s w hn hs ho
    | some p =>
      simp only
      by_cases hp : p ≤ 16777215
      · rw [if_pos hp]; exact chg_set_ok n p s w hn hs ho hp
      · rw [if_neg hp]; exact chg_set_big n p s w hn hs ho hp
  rw [if_neg h1]
  by_cases h2 : c = cAdd
  · subst h2
    rw [if_pos rfl]
    cases ho : oneN s with
    | none => exact chg_add_no n s w hn hs ho
    | some p =>
      simp only
      by_cases hp : p ≤ 16777215
      · rw [if_pos hp]; exact chg_add_ok n p s w hn hs ho hp
      · rw [if_neg hp]; exact chg_add_big n p s w hn hs ho hp
  rw [if_neg h2]
  by_cases h3 : c = cRead
  · rw [if_pos h3, h3]; exact chg_read n s w hn hs
  rw [if_neg h3]
  by_cases h4 : c = cCode
  · subst h4
    rw [if_pos rfl]
    cases ho : oneN s with
    | none => exact chg_code_no n s w hn hs ho
    | some p =>
      simp only
      by_cases hp : p ≤ 4095
      · rw [if_pos hp]; exact chg_code_ok n p s w hn hs ho hp
      · rw [if_neg hp]; exact chg_code_big n p s w hn hs ho hp
  rw [if_neg h4]
  by_cases h5 : c = cOctad
  · rw [if_pos h5, h5]
    cases hf : fiveN s with
    | none =>
      rcases fiveN_no hf with h | ⟨fl, e1, e2, e3, e4⟩
      · exact chg_octad_bad n s w hn hs h
      · exact chg_octad_of n s fl w hn hs e2 e1 e3 none (octT_no e4)
    | some o =>
      obtain ⟨fl, e1, e2, e3, e4, e5⟩ := fiveN_yes hf
      exact chg_octad_of n s fl w hn hs e2 e1 e3 (some o) (octT_yes e4 (by rw [ints_length]; exact e3) e5)
  rw [if_neg h5]
  by_cases h6 : c = cLine
  · subst h6
    rw [if_pos rfl]
    cases ho : oneN s with
    | none => exact chg_line_no n s w hn hs ho
    | some p =>
      simp only
      by_cases hp : p ≤ 22
      · rw [if_pos hp]; exact chg_line_ok n p s w hn hs ho hp
      · rw [if_neg hp]; exact chg_line_big n p s w hn hs ho hp
  rw [if_neg h6]
  exact chg_what n c s w hs h1 h2 h3 h4 h5 h6

/-- What l10Line answers. -/
def LineV (w : World) (T : Nat × List UInt8) (e : Ending) (w' : World) : Prop := e = .returned (.tuple #[.int .i64 (T.1 : Int), .string ⟨(T.2 ++ [10]).toArray⟩]) ∧ Below w.heap.size w w'
theorem chgv_none {w : World} {e : Ending} {w' : World} (h : ChgV w none e w') : (∃ (x : Int) (ok : Bool), e = .returned (.tuple #[.int .i64 x, .bool false, .bool ok])) ∧ Below w.heap.size w w' := by
  obtain ⟨⟨x, known, ok, rfl, h⟩, hb⟩ := h
  have h : known = false := h
  subst h
  exact ⟨⟨x, ok, rfl⟩, hb⟩
theorem chgv_no {w : World} {e : Ending} {w' : World} (h : ChgV w (some none) e w') : (∃ (x : Int), e = .returned (.tuple #[.int .i64 x, .bool true, .bool false])) ∧ Below w.heap.size w w' := by
  obtain ⟨⟨x, known, ok, rfl, h⟩, hb⟩ := h
  obtain ⟨h1, h2⟩ : known = true ∧ ok = false := h
  subst h1 h2
  exact ⟨⟨x, rfl⟩, hb⟩
theorem chgv_yes {w : World} {m : Nat} {e : Ending} {w' : World} (h : ChgV w (some (some m)) e w') : e = .returned (.tuple #[.int .i64 (m : Int), .bool true, .bool true]) ∧ Below w.heap.size w w' := by
  obtain ⟨⟨x, known, ok, rfl, h⟩, hb⟩ := h
  obtain ⟨h1, h2, h3⟩ : known = true ∧ ok = true ∧ x = (m : Int) := h
  subst h1 h2 h3
  exact ⟨rfl, hb⟩
theorem line_bare {w : World} {n : Nat} {W : List UInt8} {T : Nat × List UInt8} {e : Ending} {w' : World} (h1 : T.1 = n) (h2 : T.2 = W) (he : e = .returned (.tuple #[.int .i64 (n : Int), .string ⟨(W ++ [10]).toArray⟩])) (hb : Below w.heap.size w w') : LineV w T e w' := by
  subst h1 h2
  exact ⟨he, hb⟩
set_option maxHeartbeats 4000000 in
theorem l10Line_any (n : Nat) (l : List UInt8) (w : World) (hn : n < 16777216) (hl : l.length ≤ 1000) :
    Calls Tryz.prog 38 #[.int .i64 (n : Int), .string ⟨l.toArray⟩] w (LineV w (exL n l)) := by
  have HB := Lib.hid (idx_l l)
  have hli : (l.length : Int) ≤ 1000 := by omega
  have HST := Lib.hid (CtS.start 32 l)
  have HS2 := Lib.hid (slc_to l)
  have HSF := Lib.hid (slc_from l)
  have HX1 := Lib.hid (fun k (h : CtS 32 l k) (hk : k < l.length) (hc : l.getD k 0 = 32) => exL_cut (n := n) h hk hc)
  have HX2 := Lib.hid (fun (h : CtS 32 l l.length) => exL_bare (n := n) h)
  have HCC := Lib.hid (fun k w => chg_any n (l.take k) (l.drop (k + 1)) w hn (by rw [List.length_drop]; omega))
  have HM : Hid (exW n cMend = if far n ≤ 3 then (mendW n, okB) else (n, noB)) := Lib.hid (by
    unfold exW
    rw [if_neg (by decide), if_neg (by decide), if_neg (by decide), if_neg (by decide), if_neg (by decide), if_pos rfl])
  have CM := Lib.hid (fun w => specCodeMend_ok n w hn)
  unfold mendV at CM
  have CB := Lib.hid (fun w (hm : l ≠ cMend) => bare_any n l w hn hm)
  have hb0 := Below.refl w.heap.size w
  clear hn hl
  go_enter Tryz.func38, Tryz.ntmps38
  go_wp2_with fail
  go_loop [6] (fun x => ∃ k : Nat, k ≤ l.length ∧ x = .int .i64 (k : Int) ∧ CtS 32 l k) (fun x => (l.length - (intOf x).toNat))
  case atStart => exact ⟨0, by omega, rfl, HST.out⟩
  case round =>
    obtain ⟨k, hk, rfl, hS⟩ := hrel
    by_cases hlt : k < l.length
    · have hki : (k : Int) < (l.length : Int) := by omega
      have hb := fun w => HB.out k hlt w
      by_cases hx : l.getD k 0 = 32
      · have hbn : (l.getD k 0).toNat = 32 := by rw [hx]; rfl
        have hkb : ((k : Int) == (l.length : Int)) = false := by rw [beq_eq_false_iff_ne]; omega
        have hw1 : IntKind.i64.wrap ((k : Int) + 1) = (k : Int) + 1 := IntWalk.i64_in _ (by omega)
        have hs1 := fun w => HS2.out k hk w
        have hs2 := fun w => HSF.out (k + 1) (by omega) w
        have e1 : ((k + 1 : Nat) : Int) = (k : Int) + 1 := by omega
        have HX := Lib.hid (HX1.out k hS hlt hx)
        have CC := Lib.hid (HCC.out k)
        rw [hbn] at hb
        rw [e1] at hs2
        generalize exL n l = T at *
        generalize exR n (l.take k) (l.drop (k + 1)) = R at *
        generalize l.take k = c1 at *
        generalize l.drop (k + 1) = c2 at *
        clear hbn hx e1 hS hlt
        cases R with
        | none =>
          have HT : Hid (T = (n, whatB)) := Lib.hid HX.out
          go_wp2_with fail
          go_region_with (go_at_call 70; refine (CC.out _).mono ?_; intro e w1 hV; obtain ⟨⟨x, ok, rfl⟩, hb1⟩ := chgv_none hV)
          all_goals
            go_wp2_with fail
            go_ret2
            refine line_bare (n := n) (W := whatB) (by rw [HT.out]) (by rw [HT.out]) rfl ?_
            first | exact hb1 | exact (show Below w.heap.size w w1 from ⟨hb1.os, hb1.tape, hb1.output, hb1.size, hb1.block⟩)
        | some o =>
          cases o with
          | none =>
            have HT : Hid (T = (n, noB)) := Lib.hid HX.out
            go_wp2_with fail
            go_region_with (go_at_call 70; refine (CC.out _).mono ?_; intro e w1 hV; obtain ⟨⟨x, rfl⟩, hb1⟩ := chgv_no hV)
            all_goals
              go_wp2_with fail
              go_ret2
              refine line_bare (n := n) (W := noB) (by rw [HT.out]) (by rw [HT.out]) rfl ?_
              first | exact hb1 | exact (show Below w.heap.size w w1 from ⟨hb1.os, hb1.tape, hb1.output, hb1.size, hb1.block⟩)
          | some m =>
            have HT : Hid (T = (m, okB)) := Lib.hid HX.out
            go_wp2_with fail
            go_region_with (go_at_call 70; refine (CC.out _).mono ?_; intro e w1 hV; obtain ⟨rfl, hb1⟩ := chgv_yes hV)
            all_goals
              go_wp2_with fail
              go_ret2
              refine line_bare (n := m) (W := okB) (by rw [HT.out]) (by rw [HT.out]) rfl ?_
              first | exact hb1 | exact (show Below w.heap.size w w1 from ⟨hb1.os, hb1.tape, hb1.output, hb1.size, hb1.block⟩)
      · have D := Lib.hid (hS.next hlt hx)
        have hbn : (l.getD k 0).toNat ≠ 32 := fun e => hx (by rw [← UInt8.ofNat_toNat (x := l.getD k 0), e]; rfl)
        generalize (l.getD k 0).toNat = t at *
        have hbi : (((t : Nat) : Int) != 32) = true := by rw [bne_iff_ne]; omega
        clear hbn hx hS
        go_wp2_with fail
        go_round
        case rel => exact ⟨k + 1, by omega, by go_num, D.out⟩
        case measure => simp [intOf]; omega
    · have hkl : k = l.length := by omega
      subst hkl
      have HX := Lib.hid (HX2.out hS)
      clear hS hlt hk
      by_cases hm : l = cMend
      · have hmb : (l == [109, 101, 110, 100]) = true := by rw [hm]; rfl
        have HE : Hid (exL n l = if far n ≤ 3 then (mendW n, okB) else (n, noB)) := Lib.hid (by rw [HX.out, hm]; exact HM.out)
        clear hm
        generalize exL n l = T at *
        by_cases h3 : far n ≤ 3
        · rw [if_pos h3] at CM HE
          clear h3
          generalize mendW n = m at *
          go_wp2_with fail
          refine (CM.out _).mono ?_
          rintro e w1 ⟨rfl, hs1⟩
          have hb1 := hb0.trans (hs1.mono hb0.size)
          go_wp2_with fail
          go_ret2
          exact line_bare (n := m) (W := okB) (by rw [HE.out]) (by rw [HE.out]) rfl hb1
        · rw [if_neg h3] at CM HE
          clear h3
          go_wp2_with fail
          refine (CM.out _).mono ?_
          rintro e w1 ⟨rfl, hs1⟩
          have hb1 := hb0.trans (hs1.mono hb0.size)
          go_wp2_with fail
          go_ret2
          exact line_bare (n := n) (W := noB) (by rw [HE.out]) (by rw [HE.out]) rfl hb1
      · have hmb : (l == [109, 101, 110, 100]) = false := beq_eq_false_iff_ne.2 hm
        have CBB := Lib.hid (fun w => (CB.out w hm).1)
        have H1 : Hid ((exL n l).1 = n) := Lib.hid (by rw [HX.out]; exact (CB.out w hm).2)
        have H2 : Hid ((exL n l).2 = (exW n l).2) := Lib.hid (by rw [HX.out])
        clear hm
        generalize (exW n l).2 = V at *
        generalize exL n l = T at *
        go_wp2_with fail
        refine (CBB.out _).mono ?_
        rintro e w1 ⟨rfl, hb1⟩
        go_wp2_with fail
        go_ret2
        exact line_bare (n := n) (W := V) H1.out H2.out rfl hb1

end Go.Proofs.YtmgdcnibmifdeaaGreatDoor

/- The contract of the reference's Execute. -/
set_option linter.unusedVariables false
namespace Go.Proofs.YtmgdcnibmifdeaaGreatDoor
open Go.RowKit Res

theorem specExecute_any (l : List UInt8) (w : World) (hl : l.length ≤ 100000000) :
    Calls Tryz.prog 12 #[.string ⟨l.toArray⟩] w fun e w' => e = .returned (.string ⟨(exec l).toArray⟩) ∧ Below w.heap.size w w' := by
  by_cases h6 : l.length ≤ 600
  · have h6i : ¬ (600 : Int) < (l.length : Int) := by omega
    have HB := Lib.hid (idx_l l)
    have HSL := Lib.hid (slc_l l)
    have HST := Lib.hid (LnS.start l)
    have HN := Lib.hid (fun T f i (h : LnS l T f i) hi hc => h.next hi hc)
    have HH := Lib.hid (fun T f i (h : LnS l T f i) hi hc => h.hit hi hc)
    have HE := Lib.hid (fun T f (h : LnS l T f l.length) => h.last h6)
    have HLN := Lib.hid (fun T f i (h : LnS l T f i) => h.len h6)
    have HXL := Lib.hid (fun n (hn : n < 16777216) p => exL_len hn p)
    have HL6 := Lib.hid h6
    generalize exec l = EX at *
    clear hl h6
    go_enter Tryz.func12, Tryz.ntmps12
    go_wp2_with fail
    go_loopw [3, 4, 5, 6] (fun v o y x wr => ∃ (k f n : Nat) (t : List UInt8), k ≤ l.length ∧ x = .int .i64 (k : Int) ∧ y = .int .i64 (f : Int) ∧ v = .int .i64 (n : Int) ∧ o = .string ⟨t.toArray⟩ ∧ LnS l (n, t) f k ∧ Below w.heap.size w wr)
      (fun _ _ _ x _ => (l.length - (intOf x).toNat))
    case atStart => exact ⟨0, 0, 0, [], by omega, rfl, rfl, rfl, rfl, HST.out, Below.refl _ _⟩
    case round =>
      obtain ⟨k, f, n, t, hk, rfl, rfl, rfl, rfl, hS, hbel⟩ := hrel
      have hsz := hbel.size
      obtain ⟨hfk, -⟩ := hS.ix
      have hn : n < 16777216 := hS.word
      have htl : t.length ≤ 50001 * 600 := HLN.out _ _ _ hS
      by_cases hlt : k < l.length
      · have hki : (k : Int) < (l.length : Int) := by omega
        have hb := fun w => HB.out k hlt w
        by_cases hx : l.getD k 0 = 10
        · have hbn : (l.getD k 0).toNat = 10 := by rw [hx]; rfl
          have hs := fun w => HSL.out f k hfk hk w
          have D := Lib.hid (HH.out _ _ _ hS hlt hx)
          have CL := Lib.hid (fun w => l10Line_any n ((l.drop f).take (k - f)) w hn (by rw [List.length_take, List.length_drop]; have := HL6.out; omega))
          have hol := HXL.out n hn ((l.drop f).take (k - f))
          rw [hbn] at hb
          clear hbn hx hS
          generalize (l.drop f).take (k - f) = P at *
          obtain ⟨n2, o2, hT⟩ : ∃ a b, exL n P = (a, b) := ⟨_, _, rfl⟩
          rw [hT] at CL D hol
          clear hT
          simp only at D hol
          have ho3 : (o2 ++ [10]).length ≤ 60000 := by simp; omega
          clear hn hol
          generalize hO3 : o2 ++ [10] = o3 at *
          have CL2 : Hid (∀ w, Calls Tryz.prog 38 #[.int .i64 (n : Int), .string ⟨P.toArray⟩] w fun e w' => e = .returned (.tuple #[.int .i64 (n2 : Int), .string ⟨o3.toArray⟩]) ∧ Below w.heap.size w w') := Lib.hid (fun w => (CL.out w).mono (fun e w' h => by rw [← hO3]; exact h))
          clear hO3 CL
          go_wp2_with fail
          refine (CL2.out _).mono ?_
          rintro e w1 ⟨rfl, hb1⟩
          go_wp2_with fail
          go_roundw
          case rel => exact ⟨k + 1, k + 1, n2, t ++ o3, by omega, by go_num, by go_num, rfl, congrArg _ (str_app t o3), D.out, hbel.trans (hb1.mono hsz)⟩
          case measure => simp [intOf]; omega
        · have D := Lib.hid (HN.out _ _ _ hS hlt hx)
          have hbn : (l.getD k 0).toNat ≠ 10 := fun e => hx (by rw [← UInt8.ofNat_toNat (x := l.getD k 0), e]; rfl)
          generalize (l.getD k 0).toNat = z at *
          have hbi : (((z : Nat) : Int) == 10) = false := by rw [beq_eq_false_iff_ne]; omega
          clear hbn hx hS
          go_wp2_with fail
          go_roundw
          case rel => exact ⟨k + 1, f, n, t, by omega, by go_num, rfl, rfl, rfl, D.out, hbel⟩
          case measure => simp [intOf]; omega
      · have hkl : k = l.length := by omega
        subst hkl
        have HQ := Lib.hid (HE.out _ _ hS)
        have CD := Lib.hid (fun w => l6Dec_any n w (by omega))
        have hdl : (dec n).length ≤ 9 := dec_length 8 (by omega)
        clear hS hlt hk hn
        generalize dec n = d at *
        go_wp2_with fail
        refine (CD.out _).mono ?_
        rintro e w1 ⟨rfl, hb1⟩
        go_wp2_with fail
        go_ret
        refine ⟨congrArg (fun x => Ending.returned (.string x)) ?_, hbel.trans (hb1.mono hsz)⟩
        rw [HQ.out]
        exact (congrArg (· ++ (⟨#[10]⟩ : ByteArray)) ((congrArg (· ++ (⟨d.toArray⟩ : ByteArray)) (str_app t wordB)).trans (str_app (t ++ wordB) d))).trans ((str_app (t ++ wordB ++ d) [10]).trans (by simp only [List.append_assoc]))
  · have h6i : (600 : Int) < (l.length : Int) := by omega
    have HE : Hid (exec l = tooLong) := Lib.hid (exec_long l (by omega))
    generalize exec l = EX at *
    clear hl h6
    go_enter Tryz.func12, Tryz.ntmps12
    go_wp2_with fail
    go_ret
    exact ⟨by rw [HE.out]; rfl, Below.refl _ _⟩

end Go.Proofs.YtmgdcnibmifdeaaGreatDoor

