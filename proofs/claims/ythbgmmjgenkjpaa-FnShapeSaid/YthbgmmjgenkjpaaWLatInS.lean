/- Contracts of the reference's LatticeIn. -/
import Derived.Test.YthbgmmjgenkjpaaWLatIn
import Derived.Test.YthbgmmjgenkjpaaLatInS
set_option linter.unusedVariables false
namespace Go.Proofs.Ythbgmmjgenkjpaa
open Go.RowKit Res

set_option maxRecDepth 100000 in
theorem specLatticeIn_ok (a : Option Addr) (cap : Nat) (l : List Int) (w : World) (hr : Reads .i64 w a l) (hv : vecOk l = true) :
    Calls Try.prog 40 #[.slice a l.length cap] w fun e w' => e = .returned (.bool (latB l)) ∧ Below w.heap.size w w' := by
  obtain ⟨hl, hbd⟩ := vecOk_bd hv
  have C1 := Lib.hid (specVectorValid_any a cap l w (by omega) hr)
  rw [hv, hl] at C1
  rw [hl]
  obtain ⟨b, off, ha, hb, hc⟩ := hr 0 (by omega)
  subst ha
  rw [Nat.add_zero] at hc
  have HL := Lib.hid hl
  have HB := Lib.hid hbd
  have HS := Lib.hid (fun k => sumTo_bd hbd k)
  clear hv hl hbd
  go_enter Try.func40, Try.ntmps40
  go_wp2_with fail
  refine (C1.out).mono ?_
  rintro e w' ⟨rfl, rfl⟩
  go_wp2_with fail
  go_loopw [3, 5] (fun s x wr => ∃ k : Nat, k ≤ 24 ∧ x = .int .i64 (k : Int) ∧ s = .int .i64 (sumTo l k) ∧ IsArr wr w.heap.size (fun r => rw4 l r k) ∧ Below w.heap.size w wr)
    (fun _ x _ => (24 - (intOf x).toNat))
  case atStart =>
    refine ⟨0, by omega, rfl, rfl, ?_, (Below.refl _ _).alloc (Nat.le_refl _) _⟩
    have := heap_alloc_new w (.cells #[.int .i64 0, .int .i64 0, .int .i64 0, .int .i64 0] 53)
    exact this
  case round =>
    obtain ⟨k, hk, rfl, rfl, hA, hbel⟩ := hrel
    by_cases hlt : k < 24
    · have hl := HL.out
      obtain ⟨b', off', ha', -, hck⟩ := hr k (by omega)
      simp only [Option.some.injEq, Addr.mk.injEq, and_true] at ha'
      obtain ⟨rfl, rfl⟩ := ha'
      have hcy : wr.cell? ⟨b, off + k, none⟩ = some (.int .i64 (l.getD k 0)) := by rw [hbel.cell (p := ⟨b, off + k, none⟩) hb]; exact hck
      have hyb := HB.out k
      have hsb := HS.out k
      have hki : (k : Int) < 24 := by omega
      have S1 : Hid (sumTo l (k + 1) = sumTo l k + l.getD k 0) := Lib.hid rfl
      have A1 := Lib.hid (rw4_add l k)
      have A2 := Lib.hid (fun r => rw4_le l r k hk)
      clear hck hl hc
      generalize sumTo l k = sm at *
      generalize l.getD k 0 = y at *
      obtain ⟨q, hq⟩ := Int.eq_ofNat_of_zero_le (show 0 ≤ y % 4 by omega)
      have hq4 : q < 4 := by omega
      have hqi : (q : Int) < 4 := by omega
      have Cm := Lib.hid (fun w => l9Rest_any y 4 w (by omega) (by omega))
      rw [hq] at Cm A1
      rw [Int.toNat_natCast] at A1
      have hfq := A2.out q
      obtain ⟨hcq, hfz⟩ := hA.at q hq4
      have hAd : IsArr wr.drew w.heap.size (fun r => rw4 l r k) := hA
      have hst := hAd.store q hq4 (rw4 l q k + 2 ^ k)
      have hcd : wr.drew.cell? ⟨w.heap.size, q, none⟩ = some (.int .i64 (rw4 l q k : Nat)) := hcq
      have hfd : wr.drew.frozen? ⟨w.heap.size, q, none⟩ = false := hfz
      have hor := add_step (m := rw4 l q k) (k := k) (by omega) (by omega)
      have hst2 : IsArr (wr.drew.setCell ⟨w.heap.size, q, none⟩ (.int .i64 ((rw4 l q k + 2 ^ k : Nat) : Int))) w.heap.size (fun r => rw4 l r (k + 1)) := by
        rw [A1.out]
        have e : (fun r => if r = q then rw4 l r k + 2 ^ k else rw4 l r k) = fun r => if r = q then rw4 l q k + 2 ^ k else rw4 l r k := by
          funext r
          by_cases h : r = q
          · subst h; rfl
          · rw [if_neg h, if_neg h]
        rw [e]
        exact hst
      have HST := Lib.hid hst2
      clear hq A1 hst hst2 hA hAd
      generalize hm : rw4 l q k = m at *
      clear hm
      have HOR := Lib.hid hor
      go_wp2_with fail
      refine (Cm.out _).mono ?_
      rintro e w' ⟨rfl, rfl⟩
      go_wp2_with fail
      go_still_tail 8, (by kernel_rfl)
      change wpList _ _ _ _ _ wr.drew
      go_wp2
      go_roundw
      case rel =>
        refine ⟨k + 1, by omega, by go_num, by rw [S1.out], ?_, hbel.drew.setCell (p := ⟨w.heap.size, q, none⟩) (Nat.le_refl _) _⟩
        first
          | exact HST.out
          | (have h := HST.out; rw [← HOR.out] at h; exact h)
          | (have h := HST.out; push_cast at h; exact h)
      case measure => simp [intOf]; omega
    · have K : k = 24 := by omega
      have hs := HS.out k
      have hge : (24 : Int) ≤ (k : Int) := by omega
      have hc' : wr.cell? ⟨b, off, none⟩ = some (.int .i64 (l.getD 0 0)) := by rw [hbel.cell (p := ⟨b, off, none⟩) hb]; exact hc
      obtain ⟨o, ho⟩ := Int.eq_ofNat_of_zero_le (show 0 ≤ l.getD 0 0 % 2 by omega)
      have ho2 : o < 2 := by omega
      have Co := Lib.hid (fun w => l9Rest_any (l.getD 0 0) 2 w (by omega) (by omega))
      rw [ho] at Co
      have A2 := Lib.hid (fun r => rw4_le l r k hk)
      have N1 : Hid (rw4 l (1 - o) k = 0 → rw4 l (3 - o) k = 0 → latB l = (codeB (rw4 l o k) && codeB (rw4 l (2 + o) k) && sumTo l k % 8 == 4 * (o : Int))) := by rw [K]; exact Lib.hid (latB_words ho)
      have N2 : Hid (¬ (rw4 l (1 - o) k = 0 ∧ rw4 l (3 - o) k = 0) → latB l = false) := by rw [K]; exact Lib.hid (latB_not ho)
      have ca1 := (hA.at (1 - o) (by omega)).1
      have ca2 := (hA.at (3 - o) (by omega)).1
      have ca3 := (hA.at o (by omega)).1
      have ca4 := (hA.at (2 + o) (by omega)).1
      have b3 := A2.out o
      have b4 := A2.out (2 + o)
      clear K hA hc ho A2
      generalize sumTo l k = sm at *
      generalize l.getD 0 0 = l0 at *
      obtain rfl | rfl : o = 0 ∨ o = 1 := by omega
      · have ca1' : wr.cell? ⟨w.heap.size, 1, none⟩ = some (.int .i64 (rw4 l 1 k : Nat)) := ca1
        have ca2' : wr.cell? ⟨w.heap.size, 3, none⟩ = some (.int .i64 (rw4 l 3 k : Nat)) := ca2
        have ca3' : wr.cell? ⟨w.heap.size, 0, none⟩ = some (.int .i64 (rw4 l 0 k : Nat)) := ca3
        have ca4' : wr.cell? ⟨w.heap.size, 2, none⟩ = some (.int .i64 (rw4 l 2 k : Nat)) := ca4
        have Co' : Hid (∀ w, Calls Try.prog 72 #[.int .i64 l0, .int .i64 2] w fun e w' => e = .returned (.int .i64 0) ∧ w = w') := Lib.hid Co.out
        have N1' : Hid (rw4 l 1 k = 0 → rw4 l 3 k = 0 → latB l = (codeB (rw4 l 0 k) && codeB (rw4 l 2 k) && sm % 8 == 4 * (0 : Int))) := Lib.hid N1.out
        have N2' : Hid (¬ (rw4 l 1 k = 0 ∧ rw4 l 3 k = 0) → latB l = false) := Lib.hid N2.out
        have b3' : rw4 l 0 k ≤ 16777215 := b3
        have b4' : rw4 l 2 k ≤ 16777215 := b4
        have hglt := cell_lt ca4'
        clear ca1 ca2 ca3 ca4 Co N1 N2 b3 b4
        generalize rw4 l 1 k = u1 at *
        generalize rw4 l 3 k = u2 at *
        generalize rw4 l 0 k = u3 at *
        generalize rw4 l 2 k = u4 at *
        go_wp2_with fail
        refine (Co'.out _).mono ?_
        rintro e w' ⟨rfl, rfl⟩
        by_cases h1 : u1 = 0
        · have z1 : ((u1 : Int) != 0) = false := by rw [h1]; rfl
          by_cases h2 : u2 = 0
          · have z2 : ((u2 : Int) != 0) = false := by rw [h2]; rfl
            have L := Lib.hid (N1'.out h1 h2)
            clear h1 h2 N1' N2'
            go_wp2_with fail
            refine (l3In_ok _ _ (by omega) (by omega)).mono ?_
            rintro e w1 ⟨rfl, hs1⟩
            rw [Int.toNat_natCast]
            have hb1 := hbel.trans (hs1.mono hbel.size)
            cases hc3 : codeB u3
            · go_wp2_with fail
              go_ret
              exact ⟨ret_bool (by rw [L.out, hc3]; rfl), hb1⟩
            · have ca5 : w1.cell? ⟨w.heap.size, 2, none⟩ = some (.int .i64 (u4 : Int)) := by rw [hs1.cell (p := ⟨w.heap.size, 2, none⟩) hglt]; exact ca4'
              go_wp2_with fail
              refine (l3In_ok _ _ (by omega) (by omega)).mono ?_
              rintro e w2 ⟨rfl, hs2⟩
              rw [Int.toNat_natCast]
              have hb2 := hb1.trans (hs2.mono hb1.size)
              cases hc4 : codeB u4
              · go_wp2_with fail
                go_ret
                exact ⟨ret_bool (by rw [L.out, hc4, Bool.and_false]; rfl), hb2⟩
              · go_wp2_with fail
                refine (l9Rest_any _ _ _ (by omega) (by omega)).mono ?_
                rintro e w' ⟨rfl, rfl⟩
                go_wp2_with fail
                go_ret
                exact ⟨ret_bool (by rw [L.out, hc3, hc4]; rfl), hb2⟩
          · have z2 : ((u2 : Int) != 0) = true := by rw [bne_iff_ne]; omega
            have L := Lib.hid (N2'.out (fun h => h2 h.2))
            clear h1 h2 N1' N2'
            go_wp2_with fail
            go_ret
            exact ⟨ret_bool L.out.symm, hbel⟩
        · have z1 : ((u1 : Int) != 0) = true := by rw [bne_iff_ne]; omega
          have L := Lib.hid (N2'.out (fun h => h1 h.1))
          clear h1 N1' N2'
          go_wp2_with fail
          go_ret
          exact ⟨ret_bool L.out.symm, hbel⟩
      · have ca1' : wr.cell? ⟨w.heap.size, 0, none⟩ = some (.int .i64 (rw4 l 0 k : Nat)) := ca1
        have ca2' : wr.cell? ⟨w.heap.size, 2, none⟩ = some (.int .i64 (rw4 l 2 k : Nat)) := ca2
        have ca3' : wr.cell? ⟨w.heap.size, 1, none⟩ = some (.int .i64 (rw4 l 1 k : Nat)) := ca3
        have ca4' : wr.cell? ⟨w.heap.size, 3, none⟩ = some (.int .i64 (rw4 l 3 k : Nat)) := ca4
        have Co' : Hid (∀ w, Calls Try.prog 72 #[.int .i64 l0, .int .i64 2] w fun e w' => e = .returned (.int .i64 1) ∧ w = w') := Lib.hid Co.out
        have N1' : Hid (rw4 l 0 k = 0 → rw4 l 2 k = 0 → latB l = (codeB (rw4 l 1 k) && codeB (rw4 l 3 k) && sm % 8 == 4 * (1 : Int))) := Lib.hid N1.out
        have N2' : Hid (¬ (rw4 l 0 k = 0 ∧ rw4 l 2 k = 0) → latB l = false) := Lib.hid N2.out
        have b3' : rw4 l 1 k ≤ 16777215 := b3
        have b4' : rw4 l 3 k ≤ 16777215 := b4
        have hglt := cell_lt ca4'
        clear ca1 ca2 ca3 ca4 Co N1 N2 b3 b4
        generalize rw4 l 0 k = u1 at *
        generalize rw4 l 2 k = u2 at *
        generalize rw4 l 1 k = u3 at *
        generalize rw4 l 3 k = u4 at *
        go_wp2_with fail
        refine (Co'.out _).mono ?_
        rintro e w' ⟨rfl, rfl⟩
        by_cases h1 : u1 = 0
        · have z1 : ((u1 : Int) != 0) = false := by rw [h1]; rfl
          by_cases h2 : u2 = 0
          · have z2 : ((u2 : Int) != 0) = false := by rw [h2]; rfl
            have L := Lib.hid (N1'.out h1 h2)
            clear h1 h2 N1' N2'
            go_wp2_with fail
            refine (l3In_ok _ _ (by omega) (by omega)).mono ?_
            rintro e w1 ⟨rfl, hs1⟩
            rw [Int.toNat_natCast]
            have hb1 := hbel.trans (hs1.mono hbel.size)
            cases hc3 : codeB u3
            · go_wp2_with fail
              go_ret
              exact ⟨ret_bool (by rw [L.out, hc3]; rfl), hb1⟩
            · have ca5 : w1.cell? ⟨w.heap.size, 3, none⟩ = some (.int .i64 (u4 : Int)) := by rw [hs1.cell (p := ⟨w.heap.size, 3, none⟩) hglt]; exact ca4'
              go_wp2_with fail
              refine (l3In_ok _ _ (by omega) (by omega)).mono ?_
              rintro e w2 ⟨rfl, hs2⟩
              rw [Int.toNat_natCast]
              have hb2 := hb1.trans (hs2.mono hb1.size)
              cases hc4 : codeB u4
              · go_wp2_with fail
                go_ret
                exact ⟨ret_bool (by rw [L.out, hc4, Bool.and_false]; rfl), hb2⟩
              · go_wp2_with fail
                refine (l9Rest_any _ _ _ (by omega) (by omega)).mono ?_
                rintro e w' ⟨rfl, rfl⟩
                go_wp2_with fail
                go_ret
                exact ⟨ret_bool (by rw [L.out, hc3, hc4]; rfl), hb2⟩
          · have z2 : ((u2 : Int) != 0) = true := by rw [bne_iff_ne]; omega
            have L := Lib.hid (N2'.out (fun h => h2 h.2))
            clear h1 h2 N1' N2'
            go_wp2_with fail
            go_ret
            exact ⟨ret_bool L.out.symm, hbel⟩
        · have z1 : ((u1 : Int) != 0) = true := by rw [bne_iff_ne]; omega
          have L := Lib.hid (N2'.out (fun h => h1 h.1))
          clear h1 N1' N2'
          go_wp2_with fail
          go_ret
          exact ⟨ret_bool L.out.symm, hbel⟩

end Go.Proofs.Ythbgmmjgenkjpaa
