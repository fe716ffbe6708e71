/- The walk of package parity's solve. -/
import Derived.Test.YtiggohkkokalcaaOne
import Derived.BigRegion
import Derived.Deep.RegionHeld3
namespace Go.Proofs.Ytiggohkkokalcaa
open Go.RowKit Go.Proofs.YtiggohkkokalcaaW.PrintWords Go.Proofs.YtiggohkkokalcaaW.PrintMore
set_option linter.unusedVariables false
set_option linter.unusedSimpArgs false

set_option maxRecDepth 100000 in
set_option maxHeartbeats 8000000 in
theorem solve_any (n L B : Nat) (R0 C0 : List (List G)) (v vb : Value) (vs bs : List Value) (w : World) (hn : n ≤ 4) (hL : L ≤ 65536) (hB : B ≤ w.heap.size)
    (HR : Mat w B n v vs R0) (HC : Mat w B n vb bs C0) (HF : Far n n v vs vb bs) (hwr : ∀ r, r < n → (R0.getD r []).length = n) (hwb : ∀ r, r < n → (C0.getD r []).length = L) (hI : Inj n (at2 R0)) :
    Calls Try.prog 52 #[v, vb] w fun e w' => e = .returned (.tuple #[]) ∧ ∃ vs' bs' R C, Mat w' B n v vs' R ∧ Mat w' B n vb bs' C ∧ Far n n v vs' vb bs' ∧ Eqv n L R0 C0 R C ∧ UnitTo n n R ∧ Below B w w' := by
  obtain ⟨A, c1, rfl⟩ := HR.slice
  obtain ⟨Ab, c2, rfl⟩ := HC.slice
  have HHR := Lib.hid HR; have HHC := Lib.hid HC; have HHF := Lib.hid HF; have HHI := Lib.hid hI
  have HE0 := Lib.hid (Eqv.start HR.lr HC.lr hwr hwb)
  clear HR HC HF hI hwr hwb
  go_enter Try.func52, Try.ntmps52
  go_wp2_with fail
  go_loopw [14] (fun i wr => ∃ (k : Nat) (vs bs : List Value) (R C : List (List G)), i = .int .i64 k ∧ k ≤ n ∧ Hid (Mat wr B n (.slice A n c1) vs R) ∧ Hid (Mat wr B n (.slice Ab n c2) bs C) ∧ Hid (Far n n (.slice A n c1) vs (.slice Ab n c2) bs) ∧ Hid (Eqv n L R0 C0 R C) ∧ Hid (UnitTo n k R) ∧ Hid (Below B w wr)) (fun i _ => n - (intOf i).toNat)
  case atStart => exact ⟨0, vs, bs, R0, C0, rfl, Nat.zero_le _, HHR, HHC, HHF, HE0, Lib.hid (fun c hc => by omega), Lib.hid (Below.refl _ _)⟩
  case round =>
    clear HHR HHC HHF HE0
    obtain ⟨i, vs, bs, R, C, rfl, hi, HR, HC, HF, HE, HU, HB⟩ := hrel
    by_cases hlt : i < n
    · obtain ⟨P, hP1, hP2, hP3⟩ := pivot HHI.out HE.out HU.out hlt
      have HP3 := Lib.hid hP3
      clear hP3
      obtain ⟨g, cap, he, hgB, hgl⟩ := HR.out.form (by omega)
      injection he with he1 _ he2
      subst he1 he2
      obtain ⟨gb, capb, he, hgbB, hgbl⟩ := HC.out.form (by omega)
      injection he with he1 _ he2
      subst he1 he2
      go_wp2_with fail
      go_loop [5] (fun p => ∃ k : Nat, p = .int .i64 k ∧ i ≤ k ∧ k ≤ P) (fun p => P - (intOf p).toNat)
      case atStart => exact ⟨i, rfl, Nat.le_refl _, hP1⟩
      case round =>
        obtain ⟨p, rfl, hp1, hp2⟩ := hrel
        have hpn : p < n := by omega
        obtain ⟨hcell, hfz⟩ := HR.out.cell p hpn
        have hlp : (rat R p).length = n := HE.out.wr p hpn
        have hOp := HR.out.row p hpn
        obtain ⟨Ap, cp, hvp, _, _⟩ := V_open hOp.V
        rw [hvp] at hcell hOp
        obtain ⟨adp, rfl, hcb, _⟩ := Vb_cell hOp.V i (by omega)
        have hxe : (rat R p).getD i 0 = at2 R p i := rfl
        rw [hxe] at hcb
        rw [hlp] at hcell hvp
        have HVP := Lib.hid hvp
        clear hvp hOp hxe hlp
        by_cases hz : at2 R p i = 0
        · have hbz : (toI (at2 R p i) == 0) = true := by rw [beq_iff_eq, toI_eq_zero]; exact hz
          have hne : p ≠ P := fun e => HP3.out (by rw [← e]; exact hz)
          clear hz
          go_wp2_with fail
          refine ⟨⟨p + 1, by go_num, by omega, by omega⟩, by simp [intOf]; omega⟩
        · have hbz : (toI (at2 R p i) == 0) = false := by rw [beq_eq_false_iff_ne, Ne, toI_eq_zero]; exact hz
          have HZ := Lib.hid hz
          clear hz
          go_wp2_with fail
          clear hcb hbz
          obtain ⟨hcelli, hfzi⟩ := HR.out.cell i hlt
          have hOi := HR.out.row i hlt
          obtain ⟨Ai, ci, hvi, _, _⟩ := V_open hOi.V
          rw [hvi] at hcelli
          have hli : (rat R i).length = n := HE.out.wr i hlt
          rw [hli] at hcelli hvi
          have HVI := Lib.hid hvi
          clear hvi hOi hli
          have hsw := HR.out.drew.swap hlt hpn
          rw [HVP.out, HVI.out] at hsw
          have HSW := Lib.hid hsw
          clear hsw
          obtain ⟨v1, hy1⟩ := cell?_setCell_some (w := wr) (p := ⟨g, i, none⟩) (x := .slice (some adp) n cp) (q := ⟨g, p, none⟩) (v := .slice (some adp) n cp) hcell
          go_region
          have hM1 : Mat ((wr.setCell ⟨g, i, none⟩ (.slice (some adp) n cp)).setCell ⟨g, p, none⟩ (.slice Ai n ci)).drew B n (.slice (some ⟨g, 0, none⟩) n c1) (swapAt nilS vs i p) (swapAt [] R i p) := HSW.out.1
          have hG1 : wr.drew.grownBy ((wr.setCell ⟨g, i, none⟩ (.slice (some adp) n cp)).setCell ⟨g, p, none⟩ (.slice Ai n ci)).drew (some g) := HSW.out.2
          generalize ((wr.setCell ⟨g, i, none⟩ (.slice (some adp) n cp)).setCell ⟨g, p, none⟩ (.slice Ai n ci)).drew = W1 at *
          clear hy1 hcell hcelli hfz hfzi
          have HM1 := Lib.hid hM1
          have hsame : ∀ r, r < n → (vat bs r).ownBlock = none ∨ (vat bs r).ownBlock ≠ some g := fun r hr => (Ap2.symm (HR.out.outer (HC.out.row r hr)))
          have HC1 := Lib.hid (HC.out.drew.grown hG1 (Ap2.symm HF.out.1) hsame)
          have HF1 := Lib.hid (HF.out.swap HR.out.lv hlt hpn)
          have HB1 := Lib.hid ((HB.out.drew).trans (below_row hG1 (Nat.le_trans hB HB.out.size) (fun k hk => by injection hk with hk; omega)))
          clear hM1 hG1 hsame HSW HC HF HB HR HVP HVI
          have HZ1 := Lib.hid (show at2 (swapAt [] R i p) i i ≠ 0 by rw [at2_swap HE.out.lr hlt hpn]; unfold tSwap; rw [if_pos rfl]; exact HZ.out)
          have HU1 := Lib.hid (HU.out.swap HE.out.lr hlt hp1 hpn)
          have HE1 := Lib.hid (HE.out.swap hlt hpn)
          have hlb : ∀ r, r < n → (rat C r).length = L := fun r hr => HE.out.wb r hr
          clear HZ HU HE HP3
          generalize swapAt nilS vs i p = vs1 at *
          generalize swapAt [] R i p = R1 at *
          obtain ⟨hcell, hfz⟩ := HC1.out.cell p hpn
          obtain ⟨hcelli, hfzi⟩ := HC1.out.cell i hlt
          obtain ⟨Bp, bp, hvp, _, _⟩ := V_open (HC1.out.row p hpn).V
          obtain ⟨Bi, bi, hvi, _, _⟩ := V_open (HC1.out.row i hlt).V
          rw [hlb p hpn] at hvp
          rw [hlb i hlt] at hvi
          rw [hvp] at hcell
          rw [hvi] at hcelli
          have hsw := HC1.out.drew.swap hlt hpn
          rw [hvp, hvi] at hsw
          have HSW := Lib.hid hsw
          clear hsw hvp hvi hlb
          obtain ⟨v1, hy1⟩ := cell?_setCell_some (w := W1) (p := ⟨gb, i, none⟩) (x := .slice Bp L bp) (q := ⟨gb, p, none⟩) (v := .slice Bp L bp) hcell
          go_wp2_with fail
          go_region
          have hM1 : Mat ((W1.setCell ⟨gb, i, none⟩ (.slice Bp L bp)).setCell ⟨gb, p, none⟩ (.slice Bi L bi)).drew B n (.slice (some ⟨gb, 0, none⟩) n c2) (swapAt nilS bs i p) (swapAt [] C i p) := HSW.out.1
          have hG1 : W1.drew.grownBy ((W1.setCell ⟨gb, i, none⟩ (.slice Bp L bp)).setCell ⟨gb, p, none⟩ (.slice Bi L bi)).drew (some gb) := HSW.out.2
          generalize ((W1.setCell ⟨gb, i, none⟩ (.slice Bp L bp)).setCell ⟨gb, p, none⟩ (.slice Bi L bi)).drew = W2 at *
          clear hy1 hcell hcelli hfz hfzi
          have HC2 := Lib.hid hM1
          have hsame : ∀ r, r < n → (vat vs1 r).ownBlock = none ∨ (vat vs1 r).ownBlock ≠ some gb := fun r hr => (Ap2.symm (HC1.out.outer (HM1.out.row r hr)))
          have HM2 := Lib.hid (HM1.out.drew.grown hG1 (HF1.out.1) hsame)
          have HF2 := Lib.hid ((HF1.out.symm.swap HC1.out.lv hlt hpn).symm)
          have HB2 := Lib.hid ((HB1.out.drew).trans (below_row hG1 (Nat.le_trans hB HB1.out.size) (fun k hk => by injection hk with hk; omega)))
          clear hM1 hG1 hsame HSW HC1 HF1 HB1 HM1
          generalize swapAt nilS bs i p = bs1 at *
          generalize swapAt [] C i p = C1 at *
          obtain ⟨hcell, hfz⟩ := HM2.out.cell i hlt
          obtain ⟨Ai, ci, hvi, _, _⟩ := V_open (HM2.out.row i hlt).V
          have hOi := HM2.out.row i hlt
          have hli : (rat R1 i).length = n := HE1.out.wr i hlt
          rw [hvi] at hOi hcell
          obtain ⟨adi, rfl, hcb, _⟩ := Vb_cell hOi.V i (by omega)
          have hxe : (rat R1 i).getD i 0 = at2 R1 i i := rfl
          rw [hxe] at hcb
          rw [hli] at hcell hvi
          have HVI := Lib.hid hvi
          clear hvi hOi hli hxe
          have HPS := Lib.hid (Prog.start HE1.out HU1.out hlt HZ1.out)
          have hx0 := HZ1.out
          generalize at2 R1 i i = x at *
          have HIV := Lib.hid (inv_pos x W2 hx0)
          clear hx0
          go_wp2_with fail
          refine HIV.out.mono ?_
          rintro e W3 ⟨rfl, hB3⟩
          have hcf := callFunc75
          have hc3 := pw_cell_below hB3 hcell
          have hg3 : g < W3.heap.size := World.block_lt_of_cell? W3 _ hc3
          have HB3 := Lib.hid hB3
          clear hB3 hcell hcb hfz
          go_wp2_with fail
          have hcp : (W3.alloc (.cells #[.int .u8 (toI (ginv x))] 5)).cell? ⟨W3.heap.size, 0, none⟩ = some (.int .u8 (toI (ginv x))) := World.cell?_alloc_new _ _ _ _
          have hB4 : Below W2.heap.size W2 (W3.alloc (.cells #[.int .u8 (toI (ginv x))] 5)) := below_alloc HB3.out _
          have hM4 := HM2.out.below hB4
          have hC4 := HC2.out.below hB4
          have hlt3 : ∀ k, (Value.slice (some adi) n ci).ownBlock = some k → k < W3.heap.size := fun k hk => by
            have := ((HM2.out.row i hlt).below HB3.out)
            rw [HVI.out] at this
            exact (World.ownsRow.lt this k hk).2
          have hltb : ∀ k, (vat bs1 i).ownBlock = some k → k < W3.heap.size := fun k hk => (World.ownsRow.lt ((HC2.out.row i hlt).below HB3.out) k hk).2
          have HB4 := Lib.hid (HB2.out.trans (hB4.mono (Nat.le_trans hB HB2.out.size)))
          clear hB4 HB3 HB2 HM2 HC2
          generalize W3.alloc (.cells #[.int .u8 (toI (ginv x))] 5) = W4 at *
          have hO4 := hM4.row i hlt
          rw [HVI.out] at hO4
          refine (scale_any (rat R1 i) _ (ginv x) ⟨W3.heap.size, 0, none⟩ W4 (own_less hO4 (Nat.zero_le _)) hcp (fun he => by have := hlt3 _ he.symm; change W3.heap.size < W3.heap.size at this; omega)).mono ?_
          rintro e W5 ⟨rfl, hG5, hO5⟩
          have hcp5 := hG5.cell hcp (fun he => by have := hlt3 _ he.symm; change W3.heap.size < W3.heap.size at this; omega)
          rw [← HVI.out] at hG5 hO5
          have hM5 := hM4.wrote hlt hG5 hO5
          have hC5 := hC4.other hM4 HF2.out.symm hlt hG5
          have hB5 := HB4.out.trans (below_row hG5 (Nat.le_trans hB HB4.out.size) (hM4.block hlt))
          obtain ⟨hcell, hfz⟩ := hC5.cell i hlt
          obtain ⟨Bi, bi, hvb, _, _⟩ := V_open (hC5.row i hlt).V
          have hOb := hC5.row i hlt
          rw [hvb] at hcell hOb
          have HVB := Lib.hid hvb
          have HM5 := Lib.hid hM5; have HC5 := Lib.hid hC5; have HB5 := Lib.hid hB5
          have HOB := Lib.hid hOb; have HCP5 := Lib.hid hcp5
          have HLB := Lib.hid hltb
          clear hvb hM5 hC5 hB5 hOb hcp5 hltb hG5 hO5 hO4 hM4 hC4 hcp hlt3 hc3
          go_wp2_with fail
          rw [HVB.out] at HLB
          refine (scale_any (rat C1 i) _ (ginv x) ⟨W3.heap.size, 0, none⟩ W5 (own_less HOB.out (Nat.zero_le _)) HCP5.out (fun he => by have := HLB.out _ he.symm; change W3.heap.size < W3.heap.size at this; omega)).mono ?_
          rintro e W6 ⟨rfl, hG6, hO6⟩
          rw [← HVB.out] at hG6 hO6
          have HC6 := Lib.hid (HC5.out.wrote hlt hG6 hO6)
          have HM6 := Lib.hid (HM5.out.other HC5.out HF2.out hlt hG6)
          have HB6 := Lib.hid (HB5.out.trans (below_row hG6 (Nat.le_trans hB HB5.out.size) (HC5.out.block hlt)))
          clear hG6 hO6 HOB HCP5 HLB HB5 HM5 HC5 HB4 hcell hfz HE1 HU1 HZ1 HIV hcf HVI HVB
          generalize R1.set i (scaleG (ginv x) (rat R1 i)) = R2 at *
          generalize C1.set i (scaleG (ginv x) (rat C1 i)) = C2 at *
          go_wp2_with fail
          obtain ⟨B0, hB0⟩ : ∃ b, b = B := ⟨_, rfl⟩
          go_loopw [82] (fun q wq => ∃ (k : Nat) (R3 C3 : List (List G)), q = .int .i64 k ∧ k ≤ n ∧ Hid (Mat wq B n (.slice (some ⟨g, 0, none⟩) n c1) vs1 R3) ∧ Hid (Mat wq B n (.slice (some ⟨gb, 0, none⟩) n c2) bs1 C3) ∧ Hid (Prog n L i k R0 C0 R3 C3) ∧ Hid (Below B w wq)) (fun q _ => n - (intOf q).toNat)
          case atStart => exact ⟨0, R2, C2, rfl, Nat.zero_le _, HM6, HC6, HPS, HB6⟩
          case round =>
            clear HM6 HC6 HPS HB6
            obtain ⟨k, R3, C3, rfl, hk, HM, HC, HP, HB⟩ := hrel
            by_cases hkl : k < n
            · obtain ⟨hcell, hfz⟩ := HM.out.cell k hkl
              have hOk := HM.out.row k hkl
              obtain ⟨Ak, ck, hvk, _, _⟩ := V_open hOk.V
              have hlk : (rat R3 k).length = n := HP.out.eqv.wr k hkl
              rw [hvk] at hcell hOk
              obtain ⟨adk, rfl, hcb, _⟩ := Vb_cell hOk.V i (by omega)
              have hxe : (rat R3 k).getD i 0 = at2 R3 k i := rfl
              rw [hxe] at hcb
              rw [hlk] at hcell hvk
              have HVK := Lib.hid hvk
              clear hvk hOk hxe hlk
              by_cases hs : k = i ∨ at2 R3 k i = 0
              · have HS := Lib.hid hs
                clear hs
                by_cases hki : k = i
                · have hkb : ((k : Int) != (i : Int)) = false := by rw [bne_eq_false_iff_eq]; omega
                  have hkc : ((k : Int) == (i : Int)) = true := by rw [beq_iff_eq]; omega
                  have HKI := Lib.hid hki
                  clear hki
                  go_wp2_with fail
                  have hB7 := below_alloc (Below.refl wr.heap.size wr) (.cells #[.int .u8 (toI (at2 R3 k i))] 5)
                  refine ⟨⟨k + 1, R3, C3, by go_num, by omega, Lib.hid (HM.out.below hB7), Lib.hid (HC.out.below hB7), Lib.hid (HP.out.skip HS.out), Lib.hid (HB.out.trans (hB7.mono (Nat.le_trans hB HB.out.size)))⟩, by simp [intOf]; omega⟩
                · have hkb : ((k : Int) != (i : Int)) = true := by rw [bne_iff_ne]; omega
                  have hkc : ((k : Int) == (i : Int)) = false := by rw [beq_eq_false_iff_ne]; omega
                  have hz := HS.out.resolve_left hki
                  have hbz : (toI (at2 R3 k i) == 0) = true := by rw [beq_iff_eq, toI_eq_zero]; exact hz
                  have hbz2 : (toI (at2 R3 k i) != 0) = false := by rw [bne_eq_false_iff_eq, toI_eq_zero]; exact hz
                  clear hki hz
                  go_wp2_with fail
                  have hB7 := below_alloc (Below.refl wr.heap.size wr) (.cells #[.int .u8 (toI (at2 R3 k i))] 5)
                  refine ⟨⟨k + 1, R3, C3, by go_num, by omega, Lib.hid (HM.out.below hB7), Lib.hid (HC.out.below hB7), Lib.hid (HP.out.skip HS.out), Lib.hid (HB.out.trans (hB7.mono (Nat.le_trans hB HB.out.size)))⟩, by simp [intOf]; omega⟩
              · have hki : ((k : Int) != (i : Int)) = true := by rw [bne_iff_ne]; omega
                have hkn : ((k : Int) == (i : Int)) = false := by rw [beq_eq_false_iff_ne]; omega
                have hbz : (toI (at2 R3 k i) == 0) = false := by rw [beq_eq_false_iff_ne, Ne, toI_eq_zero]; exact fun h => hs (.inr h)
                have hbz2 : (toI (at2 R3 k i) != 0) = true := by rw [bne_iff_ne, Ne, toI_eq_zero]; exact fun h => hs (.inr h)
                have hne : k ≠ i := fun h => hs (.inl h)
                clear hs
                go_wp2_with fail
                have hcp : (wr.alloc (.cells #[.int .u8 (toI (at2 R3 k i))] 5)).cell? ⟨wr.heap.size, 0, none⟩ = some (.int .u8 (toI (at2 R3 k i))) := World.cell?_alloc_new _ _ _ _
                have hB7 := below_alloc (Below.refl wr.heap.size wr) (.cells #[.int .u8 (toI (at2 R3 k i))] 5)
                have HM7 := Lib.hid (HM.out.below hB7)
                have HC7 := Lib.hid (HC.out.below hB7)
                have HN1 : Hid (some wr.heap.size ≠ (vat vs1 k).ownBlock) := Lib.hid (fun he => absurd ((World.ownsRow.lt (HM.out.row k hkl) _ he.symm).2) (Nat.lt_irrefl _))
                have HN2 : Hid (some wr.heap.size ≠ (vat bs1 k).ownBlock) := Lib.hid (fun he => absurd ((World.ownsRow.lt (HC.out.row k hkl) _ he.symm).2) (Nat.lt_irrefl _))
                have HB7 := Lib.hid (HB.out.trans (hB7.mono (Nat.le_trans hB HB.out.size)))
                clear hB7 HM HC HB hcell hfz hcb hki hkn hbz hbz2
                generalize wr.alloc (.cells #[.int .u8 (toI (at2 R3 k i))] 5) = W7 at *
                have HCP := Lib.hid hcp
                clear hcp
                obtain ⟨hc1, _⟩ := HC7.out.cell k hkl
                obtain ⟨hc2, _⟩ := HC7.out.cell i hlt
                obtain ⟨Bk, bk, hvk, _, _⟩ := V_open (HC7.out.row k hkl).V
                obtain ⟨Bi, bi, hvi, _, _⟩ := V_open (HC7.out.row i hlt).V
                have hlk : (rat C3 k).length = L := HP.out.eqv.wb k hkl
                have hli : (rat C3 i).length = L := HP.out.eqv.wb i hlt
                rw [hlk] at hvk
                rw [hli] at hvi
                rw [hvk] at hc1
                rw [hvi] at hc2
                have hgb7 : gb < W7.heap.size := World.block_lt_of_cell? W7 _ hc1
                have HS1 := Lib.hid (sum1_drew (rat C3 k) (rat C3 i) (at2 R3 k i) (vat bs1 k) (vat bs1 i) ⟨wr.heap.size, 0, none⟩ W7 B (own_less (HC7.out.row k hkl) (Nat.zero_le _)) (HC7.out.row i hlt) (HC7.out.ap i k hlt hkl (Ne.symm hne)) (by rw [hlk, hli]; exact Nat.le_refl _) HCP.out HN2.out)
                rw [hvk, hvi] at HS1
                have HVK2 := Lib.hid hvk
                clear hvk hvi hlk hli
                go_region_with (go_at_call 40; refine HS1.out.mono ?_; rintro e W8 ⟨rfl, hG8, hO8⟩; have HG8 := Lib.hid hG8; have HO8 := Lib.hid hO8; clear hG8 hO8)
                all_goals clear HS1 hc1 hc2
                all_goals
                  rw [← HVK2.out] at HG8 HO8
                  have HC8 := Lib.hid (HC7.out.wrote hkl HG8.out HO8.out)
                  have HM8 := Lib.hid (HM7.out.other HC7.out HF2.out hkl HG8.out)
                  have HB8 := Lib.hid (HB7.out.trans (below_row HG8.out (Nat.le_trans hB HB7.out.size) (HC7.out.block hkl)))
                  have hcp := HG8.out.cell HCP.out HN2.out
                  have hlt8 : wr.heap.size < W8.heap.size := World.block_lt_of_cell? W8 _ hcp
                  clear HC7 HM7 HB7 HG8 HO8 HCP HVK2 hgb7
                  obtain ⟨hc1, _⟩ := HM8.out.cell k hkl
                  obtain ⟨hc2, _⟩ := HM8.out.cell i hlt
                  obtain ⟨Ai, ai, hvi, _, _⟩ := V_open (HM8.out.row i hlt).V
                  have hli : (rat R3 i).length = n := HP.out.eqv.wr i hlt
                  have hlk : (rat R3 k).length = n := HP.out.eqv.wr k hkl
                  rw [hli] at hvi
                  rw [HVK.out] at hc1
                  rw [hvi] at hc2
                  have hog : some g ≠ (vat vs1 k).ownBlock := by
                    rcases HM8.out.outer (HM8.out.row k hkl) with h | h
                    · cases h
                    · exact h
                  rw [HVK.out] at hog
                  have HOG := Lib.hid hog
                  clear hog
                  have hg8 : g < W8.heap.size := World.block_lt_of_cell? W8 _ hc1
                  have HCL := Lib.hid (clone_any (rat R3 i) (vat vs1 i) W8.drew _ (HM8.out.drew.row i hlt).V (by omega))
                  rw [hvi] at HCL
                  have HS2 := fun (Wc : World) (u : Value) (hO : OwnB Wc W8.drew.heap.size u (rat R3 i)) (hBc : Below W8.drew.heap.size W8.drew Wc) => sum1_any (rat R3 k) (rat R3 i) (at2 R3 k i) (vat vs1 k) u ⟨wr.heap.size, 0, none⟩ Wc W8.drew.heap.size (own_less ((HM8.out.drew.row k hkl).below hBc) (Nat.zero_le _)) hO
                    (by
                      cases hu : u.ownBlock
                      · exact .inl hu
                      · rename_i q
                        refine .inr (fun he => ?_)
                        have h1 := (World.ownsRow.lt hO q hu).1
                        have h2 := (World.ownsRow.lt (HM8.out.row k hkl) q (by rw [← he, hu])).2
                        exact absurd (Nat.le_trans h2 h1) (Nat.not_succ_le_self _)) (by rw [hli, hlk]; exact Nat.le_refl _) (pw_cell_below hBc hcp) HN1.out
                  rw [HVK.out] at HS2
                  have HS2 := Lib.hid HS2
                  have HLT := Lib.hid hlt8
                  clear hvi hli hlk hcp hlt8
                  go_wp2_with fail
                  go_region_held3 (fun W => W.cell? ⟨g, k, none⟩ = some (.slice (some adk) n ck) ∧ W.cell? ⟨g, i, none⟩ = some (.slice Ai n ai) ∧ g < W.heap.size) (first | exact ⟨hc1, hc2, hg8⟩ | exact ⟨pw_cell_below (w := W8.drew) HBc.out hc1, pw_cell_below (w := W8.drew) HBc.out hc2, hgc⟩ | exact ⟨HG9.out.cell (pw_cell_below (w := W8.drew) HBc.out hc1) HOG.out, HG9.out.cell (pw_cell_below (w := W8.drew) HBc.out hc2) HOG.out, Nat.lt_of_lt_of_le hgc HG9.out.size⟩ | exact ⟨pw_cell_below (below_alloc (W := Wc) (Below.refl _ _) _) (pw_cell_below (w := W8.drew) HBc.out hc1), pw_cell_below (below_alloc (W := Wc) (Below.refl _ _) _) (pw_cell_below (w := W8.drew) HBc.out hc2), Nat.lt_of_lt_of_le hgc (below_alloc (W := Wc) (Below.refl Wc.heap.size _) _).size⟩) (first | (go_at_call 50; refine HCL.out.mono ?_; rintro e Wc ⟨u, rfl, hOc, hBc⟩; obtain ⟨Au, au, rfl, _, _⟩ := V_open hOc.V; have HS3 := Lib.hid (HS2.out Wc _ hOc hBc); have HBc := Lib.hid hBc; have hgc : g < Wc.heap.size := Nat.lt_of_lt_of_le hg8 hBc.size; clear hOc hBc) | (go_at_call 40; refine HS3.out.mono ?_; rintro e W9 ⟨rfl, hG9, hO9⟩; have HG9 := Lib.hid hG9; have HO9 := Lib.hid hO9; clear hG9 hO9))
                  all_goals go_wp2_with fail
                  all_goals
                    rw [← HVK.out] at HG9 HO9
                    have hM := HM8.out.drew.below HBc.out
                    have hC := HC8.out.drew.below HBc.out
                    have hBB := HB8.out.drew.trans (HBc.out.mono (Nat.le_trans hB HB8.out.size))
                    refine ⟨⟨k + 1, _, _, by go_num, by omega, Lib.hid (hM.wrote hkl HG9.out HO9.out), Lib.hid (hC.other hM HF2.out.symm hkl HG9.out), Lib.hid (HP.out.add hlt hkl hne), Lib.hid (hBB.trans (below_row HG9.out (Nat.le_trans hB hBB.size) (hM.block hkl)))⟩, by simp [intOf]; omega⟩
            · obtain rfl : k = n := by omega
              go_wp2_with fail
              refine ⟨⟨i + 1, vs1, bs1, R3, C3, by go_num, by omega, HM, HC, HF2, Lib.hid HP.out.eqv, Lib.hid (HP.out.done hlt), HB⟩, by simp [intOf]; omega⟩
    · obtain rfl : i = n := by omega
      go_wp2_with fail
      go_end0
      exact ⟨rfl, vs, bs, R, C, HR.out, HC.out, HF.out, HE.out, HU.out, HB.out⟩
end Go.Proofs.Ytiggohkkokalcaa
