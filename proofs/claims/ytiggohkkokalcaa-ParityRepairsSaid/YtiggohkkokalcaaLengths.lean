/- The walk of the reference's lengths: it answers as package parity's check does. -/
import Derived.Test.YtiggohkkokalcaaOuts
import Derived.Test.YtiggohkkokalcaaCheck
import Derived.Deep.QuietTactic
import Derived.BigQuiet
namespace Go.Proofs.Ytiggohkkokalcaa
open Go.RowKit Go.Proofs.YtiggohkkokalcaaW.PrintWords Go.Proofs.YtiggohkkokalcaaW.PrintMore
set_option linter.unusedVariables false
set_option linter.unusedSimpArgs false
attribute [local go_sem] max2_int max_two

set_option maxRecDepth 100000 in
set_option maxHeartbeats 4000000 in
theorem lengths_any (bss pss : List (List G)) (xs : List Int) (vb vp vi : Value) (w : World) (HV : Vbb w (fun _ => True) vb bss) (HP : Vbb w (fun _ => True) vp pss) (HI : Vi w (fun _ => True) vi xs) :
    Calls Try.prog 56 #[vb, vp, vi] w fun e w' => ChkPost bss pss xs w e w' := by
  obtain ⟨A, ca, rfl, hca, hma⟩ := V_open HV
  obtain ⟨B, cb, rfl, hcb, hmb⟩ := V_open HP
  obtain ⟨C, cc, rfl, hcc, hmc⟩ := V_open HI
  have HHV := Lib.hid HV; have HHP := Lib.hid HP; have HHI := Lib.hid HI
  clear HV HP HI
  by_cases h1 : 16 < bss.length ∨ 4 < pss.length
  · have HE := Lib.hid (show chkErr bss pss xs = 4 by unfold chkErr; rw [if_pos h1])
    by_cases h16 : 16 < bss.length
    · have H1 := Lib.hid h1
      clear h1
      have h16b : (16 : Int) < (bss.length : Int) := by omega
      go_enter Try.func56, Try.ntmps56
      go_wp2_with fail
      go_ret3
      exact ChkPost.bad (by decide) HE.out (Below.refl _ _)
    · have h4 : (4 : Int) < (pss.length : Int) := by omega
      have h16b : ¬ (16 : Int) < (bss.length : Int) := by omega
      have H1 := Lib.hid h1
      clear h1
      go_enter Try.func56, Try.ntmps56
      go_wp2_with fail
      go_ret3
      exact ChkPost.bad (by decide) HE.out (Below.refl _ _)
  · have h16 : ¬ (16 : Int) < (bss.length : Int) := by omega
    have h4 : ¬ (4 : Int) < (pss.length : Int) := by omega
    have H1 := Lib.hid h1
    clear h1
    by_cases hl : xs.length = bss.length
    · have hlb : ((xs.length : Int) != (bss.length : Int)) = false := by rw [bne_eq_false_iff_eq]; omega
      have hlb2 : (xs.length != bss.length) = false := by rw [bne_eq_false_iff_eq]; omega
      have HLX := Lib.hid hl
      clear hl
      go_enter Try.func56, Try.ntmps56
      go_wp2_with fail
      clear hlb hlb2 h16 h4
      go_loop [9, 10] (fun l i => ∃ k : Nat, i = .int .i64 k ∧ k ≤ xs.length ∧ l = .int .i64 (lngTo xs k) ∧ Hid (∀ q, q < k → badSize (xs.getD q 0) = false)) (fun _ i => xs.length - (intOf i).toNat)
      case atStart => exact ⟨0, rfl, Nat.zero_le _, rfl, Lib.hid (fun q hq => absurd hq (Nat.not_lt_zero _))⟩
      case round =>
        obtain ⟨k, rfl, hk, rfl, HN⟩ := hrel
        by_cases hlt : k < xs.length
        · obtain ⟨ad2, rfl, hcell2, _⟩ := Vi_cell HHI.out k hlt
          have hLa := Lib.hid (show lngTo xs (k + 1) = max (lngTo xs k) (xs.getD k 0) from rfl)
          have HXM : Hid (xs.getD k 0 ∈ xs) := Lib.hid (by rw [List.getD_eq_getElem?_getD, List.getElem?_eq_getElem hlt]; exact List.getElem_mem hlt)
          generalize hss : xs.getD k 0 = s at *
          have HSS := Lib.hid hss
          clear hss
          generalize lngTo xs k = L at *
          by_cases hb : s < 0 ∨ 65536 < s
          · have HE := Lib.hid (show chkErr bss pss xs = 1 by
              unfold chkErr
              rw [if_neg H1.out, if_pos (.inr (List.any_eq_true.2 ⟨s, HXM.out, by unfold badSize; exact decide_eq_true hb⟩))])
            by_cases hs0 : s < 0
            · clear hb
              go_wp2_with fail
              go_ret3
              exact ChkPost.bad (by decide) HE.out (Below.refl _ _)
            · have hs1 : 65536 < s := by omega
              clear hb
              go_wp2_with fail
              go_ret3
              exact ChkPost.bad (by decide) HE.out (Below.refl _ _)
          · have hs0 : ¬ s < 0 := by omega
            have hs1 : ¬ 65536 < s := by omega
            have HSB := Lib.hid (show badSize s = false by unfold badSize; exact decide_eq_false hb)
            clear hb
            by_cases hls : L < s
            all_goals
              go_wp2_with fail
              refine ⟨⟨k + 1, by go_num, by omega, congrArg (Value.int .i64) (by rw [hLa.out]; omega), Lib.hid (fun q hq => ?_)⟩, by simp [intOf]; omega⟩
              by_cases e : q = k
              · subst e; rw [HSS.out]; exact HSB.out
              · exact HN.out q (by omega)
        · obtain rfl : k = xs.length := by omega
          go_wp2_with fail
          have hnb : ¬ (xs.length ≠ bss.length ∨ xs.any badSize = true) := by
            rintro (h | h)
            · exact h HLX.out
            · rw [List.any_eq_true] at h
              obtain ⟨x, hx, hb⟩ := h
              obtain ⟨i, hi, rfl⟩ := List.getElem_of_mem hx
              have h2 := HN.out i hi
              rw [List.getD_eq_getElem?_getD, List.getElem?_eq_getElem hi, Option.getD_some, hb] at h2
              cases h2
          have HE := Lib.hid (show chkErr bss pss xs = _ by unfold chkErr; rw [if_neg H1.out, if_neg hnb])
          clear hnb HN
          have HLX2 := Lib.hid (show lngTo xs xs.length = lngTo xs bss.length by rw [HLX.out])
          generalize hll : lngTo xs xs.length = L at *
          clear hll
          rw [← HLX2.out] at HE
          have hpl : pss.length ≤ 4 := by have := H1.out; omega
          have hbl : bss.length ≤ 16 := by have := H1.out; omega
          go_loopw [11, 13] (fun u i wr => ∃ k m : Nat, i = .int .i64 k ∧ k ≤ bss.length ∧ Hid (OwnI wr w.heap.size u (lostTo bss xs k)) ∧ Hid (∀ i, i < k → ¬ badAt bss xs i) ∧ Hid (Below w.heap.size w wr)) (fun _ i _ => bss.length - (intOf i).toNat)
          case atStart => exact ⟨0, 0, rfl, Nat.zero_le _, Lib.hid (OwnI.nil _ _), Lib.hid (fun i hi => by omega), Lib.hid (Below.refl _ _)⟩
          case round =>
            obtain ⟨k, m, rfl, hk, HO, HN, HB⟩ := hrel
            by_cases hlt : k < bss.length
            · have HV1 := Kd.V_below HHV.out HB.out
              have HI1 := Kd.V_below HHI.out HB.out
              have hlx := HLX.out
              obtain ⟨ad, A1, c1, rfl, hcell, HV2, _⟩ := Vbb_row HV1 k hlt
              obtain ⟨ad2, rfl, hcell2, _⟩ := Vi_cell HI1 k (by omega)
              have hkx : k < xs.length := by omega
              have hLo := Lib.hid (show lostTo bss xs (k + 1) = if lostAt bss xs k then lostTo bss xs k ++ [(k : Int)] else lostTo bss xs k from rfl)
              have hA := Lib.hid (show lostAt bss xs k ↔ (bss.getD k []).length = 0 ∧ 0 < xs.getD k 0 from Iff.rfl)
              have hBA := Lib.hid (show badAt bss xs k ↔ ¬ lostAt bss xs k ∧ ((bss.getD k []).length : Int) ≠ xs.getD k 0 from Iff.rfl)
              have hlo := lostTo_length bss xs k
              clear HV1 HI1 HV2 hlx
              generalize xs.getD k 0 = s at *
              generalize (bss.getD k []).length = n at *
              by_cases hlo1 : n = 0 ∧ 0 < s
              · obtain ⟨hn0, hs0⟩ := hlo1
                have hnb : ((n : Int) == 0) = true := by rw [beq_iff_eq]; omega
                have HS := Lib.hid (hA.out.2 ⟨hn0, hs0⟩)
                clear hn0
                go_wp2_with ((with_reducible refine gate_builtin (b := .append) (xs := #[.tmp 71, .tmp 73]) rfl ?_); at_builtin; refine app_int (w0 := w) w.heap.size rfl (.tmp 71) (.tmp 73) rfl _ (lostTo bss xs k) k rfl rfl HO.out HB.out HB.out.size (by omega) ?_; intro v1 w1 hO1 hB1 hg1 hat1)
                refine ⟨⟨k + 1, 0, by go_num, by omega, Lib.hid (by rw [hLo.out, if_pos HS.out]; exact hO1), Lib.hid (fun i hi hbad => ?_), Lib.hid hB1⟩, by simp [intOf]; omega⟩
                by_cases e : i = k
                · subst e; exact (hBA.out.1 hbad).1 HS.out
                · exact HN.out i (by omega) hbad
              · have HS := Lib.hid (fun h => hlo1 (hA.out.1 h) : ¬ lostAt bss xs k)
                have hkey : ((n : Int) == 0) = false ∨ (((n : Int) == 0) = true ∧ ¬ 0 < s) := by
                  by_cases h0 : n = 0
                  · exact .inr ⟨by rw [beq_iff_eq]; omega, by omega⟩
                  · exact .inl (by rw [beq_eq_false_iff_ne]; omega)
                clear hlo1
                by_cases hns : (n : Int) = s
                · have hnsb : ((n : Int) != s) = false := by rw [bne_eq_false_iff_eq]; exact hns
                  have HNS := Lib.hid hns
                  clear hns
                  rcases hkey with hnb | ⟨hnb, hs0⟩
                  all_goals
                    go_wp2_with fail
                    go_quiet (fail)
                    go_wp2_with fail
                    refine ⟨⟨k + 1, 0, by go_num, by omega, Lib.hid (by rw [hLo.out, if_neg HS.out]; exact HO.out.below (below_drewN (Below.refl _ _) _)), Lib.hid (fun i hi hbad => ?_), Lib.hid (below_drewN HB.out _)⟩, by simp [intOf]; omega⟩
                    by_cases e : i = k
                    · subst e; exact (hBA.out.1 hbad).2 HNS.out
                    · exact HN.out i (by omega) hbad
                · have hnsb : ((n : Int) != s) = true := by rw [bne_iff_ne]; exact hns
                  have HNS := Lib.hid hns
                  clear hns
                  rcases hkey with hnb | ⟨hnb, hs0⟩
                  all_goals
                    go_wp2_with fail
                    go_quiet (fail)
                    go_wp2_with fail
                    go_ret3
                    refine ChkPost.bad (by decide) ?_ (below_drewN HB.out _)
                    rw [HE.out, if_pos (.inl ⟨k, hlt, hBA.out.2 ⟨HS.out, HNS.out⟩⟩)]
            · obtain rfl : k = bss.length := by omega
              go_wp2_with fail
              obtain ⟨wo, rfl⟩ : ∃ wo : World, wo = wr := ⟨_, rfl⟩
              obtain ⟨D, cd, rfl, _, _⟩ := V_open HO.out.V
              have hL0 : 0 ≤ L := by rw [HLX2.out]; exact lngTo_nonneg _ _
              go_loopw [12, 14] (fun u7 i wr => ∃ k : Nat, i = .int .i64 k ∧ k ≤ pss.length ∧ Hid (OwnI wr w.heap.size (.slice D (lostTo bss xs bss.length).length cd) (lostTo bss xs bss.length)) ∧ Hid (OwnI wr w.heap.size u7 (leftTo pss L k)) ∧ Hid (Ap2 (.slice D (lostTo bss xs bss.length).length cd) u7) ∧ Hid (∀ i, i < k → ¬ badP pss L i) ∧ Hid (Below w.heap.size w wr)) (fun _ i _ => pss.length - (intOf i).toNat)
              case atStart => exact ⟨0, rfl, Nat.zero_le _, HO, Lib.hid (OwnI.nil _ _), Lib.hid (Ap2.symm (.inl rfl)), Lib.hid (fun i hi => by omega), HB⟩
              case round =>
                clear HO HB
                obtain ⟨k, rfl, hk, HO, HO2, HAP, HN2, HB⟩ := hrel
                by_cases hlt2 : k < pss.length
                · have HP1 := Kd.V_below HHP.out HB.out
                  obtain ⟨ad, A1, c1, rfl, hcell, HV2, _⟩ := Vbb_row HP1 k hlt2
                  have hLo := Lib.hid (show leftTo pss L (k + 1) = if goneAt pss L k then leftTo pss L k else leftTo pss L k ++ [(k : Int)] from rfl)
                  have hA := Lib.hid (show goneAt pss L k ↔ (pss.getD k []).length = 0 ∧ 0 < L from Iff.rfl)
                  have hBA := Lib.hid (show badP pss L k ↔ ¬ goneAt pss L k ∧ ((pss.getD k []).length : Int) ≠ L from Iff.rfl)
                  have hlo := leftTo_length pss L k
                  clear HP1 HV2
                  generalize (pss.getD k []).length = n at *
                  by_cases hns : (n : Int) = L
                  · have hnsb : ((n : Int) == L) = true := by rw [beq_iff_eq]; exact hns
                    have HS := Lib.hid (fun h => by have := hA.out.1 h; omega : ¬ goneAt pss L k)
                    have HNS := Lib.hid hns
                    clear hns
                    go_wp2_with ((with_reducible refine gate_builtin (b := .append) (xs := #[.tmp 98, .tmp 100]) rfl ?_); at_builtin; refine app_int (w0 := w) w.heap.size rfl (.tmp 98) (.tmp 100) rfl _ (leftTo pss L k) k rfl rfl HO2.out HB.out HB.out.size (by omega) ?_; intro v1 w1 hO1 hB1 hg1 hat1)
                    refine ⟨⟨k + 1, by go_num, by omega, Lib.hid (HO.out.grown hg1 HAP.out), Lib.hid (by rw [hLo.out, if_neg HS.out]; exact hO1), Lib.hid (Ap2.symm (Ap2_new hat1 HAP.out.symm (fun k hk => (HO.out.lt k hk).2) (fun h => by
                      rcases hat1 with h1 | h1
                      · exact .inl (h1.trans h)
                      · exact .inr h1))), Lib.hid (fun i hi hbad => ?_), Lib.hid hB1⟩, by simp [intOf]; omega⟩
                    by_cases e : i = k
                    · subst e; exact (hBA.out.1 hbad).2 HNS.out
                    · exact HN2.out i (by omega) hbad
                  · have hnsb : ((n : Int) == L) = false := by rw [beq_eq_false_iff_ne]; exact hns
                    have HNS := Lib.hid hns
                    by_cases hn0 : 0 < n
                    · have hni : (0 : Int) < (n : Int) := by omega
                      have HS := Lib.hid (fun h => by have := hA.out.1 h; omega : ¬ goneAt pss L k)
                      clear hns
                      go_wp2_with fail
                      go_ret3
                      refine ChkPost.bad (by decide) ?_ HB.out
                      rw [HE.out, if_pos (.inr ⟨k, hlt2, hBA.out.2 ⟨HS.out, HNS.out⟩⟩)]
                    · have hni : ¬ (0 : Int) < (n : Int) := by omega
                      have HS := Lib.hid (hA.out.2 ⟨by omega, by omega⟩)
                      clear hns
                      go_wp2_with fail
                      refine ⟨⟨k + 1, by go_num, by omega, HO, Lib.hid (by rw [hLo.out, if_pos HS.out]; exact HO2.out), HAP, Lib.hid (fun i hi hbad => ?_), HB⟩, by simp [intOf]; omega⟩
                      by_cases e : i = k
                      · subst e; exact (hBA.out.1 hbad).1 HS.out
                      · exact HN2.out i (by omega) hbad
                · obtain rfl : k = pss.length := by omega
                  obtain ⟨D2, cd2, rfl, _, _⟩ := V_open HO2.out.V
                  have hnb : ¬ ((∃ i, i < bss.length ∧ badAt bss xs i) ∨ (∃ j, j < pss.length ∧ badP pss L j)) := by
                    rintro (⟨i, hi, hb⟩ | ⟨j, hj, hb⟩)
                    · exact HN.out i hi hb
                    · exact HN2.out j hj hb
                  have hE2 := HE.out
                  rw [if_neg hnb] at hE2
                  have HE2 := Lib.hid hE2
                  clear hE2 hnb
                  by_cases hgl : (leftTo pss L pss.length).length < (lostTo bss xs bss.length).length
                  · have hgi : ((leftTo pss L pss.length).length : Int) < ((lostTo bss xs bss.length).length : Int) := by omega
                    go_wp2_with fail
                    go_ret3
                    refine ChkPost.bad (by decide) ?_ HB.out
                    rw [HE2.out, if_pos hgl]
                  · have hgi : ¬ ((leftTo pss L pss.length).length : Int) < ((lostTo bss xs bss.length).length : Int) := by omega
                    go_wp2_with fail
                    go_ret3
                    exact ⟨⟨.slice D (lostTo bss xs bss.length).length cd, .slice D2 (leftTo pss L pss.length).length cd2, by rw [HE2.out, if_neg hgl]; rfl, fun _ => ⟨HO.out, by rw [← HLX2.out]; exact HO2.out, HAP.out⟩⟩, HB.out⟩
    · have HE := Lib.hid (show chkErr bss pss xs = 1 by unfold chkErr; rw [if_neg H1.out, if_pos (.inl hl)])
      have hlb : ((xs.length : Int) != (bss.length : Int)) = true := by rw [bne_iff_ne]; omega
      have hlb2 : (xs.length != bss.length) = true := by rw [bne_iff_ne]; omega
      have H2 := Lib.hid hl
      clear hl
      go_enter Try.func56, Try.ntmps56
      go_wp2_with fail
      go_ret3
      exact ChkPost.bad (by decide) HE.out (Below.refl _ _)
end Go.Proofs.Ytiggohkkokalcaa
