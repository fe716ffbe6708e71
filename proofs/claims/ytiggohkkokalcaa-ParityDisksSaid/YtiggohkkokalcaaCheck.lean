/- The walk of package parity's check. -/
import Derived.Test.YtiggohkkokalcaaChkPlain
import Derived.OwnWalk
namespace Go.Proofs.Ytiggohkkokalcaa
open Go.RowKit Go.Proofs.YtiggohkkokalcaaW.PrintWords Go.Proofs.YtiggohkkokalcaaW.PrintMore
set_option linter.unusedVariables false
set_option linter.unusedSimpArgs false
attribute [local go_sem] max2_int max_two

/-- What check answers. -/
def ChkPost (bss pss : List (List G)) (xs : List Int) (w : World) (e : Ending) (w' : World) : Prop :=
  (∃ vl vr, e = .returned (.tuple #[vl, vr, .int .i64 (chkErr bss pss xs)]) ∧ (chkErr bss pss xs = 0 → OwnI w' w.heap.size vl (lostTo bss xs bss.length) ∧ OwnI w' w.heap.size vr (leftTo pss (lngTo xs bss.length) pss.length) ∧ Ap2 vl vr)) ∧ Below w.heap.size w w'
theorem ChkPost.bad {bss pss : List (List G)} {xs : List Int} {w w' : World} {n : Int} (hn : n ≠ 0) (h : chkErr bss pss xs = n) (hB : Below w.heap.size w w') :
    ChkPost bss pss xs w (.returned (.tuple #[.slice none 0 0, .slice none 0 0, .int .i64 n])) w' := ⟨⟨_, _, by rw [h], fun h0 => absurd (h.symm.trans h0) hn⟩, hB⟩

set_option maxRecDepth 100000 in
set_option maxHeartbeats 4000000 in
theorem check_any (bss pss : List (List G)) (xs : List Int) (vb vp vi : Value) (w : World) (HV : Vbb w (fun _ => True) vb bss) (HP : Vbb w (fun _ => True) vp pss) (HI : Vi w (fun _ => True) vi xs) :
    Calls Try.prog 49 #[vb, vp, vi] w fun e w' => ChkPost bss pss xs w e w' := by
  obtain ⟨A, ca, rfl, hca, hma⟩ := V_open HV
  obtain ⟨B, cb, rfl, hcb, hmb⟩ := V_open HP
  obtain ⟨C, cc, rfl, hcc, hmc⟩ := V_open HI
  have HHV := Lib.hid HV; have HHP := Lib.hid HP; have HHI := Lib.hid HI
  clear HV HP HI
  by_cases h1 : 16 < bss.length ∨ 4 < pss.length
  · have HE := Lib.hid (show chkErr bss pss xs = 4 by unfold chkErr; rw [if_pos h1])
    by_cases h16 : 16 < bss.length
    · have H1 := Lib.hid h1
      clear h1
      have h16b : (16 : Int) < (bss.length : Int) := by omega
      go_enter Try.func49, Try.ntmps49
      go_wp2_with fail
      go_ret3
      exact ChkPost.bad (by decide) HE.out (Below.refl _ _)
    · have h4 : (4 : Int) < (pss.length : Int) := by omega
      have h16b : ¬ (16 : Int) < (bss.length : Int) := by omega
      have H1 := Lib.hid h1
      clear h1
      go_enter Try.func49, Try.ntmps49
      go_wp2_with fail
      go_ret3
      exact ChkPost.bad (by decide) HE.out (Below.refl _ _)
  · have h16 : ¬ (16 : Int) < (bss.length : Int) := by omega
    have h4 : ¬ (4 : Int) < (pss.length : Int) := by omega
    have H1 := Lib.hid h1
    clear h1
    by_cases h2 : xs.length ≠ bss.length ∨ xs.any badSize = true
    · have HE := Lib.hid (show chkErr bss pss xs = 1 by unfold chkErr; rw [if_neg H1.out, if_pos h2])
      by_cases hl : xs.length = bss.length
      · have hlb : ((xs.length : Int) != (bss.length : Int)) = false := by rw [bne_eq_false_iff_eq]; omega
        have hlb2 : (xs.length != bss.length) = false := by rw [bne_eq_false_iff_eq]; omega
        have hb : xs.any badSize = true := h2.resolve_left (fun h => h hl)
        have H2 := Lib.hid (And.intro h2 hl)
        clear h2 hl
        have HC := fun W (h : Vi W (fun _ => True) (.slice C xs.length cc) xs) => containsI_any xs _ W h
        go_enter Try.func49, Try.ntmps49
        go_wp2_with (go_at_call 73; refine (containsI_any xs _ _ HHI.out).mono ?_; rintro e w1 ⟨rfl, rfl⟩)
        go_ret3
        exact ChkPost.bad (by decide) HE.out (Below.refl _ _)
      · have hlb : ((xs.length : Int) != (bss.length : Int)) = true := by rw [bne_iff_ne]; omega
        have hlb2 : (xs.length != bss.length) = true := by rw [bne_iff_ne]; omega
        have H2 := Lib.hid (And.intro h2 hl)
        clear h2 hl
        go_enter Try.func49, Try.ntmps49
        go_wp2_with fail
        go_ret3
        exact ChkPost.bad (by decide) HE.out (Below.refl _ _)
    · have hl : xs.length = bss.length := by
        by_cases h : xs.length = bss.length
        · exact h
        · exact absurd (.inl h) h2
      have hb : xs.any badSize = false := by
        cases h : xs.any badSize
        · rfl
        · exact absurd (.inr h) h2
      have hlb : ((xs.length : Int) != (bss.length : Int)) = false := by rw [bne_eq_false_iff_eq]; omega
      have hlb2 : (xs.length != bss.length) = false := by rw [bne_eq_false_iff_eq]; omega
      have H2 := Lib.hid (And.intro h2 hl)
      have HE := Lib.hid (show chkErr bss pss xs = _ by unfold chkErr; rw [if_neg H1.out, if_neg h2])
      clear h2 hl
      go_enter Try.func49, Try.ntmps49
      go_wp2_with (go_at_call 73; refine (containsI_any xs _ _ HHI.out).mono ?_; rintro e w1 ⟨rfl, rfl⟩)
      go_loopw [6, 7, 9, 33] (fun u u7 l i wr => ∃ k : Nat, i = .int .i64 k ∧ k ≤ bss.length ∧ u7 = .slice none 0 0 ∧ l = .int .i64 (lngTo xs k) ∧ Hid (OwnI wr w.heap.size u (lostTo bss xs k)) ∧ Hid (∀ i, i < k → ¬ badAt bss xs i) ∧ Hid (Below w.heap.size w wr)) (fun _ _ _ i _ => bss.length - (intOf i).toNat)
      case atStart => exact ⟨0, rfl, Nat.zero_le _, rfl, rfl, Lib.hid (OwnI.nil _ _), Lib.hid (fun i hi => by omega), Lib.hid (Below.refl _ _)⟩
      case round =>
        obtain ⟨k, rfl, hk, rfl, rfl, HO, HN, HB⟩ := hrel
        have h16k := H1.out
        by_cases hlt : k < bss.length
        · have HV1 := Kd.V_below HHV.out HB.out
          have HI1 := Kd.V_below HHI.out HB.out
          have hlx := H2.out.2
          obtain ⟨ad, A1, c1, rfl, hcell, HV2, _⟩ := Vbb_row HV1 k hlt
          obtain ⟨ad2, rfl, hcell2, _⟩ := Vi_cell HI1 k (by omega)
          have hkx : k < xs.length := by omega
          have hLa := Lib.hid (show lngTo xs (k + 1) = max (lngTo xs k) (xs.getD k 0) from rfl)
          have hLo := Lib.hid (show lostTo bss xs (k + 1) = if lostAt bss xs k then lostTo bss xs k ++ [(k : Int)] else lostTo bss xs k from rfl)
          have hA := Lib.hid (show lostAt bss xs k ↔ (bss.getD k []).length = 0 ∧ 0 < xs.getD k 0 from Iff.rfl)
          have hBA := Lib.hid (show badAt bss xs k ↔ ¬ lostAt bss xs k ∧ ((bss.getD k []).length : Int) ≠ xs.getD k 0 from Iff.rfl)
          have hlo := lostTo_length bss xs k
          obtain ⟨D, cd, hu, _, _⟩ := V_open HO.out.V
          clear hu HV1 HI1 HV2 hlb hlb2 hb hlx h16 h4
          generalize xs.getD k 0 = s at *
          generalize (bss.getD k []).length = n at *
          generalize lngTo xs k = L at *
          have fin : ∀ t : Int, t = max L s → t = lngTo xs (k + 1) := fun t ht => by rw [hLa.out, ht]
          have FIN := Lib.hid fin
          clear fin
          by_cases hlo1 : n = 0 ∧ 0 < s
          · obtain ⟨hn0, hs0⟩ := hlo1
            have hnb : ((n : Int) == 0) = true := by rw [beq_iff_eq]; omega
            have hnb2 : (n == 0) = true := by rw [beq_iff_eq]; exact hn0
            have HS := Lib.hid (hA.out.2 ⟨hn0, hs0⟩)
            clear hn0
            by_cases hls : L < s
            all_goals
              go_wp2_with ((with_reducible refine gate_builtin (b := .append) (xs := #[.tmp 55, .tmp 57]) rfl ?_); at_builtin; refine app_int (w0 := w) w.heap.size rfl (.tmp 55) (.tmp 57) rfl _ (lostTo bss xs k) k rfl rfl HO.out HB.out HB.out.size (by omega) ?_; intro v1 w1 hO1 hB1 hg1 hat1)
              refine ⟨⟨k + 1, by go_num, by omega, rfl, congrArg (Value.int .i64) (FIN.out _ (by omega)), Lib.hid (by rw [hLo.out, if_pos HS.out]; exact hO1), Lib.hid (fun i hi hbad => ?_), Lib.hid hB1⟩, by simp [intOf]; omega⟩
              by_cases e : i = k
              · subst e; exact (hBA.out.1 hbad).1 HS.out
              · exact HN.out i (by omega) hbad
          · have HS := Lib.hid (fun h => hlo1 (hA.out.1 h) : ¬ lostAt bss xs k)
            by_cases hns : (n : Int) = s
            · have hnsb : ((n : Int) != s) = false := by rw [bne_eq_false_iff_eq]; exact hns
              have HNS := Lib.hid hns
              have hkey : ((n : Int) == 0) = false ∨ (((n : Int) == 0) = true ∧ ¬ 0 < s) := by
                by_cases h0 : n = 0
                · exact .inr ⟨by rw [beq_iff_eq]; omega, by omega⟩
                · exact .inl (by rw [beq_eq_false_iff_ne]; omega)
              clear hns hlo1
              rcases hkey with hnb | ⟨hnb, hs0⟩ <;> by_cases hls : L < s
              all_goals
                go_wp2_with fail
                refine ⟨⟨k + 1, by go_num, by omega, rfl, congrArg (Value.int .i64) (FIN.out _ (by omega)), Lib.hid (by rw [hLo.out, if_neg HS.out]; exact HO.out), Lib.hid (fun i hi hbad => ?_), HB⟩, by simp [intOf]; omega⟩
                by_cases e : i = k
                · subst e; exact (hBA.out.1 hbad).2 HNS.out
                · exact HN.out i (by omega) hbad
            · have hnsb : ((n : Int) != s) = true := by rw [bne_iff_ne]; exact hns
              have HNS := Lib.hid hns
              have hkey : ((n : Int) == 0) = false ∨ (((n : Int) == 0) = true ∧ ¬ 0 < s) := by
                by_cases h0 : n = 0
                · exact .inr ⟨by rw [beq_iff_eq]; omega, by omega⟩
                · exact .inl (by rw [beq_eq_false_iff_ne]; omega)
              clear hns hlo1
              rcases hkey with hnb | ⟨hnb, hs0⟩ <;> by_cases hls : L < s
              all_goals
                go_wp2_with fail
                go_ret3
                refine ChkPost.bad (by decide) ?_ HB.out
                rw [HE.out, if_pos (.inl ⟨k, hlt, hBA.out.2 ⟨HS.out, HNS.out⟩⟩)]
        · obtain rfl : k = bss.length := by omega
          obtain ⟨D, cd, rfl, _, _⟩ := V_open HO.out.V
          clear hlb hlb2 hb h16k h16 h4
          have hpl : pss.length ≤ 4 := by have := H1.out; omega
          generalize hll : lngTo xs bss.length = L at *
          have HLL := Lib.hid hll
          clear hll
          go_wp2_with fail
          obtain ⟨wo, rfl⟩ : ∃ wo : World, wo = wr := ⟨_, rfl⟩
          go_loopw [6, 7, 70] (fun u6 u7 i wr => ∃ k : Nat, i = .int .i64 k ∧ k ≤ pss.length ∧ u6 = .slice D (lostTo bss xs bss.length).length cd ∧ Hid (OwnI wr w.heap.size (.slice D (lostTo bss xs bss.length).length cd) (lostTo bss xs bss.length)) ∧ Hid (OwnI wr w.heap.size u7 (leftTo pss L k)) ∧ Hid (Ap2 (.slice D (lostTo bss xs bss.length).length cd) u7) ∧ Hid (∀ i, i < k → ¬ badP pss L i) ∧ Hid (Below w.heap.size w wr)) (fun _ _ i _ => pss.length - (intOf i).toNat)
          case atStart => exact ⟨0, rfl, Nat.zero_le _, rfl, HO, Lib.hid (OwnI.nil _ _), Lib.hid (Ap2.symm (.inl rfl)), Lib.hid (fun i hi => by omega), HB⟩
          case round =>
            clear HO HB
            obtain ⟨k, rfl, hk, rfl, HO, HO2, HAP, HN2, HB⟩ := hrel
            by_cases hlt2 : k < pss.length
            · have HP1 := Kd.V_below HHP.out HB.out
              obtain ⟨ad, A1, c1, rfl, hcell, HV2, _⟩ := Vbb_row HP1 k hlt2
              have hLo := Lib.hid (show leftTo pss L (k + 1) = if goneAt pss L k then leftTo pss L k else leftTo pss L k ++ [(k : Int)] from rfl)
              have hA := Lib.hid (show goneAt pss L k ↔ (pss.getD k []).length = 0 ∧ 0 < L from Iff.rfl)
              have hBA := Lib.hid (show badP pss L k ↔ ¬ goneAt pss L k ∧ ((pss.getD k []).length : Int) ≠ L from Iff.rfl)
              have hlo := leftTo_length pss L k
              obtain ⟨D2, cd2, hu, _, _⟩ := V_open HO2.out.V
              clear hu HP1 HV2
              generalize (pss.getD k []).length = n at *
              by_cases hlo1 : n = 0 ∧ 0 < L
              · obtain ⟨hn0, hs0⟩ := hlo1
                have hnb : ((n : Int) == 0) = true := by rw [beq_iff_eq]; omega
                have HS := Lib.hid (hA.out.2 ⟨hn0, hs0⟩)
                clear hn0
                go_wp2_with fail
                refine ⟨⟨k + 1, by go_num, by omega, rfl, HO, Lib.hid (by rw [hLo.out, if_pos HS.out]; exact HO2.out), HAP, Lib.hid (fun i hi hbad => ?_), HB⟩, by simp [intOf]; omega⟩
                by_cases e : i = k
                · subst e; exact (hBA.out.1 hbad).1 HS.out
                · exact HN2.out i (by omega) hbad
              · have HS := Lib.hid (fun h => hlo1 (hA.out.1 h) : ¬ goneAt pss L k)
                have hkey : ((n : Int) == 0) = false ∨ (((n : Int) == 0) = true ∧ ¬ 0 < L) := by
                  by_cases h0 : n = 0
                  · exact .inr ⟨by rw [beq_iff_eq]; omega, by omega⟩
                  · exact .inl (by rw [beq_eq_false_iff_ne]; omega)
                clear hlo1
                by_cases hns : (n : Int) = L
                · have hnsb : ((n : Int) != L) = false := by rw [bne_eq_false_iff_eq]; exact hns
                  have HNS := Lib.hid hns
                  clear hns
                  rcases hkey with hnb | ⟨hnb, hs0⟩
                  all_goals
                    go_wp2_with ((with_reducible refine gate_builtin (b := .append) (xs := #[.tmp 75, .tmp 77]) rfl ?_); at_builtin; refine app_int (w0 := w) w.heap.size rfl (.tmp 75) (.tmp 77) rfl _ (leftTo pss L k) k rfl rfl HO2.out HB.out HB.out.size (by omega) ?_; intro v1 w1 hO1 hB1 hg1 hat1)
                    refine ⟨⟨k + 1, by go_num, by omega, rfl, Lib.hid (HO.out.grown hg1 HAP.out), Lib.hid (by rw [hLo.out, if_neg HS.out]; exact hO1), Lib.hid (Ap2.symm (Ap2_new hat1 HAP.out.symm (fun k hk => (HO.out.lt k hk).2) (fun h => by
                      rcases hat1 with h1 | h1
                      · exact .inl (h1.trans h)
                      · exact .inr h1))), Lib.hid (fun i hi hbad => ?_), Lib.hid hB1⟩, by simp [intOf]; omega⟩
                    by_cases e : i = k
                    · subst e; exact (hBA.out.1 hbad).2 HNS.out
                    · exact HN2.out i (by omega) hbad
                · have hnsb : ((n : Int) != L) = true := by rw [bne_iff_ne]; exact hns
                  have HNS := Lib.hid hns
                  clear hns
                  rcases hkey with hnb | ⟨hnb, hs0⟩
                  all_goals
                    go_wp2_with fail
                    go_ret3
                    refine ChkPost.bad (by decide) ?_ HB.out
                    rw [HE.out, if_pos (.inr ⟨k, hlt2, hBA.out.2 ⟨HS.out, HNS.out⟩⟩)]
            · obtain rfl : k = pss.length := by omega
              obtain ⟨D2, cd2, rfl, _, _⟩ := V_open HO2.out.V
              have hnb : ¬ ((∃ i, i < bss.length ∧ badAt bss xs i) ∨ (∃ j, j < pss.length ∧ badP pss L j)) := by
                rintro (⟨i, hi, hb⟩ | ⟨j, hj, hb⟩)
                · exact HN.out i hi hb
                · exact HN2.out j hj hb
              have hE2 := HE.out
              rw [if_neg hnb] at hE2
              have HE2 := Lib.hid hE2
              clear hE2 hnb
              by_cases hgl : (leftTo pss L pss.length).length < (lostTo bss xs bss.length).length
              · have hgi : ((leftTo pss L pss.length).length : Int) < ((lostTo bss xs bss.length).length : Int) := by omega
                go_wp2_with fail
                go_ret3
                refine ChkPost.bad (by decide) ?_ HB.out
                rw [HE2.out, if_pos hgl]
              · have hgi : ¬ ((leftTo pss L pss.length).length : Int) < ((lostTo bss xs bss.length).length : Int) := by omega
                go_wp2_with fail
                go_ret3
                exact ⟨⟨.slice D (lostTo bss xs bss.length).length cd, .slice D2 (leftTo pss L pss.length).length cd2, by rw [HE2.out, if_neg hgl]; rfl, fun _ => ⟨HO.out, by rw [HLL.out]; exact HO2.out, HAP.out⟩⟩, HB.out⟩
end Go.Proofs.Ytiggohkkokalcaa
