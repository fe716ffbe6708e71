/- The walks of the reference's long and Make: Make computes the same blocks as package parity's. -/
import Derived.Test.YtiggohkkokalcaaMake
import Derived.Test.YtiggohkkokalcaaRefGf
namespace Go.Proofs.Ytiggohkkokalcaa
open Go.RowKit Go.Proofs.YtiggohkkokalcaaW.PrintWords Go.Proofs.YtiggohkkokalcaaW.PrintMore
set_option linter.unusedVariables false
attribute [local go_sem] max2_int max_two

set_option maxRecDepth 100000 in
set_option maxHeartbeats 1000000 in
theorem long_any (data : List (List G)) (vb : Value) (w : World) (HV : Vbb w (fun _ => True) vb data) :
    Calls Try.prog 43 #[vb] w fun e w' => e = .returned (.int .i64 (longG data)) ∧ w = w' := by
  obtain ⟨A, cb, rfl, hcb, hm⟩ := V_open HV
  have HHV := Lib.hid HV
  clear HV
  go_enter Try.func43, Try.ntmps43
  go_wp2_with fail
  go_loop [3, 4] (fun l i => ∃ k : Nat, k ≤ data.length ∧ i = .int .i64 k ∧ l = .int .i64 (longTo data k)) (fun _ i => data.length - (intOf i).toNat)
  case atStart => exact ⟨0, Nat.zero_le _, rfl, rfl⟩
  case round =>
    obtain ⟨k, hk, rfl, rfl⟩ := hrel
    by_cases hlt : k < data.length
    · obtain ⟨ad, A1, c1, rfl, hcell, HV2, _⟩ := Vbb_row HHV.out k hlt
      obtain ⟨b, hb⟩ : ∃ b, b = data.getD k [] := ⟨_, rfl⟩
      have hL : longTo data (k + 1) = max (longTo data k) b.length := by rw [longTo, hb]
      rw [← hb] at hcell
      have HL := Lib.hid hL
      clear HV2 hb hL
      generalize longTo data k = l at *
      by_cases hlb : (l : Int) < (b.length : Int)
      all_goals
        go_wp2_with fail
        refine ⟨⟨k + 1, by omega, by go_num, ?_⟩, by simp [intOf]; omega⟩
        rw [HL.out]
        congr 1
        omega
    · obtain rfl : k = data.length := by omega
      go_wp2_with fail
      go_ret
      exact ⟨rfl, rfl⟩

set_option maxRecDepth 100000 in
set_option maxHeartbeats 4000000 in
theorem refmake_any (data : List (List G)) (n : Int) (vb : Value) (w : World) (HV : Vbb w (fun _ => True) vb data) :
    Calls Try.prog 19 #[vb, .int .i64 n] w fun e w' => ∃ v, e = .returned (.tuple #[v, .int .i64 (makeErr data n)]) ∧ Vbb w' (fun _ => True) v (makeOut data n) ∧ Below w.heap.size w w' := by
  obtain ⟨A, cb, rfl, hcb, hm⟩ := V_open HV
  have HHV := Lib.hid HV
  clear HV
  have HE : Hid (makeErr data n = if n < 0 ∨ 4 < n then 1 else if 16 < data.length ∨ 65536 < longG data then 4 else 0) := rfl
  have HO : Hid (makeOut data n = if makeErr data n = 0 then makeG data n.toNat else []) := rfl
  have fin : ∀ er : Int, er ≠ 0 → makeErr data n = er → Ending.returned (.tuple #[.slice none 0 0, .int .i64 er]) = Ending.returned (.tuple #[.slice none 0 0, .int .i64 (makeErr data n)]) ∧ Vbb w (fun _ => True) (.slice none 0 0) (makeOut data n) ∧ Below w.heap.size w w := by
    intro er hne he
    refine ⟨by rw [he], ?_, Below.refl _ _⟩
    rw [HO.out, if_neg (by rw [he]; exact hne)]
    exact Kd.V_nil _ _ _ _ _
  have FIN := Lib.hid fin
  clear fin
  have HL := Lib.hid (long_any data _ w HHV.out)
  have HLD : Hid (∀ i, (data.getD i []).length ≤ longG data) := Lib.hid (longG_ge data)
  have HLP : Hid (∀ k, sumG (fG k) data (List.replicate (longG data) 0) = parG data k) := Lib.hid (fun k => rfl)
  generalize longG data = l at *
  go_enter Try.func19, Try.ntmps19
  go_wp2_with fail
  refine HL.out.mono ?_
  rintro e w' ⟨rfl, rfl⟩
  clear HL
  by_cases h1 : n < 0
  · have hE := Lib.hid (HE.out.trans (if_pos (.inl h1)))
    go_wp2_with fail
    go_ret2
    exact ⟨_, FIN.out 1 (by decide) hE.out⟩
  · by_cases h2 : 4 < n
    · have hE := Lib.hid (HE.out.trans (if_pos (.inr h2)))
      go_wp2_with fail
      go_ret2
      exact ⟨_, FIN.out 1 (by decide) hE.out⟩
    · by_cases h3 : 16 < data.length
      · have hE := Lib.hid (HE.out.trans ((if_neg (by omega)).trans (if_pos (.inl h3))))
        go_wp2_with fail
        go_ret2
        exact ⟨_, FIN.out 4 (by decide) hE.out⟩
      · by_cases h4 : 65536 < l
        · have hE := Lib.hid (HE.out.trans ((if_neg (by omega)).trans (if_pos (.inr h4))))
          go_wp2_with fail
          go_ret2
          exact ⟨_, FIN.out 4 (by decide) hE.out⟩
        · have hE := Lib.hid (HE.out.trans ((if_neg (by omega)).trans (if_neg (by omega))))
          have hO := Lib.hid (HO.out.trans (if_pos hE.out))
          clear HE HO FIN
          go_wp2_with fail
          go_loopw [7, 8] (fun vo j wr => ∃ k : Nat, k ≤ n.toNat ∧ j = .int .i64 k ∧ Hid (Kd.N KGs 33 wr w.heap.size (fun _ => True) vo (makeG data k)) ∧ Hid (Below w.heap.size w wr)) (fun _ j _ => n.toNat - (intOf j).toNat)
          case atStart => exact ⟨0, Nat.zero_le _, rfl, Lib.hid (Kd.N_nil _ _ _ _ _), Lib.hid (Below.refl _ _)⟩
          case round =>
            obtain ⟨k, hk, rfl, HN, HB⟩ := hrel
            by_cases hlt : (k : Int) < n
            · go_wp2_with ((with_reducible refine gate_dst (N := 34) rfl ?_); refine Kd.R_make KG _ 5 rfl (N := 34) rfl 33 _ _ rfl (l : Int) rfl rfl Try.underlying33 (.int .u8 0) 1 info5 rfl (by decide) (by omega) 0 (ok := fun _ => True) (okp := fun _ => True) rfl (fun _ hk => hk) trivial (by omega) (by omega) (Below.refl _ _) (Nat.le_refl _) ?_; intro v1 w1 ho hb hg hnew)
              obtain ⟨wo, rfl⟩ : ∃ wo : World, wo = wr := ⟨_, rfl⟩
              have hl2 : (l : Int).toNat = l := Int.toNat_natCast l
              rw [hl2] at ho
              have hO1 : OwnB w1 wo.heap.size v1 (List.replicate l 0) := Kd.own_of_R ho
              have hk4 : k < 4 := by omega
              have HO1 := Lib.hid hO1
              have HB1 := Lib.hid hb
              clear hl2 ho hO1 hg hnew hb
              go_loopw [10] (fun i wq => ∃ p : Nat, i = .int .i64 p ∧ p ≤ data.length ∧ Hid (Below wo.heap.size wo wq) ∧ Hid (OwnB wq wo.heap.size v1 (sumMid (fG k) data (List.replicate l 0) p 0))) (fun i _ => data.length - (intOf i).toNat)
              case atStart => exact ⟨0, rfl, Nat.zero_le _, HB1, Lib.hid (by rw [sumMid_start]; exact HO1.out)⟩
              case round =>
                clear HB1 HO1
                obtain ⟨p, rfl, hp, HB1, HO1⟩ := hrel
                by_cases hlp : p < data.length
                · go_wp2_with fail
                  refine (reffactor_any k p _ hk4 (by omega)).mono ?_
                  rintro e w' ⟨rfl, rfl⟩
                  go_wp2_with fail
                  have HV1 : Hid (Vbb wo (fun b => b < wo.heap.size) (.slice A data.length cb) data) := Lib.hid (Kd.V_mono (Kd.V_bound (Kd.V_below (Kd.V_bound HHV.out) HB.out)) (fun b hb => hb.2))
                  go_loopw [12] (fun i wq => ∃ q : Nat, i = .int .i64 q ∧ q ≤ (data.getD p []).length ∧ Hid (Below wo.heap.size wo wq) ∧ Hid (OwnB wq wo.heap.size v1 (sumMid (fG k) data (List.replicate l 0) p q))) (fun i _ => (data.getD p []).length - (intOf i).toNat)
                  case atStart => exact ⟨0, rfl, Nat.zero_le _, HB1, HO1⟩
                  case round =>
                    clear HB1 HO1
                    obtain ⟨q, rfl, hq, HB1, HO1⟩ := hrel
                    have hV2 := Kd.V_below HV1.out HB1.out
                    obtain ⟨ad, A1, c1, rfl, hcell, hV3, hadb⟩ := Vbb_row hV2 p hlp
                    have HP := Lib.hid (HLD.out p)
                    have HSS : Hid (∀ x, x = (data.getD p []).getD q 0 → (sumMid (fG k) data (List.replicate l 0) p q).set q ((sumMid (fG k) data (List.replicate l 0) p q).getD q 0 ^^^ gm (fG k p) x) = sumMid (fG k) data (List.replicate l 0) p (q + 1)) := Lib.hid (fun x hx => by rw [hx]; exact sumMid_set _ _ _ _ _)
                    have HSN := Lib.hid (sumMid_next (fG k) data (List.replicate l 0) p)
                    generalize data.getD p [] = b at *
                    clear hV2
                    have hsl : (sumMid (fG k) data (List.replicate l 0) p q).length = l := by rw [sumMid_length, List.length_replicate]
                    by_cases hlq : q < b.length
                    · obtain ⟨ad2, rfl, hc2, _⟩ := Vb_cell hV3 q hlq
                      have hpo := HP.out
                      obtain ⟨g, cap, rfl, hgb, hgl⟩ := HO1.out.form (by omega)
                      obtain ⟨hc3, hf3⟩ := HO1.out.at_ q (by omega)
                      have hS := HSS.out _ rfl
                      have hx := toI_xor ((sumMid (fG k) data (List.replicate l 0) p q).getD q 0) (gm (fG k p) (b.getD q 0))
                      have hql : q < l := by omega
                      rw [hsl] at *
                      have HS := Lib.hid hS
                      clear hS hV3 hsl HSS
                      generalize (sumMid (fG k) data (List.replicate l 0) p q).getD q 0 = old at *
                      generalize b.getD q 0 = x at *
                      go_wp2_with fail
                      go_region_with (go_at_call 12; refine (refmul_any _ _ _).mono ?_; rintro e w2 ⟨rfl, rfl⟩)
                      all_goals go_wp2_with fail
                      all_goals
                        have h1 := HO1.out.set_ q (old ^^^ gm (fG k p) x)
                        refine ⟨⟨q + 1, by go_num, by omega, Lib.hid (HB1.out.setCell hgb _).drew, Lib.hid ?_⟩, by simp [intOf]; omega⟩
                        rw [← HS.out]
                        exact h1.1.drew
                    · obtain rfl : q = b.length := by omega
                      clear hV3
                      go_wp2_with fail
                      refine ⟨⟨p + 1, by go_num, by omega, HB1, Lib.hid ?_⟩, by simp [intOf]; omega⟩
                      rw [← HSN.out]
                      exact HO1.out
                · obtain rfl : p = data.length := by omega
                  have hp2 : sumMid (fG k) data (List.replicate l 0) data.length 0 = parG data k := by rw [sumMid_end]; exact HLP.out k
                  have hO2 := HO1.out
                  rw [hp2] at hO2
                  obtain ⟨Ab, cb1, rfl, _, _⟩ := V_open hO2.V
                  have hne : ∀ q, some q = (Value.slice Ab (parG data k).length cb1).ownBlock → True ∧ some q ≠ u7.ownBlock := fun q hq => ⟨trivial, fun he => by
                    have h1 := Kd.N_lt HN.out q he.symm
                    have h2 := (World.ownsRow.lt hO2 q hq.symm).1
                    omega⟩
                  have HNE := Lib.hid hne
                  have HO2 := Lib.hid hO2
                  have HN2 := Lib.hid (Kd.N_below HN.out HB1.out)
                  have HB2 := Lib.hid (below_tr HB.out HB1.out)
                  clear hne hO2 hp2 HO1 HN HB HB1
                  go_wp2_with ((with_reducible refine gate_builtin (b := .append) (xs := #[.tmp 70, .tmp 72]) rfl ?_); at_builtin; refine Kd.N_append KGs (w0 := w) w.heap.size rfl (.tmp 70) (.tmp 72) 30 33 (.slice none 0 0) 24 rfl Try.underlying30 info33 rfl (by decide) (by omega) u7 (makeG data k) (parG data k) [.slice Ab (parG data k).length cb1] (fun _ => True) (fun q => some q = (Value.slice Ab (parG data k).length cb1).ownBlock) rfl rfl (Kd.FK_of_M ⟨_, rfl, HO2.out.R⟩) HNE.out (fun _ _ => trivial) HN2.out HB2.out HB2.out.size (by rw [makeG_length]; omega) ?_; intro v3 w3 hN3 hB3 _ _)
                  rw [← makeG_succ] at hN3
                  refine ⟨⟨k + 1, by omega, by go_num, Lib.hid hN3, Lib.hid hB3⟩, by simp [intOf]; omega⟩
            · go_wp2_with fail
              go_ret2
              have : k = n.toNat := by omega
              subst this
              exact ⟨u7, by rw [hE.out]; rfl, by rw [hO.out]; exact Kd.N_V HN.out, HB.out⟩
end Go.Proofs.Ytiggohkkokalcaa
