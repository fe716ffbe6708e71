/- The walk of the law ParityRestores. -/
import Derived.Test.YtiggohkkokalcaaRest3
import Derived.Test.YtiggohkkokalcaaRepair
import Derived.Test.YtiggohkkokalcaaSame
import Derived.Test.YtiggohkkokalcaaLives
namespace Go.Proofs.Ytiggohkkokalcaa
open Go.RowKit Go.Proofs.YtiggohkkokalcaaW.PrintWords Go.Proofs.YtiggohkkokalcaaW.PrintMore
set_option linter.unusedVariables false
set_option linter.unusedSimpArgs false

theorem repair_scene {data : List (List G)} {f : Nat} {gone : List Int} (S : Scene data f gone) (vd vq vi : Value) (W : World) (HV : Vbb W (fun _ => True) vd (withoutG data gone 0)) (HP : Vbb W (fun _ => True) vq (withoutG (makeG data f) gone data.length)) (HI : Vi W (fun _ => True) vi (sizesG data)) :
    Calls Try.prog 29 #[vd, vq, vi] W fun e w' => ∃ va vp, e = .returned (.tuple #[va, vp, .int .i64 0]) ∧ Vbb w' (fun _ => True) va data ∧ Vbb w' (fun _ => True) vp (makeG data f) ∧ Below W.heap.size W w' := by
  refine (repair_any _ _ _ vd vq vi W HV HP HI).mono ?_
  rintro e w' ⟨hB, _, h⟩
  obtain ⟨X, hX, _, h2⟩ := h ((chk_iff _ _ _).2 (scene_ok S))
  obtain ⟨va, vp, h3, h4, h5⟩ := h2 (fun h => h.elim (scene_tail S hX) (scene_sum S hX))
  have e2 := withoutG_length (makeG data f) gone data.length
  rw [makeG_length] at e2
  rw [scene_out S hX] at h4 h5
  rw [e2] at h5
  exact ⟨va, vp, h3, h4, h5, hB⟩

set_option maxRecDepth 100000 in
set_option maxHeartbeats 4000000 in
theorem restores_walk (xs ys : List Int) (v v' : Value) (n : Int) (w : World) (HV : Vi w (fun _ => True) v xs) (HW : Vi w (fun _ => True) v' ys) :
    Calls Try.prog 8 #[v, v', .int .i64 n] w fun e w' => e = .returned (.bool true) ∧ Below w.heap.size w w' := by
  obtain ⟨A, c, rfl, hc, hm⟩ := V_open HV
  obtain ⟨A', c', rfl, hc', hm'⟩ := V_open HW
  have HHV := Lib.hid HV
  have HHW := Lib.hid HW
  have hf4 := fewN_le n
  clear HV HW
  go_enter Try.func8, Try.ntmps8
  go_wp2_with fail
  refine (blocks_any xs _ w HHV.out).mono ?_
  rintro e w1 ⟨u, data, rfl, hD, hS, hB⟩
  obtain ⟨Ad, cd, rfl, hcd, _⟩ := V_open hD
  have HD := Lib.hid hD
  have HB := Lib.hid hB
  have hl7 := hS.1
  have hlong : longG data ≤ 65536 := Nat.le_trans (longTo_le data 12 (fun i hi => hS.2 _ (by rw [List.getD_eq_getElem?_getD, List.getElem?_eq_getElem hi]; exact List.getElem_mem hi)) _ (Nat.le_refl _)) (by decide)
  have HLO := Lib.hid hlong
  have HME := Lib.hid (makeErr_ok data (fewN n) hf4 (by omega) hlong)
  have HMO := Lib.hid (makeOut_ok data (fewN n) HME.out)
  clear hD hB hS HHV hlong
  go_wp2_with fail
  refine (few_any n _).mono ?_
  rintro e w' ⟨rfl, rfl⟩
  go_wp2_with fail
  refine (make_any data (fewN n) _ w1 HD.out).mono ?_
  rintro e w2 ⟨vp, rfl, hP, hB2⟩
  have hme := HME.out
  rw [HMO.out] at hP
  rw [hme]
  obtain ⟨Ap, cp, hvp, hcp, _⟩ := V_open hP
  rw [makeG_length] at hvp hcp
  subst hvp
  have HP := Lib.hid hP
  have HB2 := Lib.hid hB2
  clear hP hB2 hme
  go_wp2_with fail
  refine (few_any n _).mono ?_
  rintro e w' ⟨rfl, rfl⟩
  go_wp2_with fail
  have HB12 := Lib.hid (HB.out.trans (HB2.out.mono HB.out.size))
  refine (lost_any ys _ ((data.length : Int) + (fewN n : Int)) (fewN n) w2 (Kd.V_below HHW.out HB12.out) (by omega) (by omega)).mono ?_
  rintro e w3 ⟨ug, rfl, ⟨gone, hG, hK⟩, hB3⟩
  have hS : Scene data (fewN n) gone := ⟨by omega, hf4, HLO.out, hK.nodup, by have := hK.few; omega⟩
  obtain ⟨Ag, cg, rfl, hcg, _⟩ := V_open hG.V
  have HSC := Lib.hid hS
  have HG3 := Lib.hid (Kd.V_mono hG.V (fun _ _ => trivial) : Vi w3 (fun _ => True) _ gone)
  have HD3 := Lib.hid (Kd.V_below HD.out (HB2.out.trans (hB3.mono HB2.out.size)))
  have HP3 := Lib.hid (Kd.V_below HP.out hB3)
  have HB3 := Lib.hid (HB12.out.trans (hB3.mono HB12.out.size))
  clear hG hK hB3 hS HD HP HB HB2 HB12 HHW HME HMO HLO
  go_wp2_with fail
  refine (without_any data gone 0 _ _ w3 HD3.out HG3.out (by omega) ⟨by omega, by omega⟩).mono ?_
  rintro e w4 ⟨vd, rfl, hV4, hB4⟩
  have HV4 := Lib.hid hV4
  have HB4 := Lib.hid hB4
  clear hV4 hB4
  go_wp2_with fail
  refine (without_any (makeG data (fewN n)) gone data.length _ _ w4 (Kd.V_below HP3.out HB4.out) (Kd.V_below HG3.out HB4.out) (by rw [makeG_length]; omega) ⟨by omega, by omega⟩).mono ?_
  rintro e w5 ⟨vq, rfl, hV5, hB5⟩
  have HV5 := Lib.hid hV5
  have HB5 := Lib.hid hB5
  clear hV5 hB5
  go_wp2_with fail
  have HD5 := Lib.hid (Kd.V_below (Kd.V_below HD3.out HB4.out) HB5.out)
  refine (sizes_any data _ w5 HD5.out (by omega)).mono ?_
  rintro e w6 ⟨vs, rfl, hV6, hB6⟩
  have HV6 := Lib.hid hV6
  have HB6 := Lib.hid hB6
  clear hV6 hB6
  go_wp2_with fail
  refine (repair_scene HSC.out vd vq vs w6 (Kd.V_below (Kd.V_below HV4.out HB5.out) HB6.out) (Kd.V_below HV5.out HB6.out) (Kd.V_mono HV6.out.V (fun _ _ => trivial))).mono ?_
  rintro e w7 ⟨va, vp, rfl, hA7, hP7, hB7⟩
  have HA7 := Lib.hid hA7
  have HP7 := Lib.hid hP7
  have HB37 := Lib.hid (HB4.out.trans ((HB5.out.trans ((HB6.out.trans (hB7.mono HB6.out.size)).mono HB5.out.size)).mono HB4.out.size))
  clear hA7 hP7 hB7
  have HD7 := Lib.hid (Kd.V_below HD3.out HB37.out)
  have HQ7 := Lib.hid (Kd.V_below HP3.out HB37.out)
  go_wp2_with fail
  refine (same_any data data _ _ w7 HA7.out HD7.out).mono ?_
  rintro e w' ⟨rfl, n8, rfl⟩
  have hdd : decide (data = data) = true := decide_eq_true rfl
  rw [hdd]
  go_wp2_with fail
  refine (same_any (makeG data (fewN n)) (makeG data (fewN n)) _ _ (w7.drewN n8) (Kd.V_drewN HP7.out n8) (Kd.V_drewN HQ7.out n8)).mono ?_
  rintro e w' ⟨rfl, n9, rfl⟩
  have hpp : decide (makeG data (fewN n) = makeG data (fewN n)) = true := decide_eq_true rfl
  rw [hpp]
  go_wp2_with fail
  refine (lives_any _).mono ?_
  rintro e w9 ⟨rfl, hB9⟩
  have HB9 := Lib.hid hB9
  clear hB9
  go_wp2_with fail
  go_ret
  refine ⟨rfl, ?_⟩
  have h1 := HB3.out.trans (HB37.out.mono HB3.out.size)
  have h2 := below_drewN h1 (n8 + n9)
  exact h2.trans (HB9.out.mono h2.size)
end Go.Proofs.Ytiggohkkokalcaa
