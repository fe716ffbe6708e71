/- The walk of the reference's Lost. -/
import Derived.Test.YtiggohkkokalcaaSizesW
namespace Go.Proofs.Ytiggohkkokalcaa
open Go.RowKit Go.Proofs.YtiggohkkokalcaaW.PrintWords Go.Proofs.YtiggohkkokalcaaW.PrintMore
set_option linter.unusedVariables false
set_option linter.unusedSimpArgs false

/-- What Lost gives: different numbers, not more than most. -/
structure LostOK (below most : Int) (out : List Int) : Prop where
  nodup : out.Nodup
  few : out.length = 0 ∨ (out.length : Int) ≤ most
set_option maxRecDepth 100000 in
set_option maxHeartbeats 2000000 in
theorem lost_any (l : List Int) (vl : Value) (below most : Int) (w : World) (HL : Vi w (fun _ => True) vl l) (hb : below ≤ 65536) (hm : most ≤ 70000) :
    Calls Try.prog 27 #[vl, .int .i64 below, .int .i64 most] w fun e w' => ∃ u, e = .returned u ∧ (∃ out, OwnI w' w.heap.size u out ∧ LostOK below most out) ∧ Below w.heap.size w w' := by
  obtain ⟨B, cb, rfl, hcb, hmb⟩ := V_open HL
  have HHL := Lib.hid HL
  clear HL
  go_enter Try.func27, Try.ntmps27
  go_wp2_with fail
  go_loopw [7, 8] (fun u i wr => ∃ (k : Nat) (out : List Int), i = .int .i64 k ∧ k ≤ l.length ∧ Hid (OwnI wr w.heap.size u out) ∧ Hid (LostOK below most out) ∧ Hid (Below w.heap.size w wr)) (fun _ i _ => l.length - (intOf i).toNat)
  case atStart => exact ⟨0, [], rfl, Nat.zero_le _, Lib.hid (OwnI.nil _ _), Lib.hid ⟨List.nodup_nil, .inl rfl⟩, Lib.hid (Below.refl _ _)⟩
  case round =>
    obtain ⟨k, out, rfl, hk, HO, HK, HB⟩ := hrel
    obtain ⟨C, cc, rfl, hcc, hmc⟩ := V_open HO.out.V
    by_cases hgo : k < l.length ∧ (out.length : Int) < most ∧ 0 < below
    · obtain ⟨h1, h2, h3⟩ := hgo
      have HNB := Lib.hid (number_any l _ k below.toNat wr (Kd.V_below HHL.out HB.out) (by omega) (by omega))
      rw [Int.toNat_of_nonneg (by omega : 0 ≤ below)] at HNB
      go_wp2_with (go_at_call 39; refine HNB.out.mono ?_; rintro e w2 ⟨⟨r, rfl, hr⟩, rfl⟩)
      go_loop [10, 11] (fun x q => ∃ c : Nat, q = .int .i64 c ∧ c ≤ out.length ∧ x = .bool (inTo out r c)) (fun _ q => out.length - (intOf q).toNat)
      case atStart => exact ⟨0, rfl, Nat.zero_le _, rfl⟩
      case round =>
        obtain ⟨c, rfl, hc, rfl⟩ := hrel
        by_cases hlt2 : c < out.length
        · obtain ⟨ad2, rfl, hcell2, _⟩ := Vi_cell HO.out.V c hlt2
          have HIS := Lib.hid (inTo_succ out r c hlt2)
          generalize out.getD c 0 = y at *
          cases hb : inTo out r c
          all_goals
            go_wp2_with fail
            refine ⟨⟨c + 1, by go_num, by omega, ?_⟩, by simp [intOf]; omega⟩
            rw [HIS.out, hb]
            first | rfl | (congr 1; simp [beq_eq_decide])
        · obtain rfl : c = out.length := by omega
          have HIL := Lib.hid (show inL out r = inTo out r out.length from rfl)
          cases hb : inTo out r out.length
          case true =>
            go_wp2_with fail
            refine ⟨⟨k + 1, out, by go_num, by omega, HO, HK, HB⟩, by simp [intOf]; omega⟩
          case false =>
            have HBF := Lib.hid hb
            go_wp2_with ((with_reducible refine gate_builtin (b := .append) (xs := #[.tmp 49, .tmp 51]) rfl ?_); at_builtin; refine app_int (w0 := w) w.heap.size rfl (.tmp 49) (.tmp 51) rfl _ out r rfl rfl HO.out HB.out HB.out.size (by omega) ?_; intro v1 w1 hO1 hB1 hg1 hat1)
            refine ⟨⟨k + 1, _, by go_num, by omega, Lib.hid hO1, Lib.hid ⟨?_, .inr ?_⟩, Lib.hid hB1⟩, by simp [intOf]; omega⟩
            · rw [List.nodup_append]
              refine ⟨HK.out.nodup, by simp, fun a ha b hb2 => ?_⟩
              rw [List.mem_singleton] at hb2
              subst hb2
              intro he
              subst he
              have := (inL_iff out r).2 ha
              rw [HIL.out, HBF.out] at this
              cases this
            · rw [List.length_append, List.length_singleton]; omega
    · by_cases h1 : k < l.length
      · by_cases h2 : (out.length : Int) < most
        · have h3 : ¬ 0 < below := fun h => hgo ⟨h1, h2, h⟩
          clear hgo
          go_wp2_with fail
          go_ret
          exact ⟨_, rfl, ⟨out, HO.out, HK.out⟩, HB.out⟩
        · clear hgo
          go_wp2_with fail
          go_ret
          exact ⟨_, rfl, ⟨out, HO.out, HK.out⟩, HB.out⟩
      · clear hgo
        go_wp2_with fail
        go_ret
        exact ⟨_, rfl, ⟨out, HO.out, HK.out⟩, HB.out⟩
end Go.Proofs.Ytiggohkkokalcaa
