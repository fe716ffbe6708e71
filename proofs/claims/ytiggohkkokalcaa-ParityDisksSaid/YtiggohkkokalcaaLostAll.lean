/- The walks of the reference's Sizes, Without and Lost. The walk of the reference's Lost. -/
import Derived.Test.YtiggohkkokalcaaOuts
import Derived.Test.YtiggohkkokalcaaGen
/-! The walks of the reference's Sizes, Without and Lost. -/
namespace Go.Proofs.Ytiggohkkokalcaa
open Go.RowKit Go.Proofs.YtiggohkkokalcaaW.PrintWords Go.Proofs.YtiggohkkokalcaaW.PrintMore
set_option linter.unusedVariables false
set_option linter.unusedSimpArgs false

def sizesTo (bss : List (List G)) (k : Nat) : List Int := (List.range k).map fun i => ((bss.getD i []).length : Int)
def sizesG (bss : List (List G)) : List Int := sizesTo bss bss.length
theorem sizesTo_succ (bss : List (List G)) (k : Nat) : sizesTo bss (k + 1) = sizesTo bss k ++ [((bss.getD k []).length : Int)] := by simp [sizesTo, List.range_succ]
theorem sizesTo_length (bss : List (List G)) (k : Nat) : (sizesTo bss k).length = k := by simp [sizesTo]

set_option maxRecDepth 100000 in
set_option maxHeartbeats 1000000 in
theorem sizes_any (bss : List (List G)) (vb : Value) (w : World) (HV : Vbb w (fun _ => True) vb bss) (hl : bss.length ≤ 70000) :
    Calls Try.prog 26 #[vb] w fun e w' => ∃ u, e = .returned u ∧ OwnI w' w.heap.size u (sizesG bss) ∧ Below w.heap.size w w' := by
  obtain ⟨A, ca, rfl, hca, hma⟩ := V_open HV
  have HHV := Lib.hid HV
  clear HV
  go_enter Try.func26, Try.ntmps26
  go_wp2_with fail
  go_loopw [3, 4] (fun u i wr => ∃ k : Nat, i = .int .i64 k ∧ k ≤ bss.length ∧ Hid (OwnI wr w.heap.size u (sizesTo bss k)) ∧ Hid (Below w.heap.size w wr)) (fun _ i _ => bss.length - (intOf i).toNat)
  case atStart => exact ⟨0, rfl, Nat.zero_le _, Lib.hid (OwnI.nil _ _), Lib.hid (Below.refl _ _)⟩
  case round =>
    obtain ⟨k, rfl, hk, HO, HB⟩ := hrel
    by_cases hlt : k < bss.length
    · obtain ⟨ad, A1, c1, rfl, hcell, HV2, _⟩ := Vbb_row (Kd.V_below HHV.out HB.out) k hlt
      have HS := Lib.hid (sizesTo_succ bss k)
      have HSL := Lib.hid (sizesTo_length bss k)
      clear HV2
      generalize (bss.getD k []).length = n at *
      go_wp2_with ((with_reducible refine gate_builtin (b := .append) (xs := #[.tmp 11, .tmp 17]) rfl ?_); at_builtin; refine app_int (w0 := w) w.heap.size rfl (.tmp 11) (.tmp 17) rfl _ (sizesTo bss k) n rfl rfl HO.out HB.out HB.out.size (by rw [HSL.out]; omega) ?_; intro v1 w1 hO1 hB1 hg1 hat1)
      refine ⟨⟨k + 1, by go_num, by omega, Lib.hid (by rw [HS.out]; exact hO1), Lib.hid hB1⟩, by simp [intOf]; omega⟩
    · obtain rfl : k = bss.length := by omega
      go_wp2_with fail
      go_ret
      exact ⟨_, rfl, HO.out, HB.out⟩

/-- is the number x in the list? -/
def inTo (l : List Int) (x : Int) (k : Nat) : Bool := (l.take k).any fun y => decide (y = x)
theorem inTo_succ (l : List Int) (x : Int) (k : Nat) (hk : k < l.length) : inTo l x (k + 1) = (inTo l x k || decide (l.getD k 0 = x)) := by
  unfold inTo
  rw [List.take_add_one, List.getElem?_eq_getElem hk, List.any_append, List.getD_eq_getElem?_getD, List.getElem?_eq_getElem hk]
  simp
def inL (l : List Int) (x : Int) : Bool := inTo l x l.length
theorem inL_iff (l : List Int) (x : Int) : inL l x = true ↔ x ∈ l := by
  unfold inL inTo
  rw [List.take_length, List.any_eq_true]
  simp
def withoutTo (bss : List (List G)) (l : List Int) (first : Int) (k : Nat) : List (List G) := (List.range k).map fun i : Nat => if inL l (first + (i : Int)) then [] else bss.getD i []
def withoutG (bss : List (List G)) (l : List Int) (first : Int) : List (List G) := withoutTo bss l first bss.length
theorem withoutTo_succ (bss : List (List G)) (l : List Int) (first : Int) (k : Nat) : withoutTo bss l first (k + 1) = withoutTo bss l first k ++ [if inL l (first + k) then [] else bss.getD k []] := by simp [withoutTo, List.range_succ]
theorem withoutTo_length (bss : List (List G)) (l : List Int) (first : Int) (k : Nat) : (withoutTo bss l first k).length = k := by simp [withoutTo]

set_option maxRecDepth 100000 in
set_option maxHeartbeats 2000000 in
theorem without_any (bss : List (List G)) (l : List Int) (first : Int) (vb vl : Value) (w : World) (HV : Vbb w (fun _ => True) vb bss) (HL : Vi w (fun _ => True) vl l) (hl : bss.length ≤ 70000) (hf : 0 ≤ first ∧ first ≤ 65536) :
    Calls Try.prog 28 #[vb, vl, .int .i64 first] w fun e w' => ∃ u, e = .returned u ∧ Vbb w' (fun _ => True) u (withoutG bss l first) ∧ Below w.heap.size w w' := by
  obtain ⟨A, ca, rfl, hca, hma⟩ := V_open HV
  obtain ⟨B, cb, rfl, hcb, hmb⟩ := V_open HL
  have HHV := Lib.hid (Kd.V_bound HV); have HHL := Lib.hid HL
  clear HV HL
  go_enter Try.func28, Try.ntmps28
  go_wp2_with fail
  go_loopw [7, 8] (fun u i wr => ∃ k : Nat, i = .int .i64 k ∧ k ≤ bss.length ∧ Hid (Kd.N KGs 33 wr w.heap.size (fun _ => True) u (withoutTo bss l first k)) ∧ Hid (Below w.heap.size w wr)) (fun _ i _ => bss.length - (intOf i).toNat)
  case atStart => exact ⟨0, rfl, Nat.zero_le _, Lib.hid (Kd.N_nil _ _ _ _ _), Lib.hid (Below.refl _ _)⟩
  case round =>
    obtain ⟨k, rfl, hk, HO, HB⟩ := hrel
    by_cases hlt : k < bss.length
    · obtain ⟨ad, A1, c1, rfl, hcell, HV2, _⟩ := Vbb_row (Kd.V_below HHV.out HB.out) k hlt
      have hwr : (first + (k : Int)) ≤ 135536 := by omega
      have HWT := Lib.hid (withoutTo_succ bss l first k)
      have HWL := Lib.hid (withoutTo_length bss l first k)
      have HI := Kd.V_below HHL.out HB.out
      have HHI := Lib.hid HI
      have HHV2 := Lib.hid HV2
      clear HI HV2
      generalize bss.getD k [] = b at *
      go_wp2_with fail
      go_loop [9, 10] (fun x q => ∃ c : Nat, q = .int .i64 c ∧ c ≤ l.length ∧ x = .bool (inTo l (first + k) c)) (fun _ q => l.length - (intOf q).toNat)
      case atStart => exact ⟨0, rfl, Nat.zero_le _, rfl⟩
      case round =>
        obtain ⟨c, rfl, hc, rfl⟩ := hrel
        by_cases hlt2 : c < l.length
        · obtain ⟨ad2, rfl, hcell2, _⟩ := Vi_cell HHI.out c hlt2
          have HIS := Lib.hid (inTo_succ l (first + k) c hlt2)
          generalize l.getD c 0 = y at *
          cases hb : inTo l (first + k) c
          all_goals
            go_wp2_with fail
            refine ⟨⟨c + 1, by go_num, by omega, ?_⟩, by simp [intOf]; omega⟩
            rw [HIS.out, hb]
            first | rfl | (congr 1; simp [beq_eq_decide])
        · obtain rfl : c = l.length := by omega
          have hil : inL l (first + k) = inTo l (first + k) l.length := rfl
          rw [hil] at HWT
          cases hb : inTo l (first + k) l.length
          case true =>
            rw [hb, if_pos rfl] at HWT
            go_wp2_with ((with_reducible refine gate_builtin (b := .append) (xs := #[.tmp 35, .tmp 36]) rfl ?_); at_builtin; refine Kd.N_append KGs (w0 := w) w.heap.size rfl (.tmp 35) (.tmp 36) 30 33 (.slice none 0 0) 24 rfl Try.underlying30 info33 rfl (by decide) (by omega) _ (withoutTo bss l first k) [] [.slice none 0 0] (fun _ => True) (fun _ => False) rfl rfl (Kd.FK_slice_mk (Nat.le_refl _) (Kd.F_nil KG _ _)) (fun _ h => h.elim) (fun _ _ => trivial) HO.out HB.out HB.out.size (by rw [HWL.out]; omega) ?_; intro v3 w3 hN3 hB3 _ _)
            rw [← HWT.out] at hN3
            refine ⟨⟨k + 1, by go_num, by omega, Lib.hid hN3, Lib.hid hB3⟩, by simp [intOf]; omega⟩
          case false =>
            have hif : (if false = true then ([] : List G) else b) = b := if_neg (by decide)
            rw [hb, hif] at HWT
            clear hif
            have HFK : Hid (Kd.FK KGs wr (fun q => q < w.heap.size) b [.slice A1 b.length c1]) := by
              obtain ⟨A', c', he, hc', hf'⟩ := HHV2.out
              injection he with h1 _ h2
              subst h1 h2
              exact Lib.hid (Kd.FK_mono (Kd.FK_slice_mk hc' hf') (fun q hq => hq.2))
            have HNE : Hid (∀ q, q < w.heap.size → True ∧ some q ≠ u7.ownBlock) := Lib.hid (fun q hq => ⟨trivial, fun he => by have := Kd.N_base HO.out q he.symm; omega⟩)
            go_wp2_with ((with_reducible refine gate_builtin (b := .append) (xs := #[.tmp 38, .tmp 43]) rfl ?_); at_builtin; refine Kd.N_append KGs (w0 := w) w.heap.size rfl (.tmp 38) (.tmp 43) 30 33 (.slice none 0 0) 24 rfl Try.underlying30 info33 rfl (by decide) (by omega) _ (withoutTo bss l first k) b [.slice A1 b.length c1] (fun _ => True) (fun q => q < w.heap.size) rfl rfl HFK.out HNE.out (fun _ _ => trivial) HO.out HB.out HB.out.size (by rw [HWL.out]; omega) ?_; intro v3 w3 hN3 hB3 _ _)
            rw [← HWT.out] at hN3
            refine ⟨⟨k + 1, by go_num, by omega, Lib.hid hN3, Lib.hid hB3⟩, by simp [intOf]; omega⟩
    · obtain rfl : k = bss.length := by omega
      go_wp2_with fail
      go_ret
      exact ⟨_, rfl, Kd.N_V HO.out, HB.out⟩
end Go.Proofs.Ytiggohkkokalcaa

/-! The walk of the reference's Lost. -/
namespace Go.Proofs.Ytiggohkkokalcaa
open Go.RowKit Go.Proofs.YtiggohkkokalcaaW.PrintWords Go.Proofs.YtiggohkkokalcaaW.PrintMore
set_option linter.unusedVariables false
set_option linter.unusedSimpArgs false

/-- What Lost gives: different numbers, not more than most. -/
structure LostOK (below most : Int) (out : List Int) : Prop where
  nodup : out.Nodup
  few : out.length = 0 ∨ (out.length : Int) ≤ most
set_option maxRecDepth 100000 in
set_option maxHeartbeats 2000000 in
theorem lost_any (l : List Int) (vl : Value) (below most : Int) (w : World) (HL : Vi w (fun _ => True) vl l) (hb : below ≤ 65536) (hm : most ≤ 70000) :
    Calls Try.prog 27 #[vl, .int .i64 below, .int .i64 most] w fun e w' => ∃ u, e = .returned u ∧ (∃ out, OwnI w' w.heap.size u out ∧ LostOK below most out) ∧ Below w.heap.size w w' := by
  obtain ⟨B, cb, rfl, hcb, hmb⟩ := V_open HL
  have HHL := Lib.hid HL
  clear HL
  go_enter Try.func27, Try.ntmps27
  go_wp2_with fail
  go_loopw [7, 8] (fun u i wr => ∃ (k : Nat) (out : List Int), i = .int .i64 k ∧ k ≤ l.length ∧ Hid (OwnI wr w.heap.size u out) ∧ Hid (LostOK below most out) ∧ Hid (Below w.heap.size w wr)) (fun _ i _ => l.length - (intOf i).toNat)
  case atStart => exact ⟨0, [], rfl, Nat.zero_le _, Lib.hid (OwnI.nil _ _), Lib.hid ⟨List.nodup_nil, .inl rfl⟩, Lib.hid (Below.refl _ _)⟩
  case round =>
    obtain ⟨k, out, rfl, hk, HO, HK, HB⟩ := hrel
    obtain ⟨C, cc, rfl, hcc, hmc⟩ := V_open HO.out.V
    by_cases hgo : k < l.length ∧ (out.length : Int) < most ∧ 0 < below
    · obtain ⟨h1, h2, h3⟩ := hgo
      have HNB := Lib.hid (number_any l _ k below.toNat wr (Kd.V_below HHL.out HB.out) (by omega) (by omega))
      rw [Int.toNat_of_nonneg (by omega : 0 ≤ below)] at HNB
      go_wp2_with (go_at_call 39; refine HNB.out.mono ?_; rintro e w2 ⟨⟨r, rfl, hr⟩, rfl⟩)
      go_loop [10, 11] (fun x q => ∃ c : Nat, q = .int .i64 c ∧ c ≤ out.length ∧ x = .bool (inTo out r c)) (fun _ q => out.length - (intOf q).toNat)
      case atStart => exact ⟨0, rfl, Nat.zero_le _, rfl⟩
      case round =>
        obtain ⟨c, rfl, hc, rfl⟩ := hrel
        by_cases hlt2 : c < out.length
        · obtain ⟨ad2, rfl, hcell2, _⟩ := Vi_cell HO.out.V c hlt2
          have HIS := Lib.hid (inTo_succ out r c hlt2)
          generalize out.getD c 0 = y at *
          cases hb : inTo out r c
          all_goals
            go_wp2_with fail
            refine ⟨⟨c + 1, by go_num, by omega, ?_⟩, by simp [intOf]; omega⟩
            rw [HIS.out, hb]
            first | rfl | (congr 1; simp [beq_eq_decide])
        · obtain rfl : c = out.length := by omega
          have HIL := Lib.hid (show inL out r = inTo out r out.length from rfl)
          cases hb : inTo out r out.length
          case true =>
            go_wp2_with fail
            refine ⟨⟨k + 1, out, by go_num, by omega, HO, HK, HB⟩, by simp [intOf]; omega⟩
          case false =>
            have HBF := Lib.hid hb
            go_wp2_with ((with_reducible refine gate_builtin (b := .append) (xs := #[.tmp 49, .tmp 51]) rfl ?_); at_builtin; refine app_int (w0 := w) w.heap.size rfl (.tmp 49) (.tmp 51) rfl _ out r rfl rfl HO.out HB.out HB.out.size (by omega) ?_; intro v1 w1 hO1 hB1 hg1 hat1)
            refine ⟨⟨k + 1, _, by go_num, by omega, Lib.hid hO1, Lib.hid ⟨?_, .inr ?_⟩, Lib.hid hB1⟩, by simp [intOf]; omega⟩
            · rw [List.nodup_append]
              refine ⟨HK.out.nodup, by simp, fun a ha b hb2 => ?_⟩
              rw [List.mem_singleton] at hb2
              subst hb2
              intro he
              subst he
              have := (inL_iff out r).2 ha
              rw [HIL.out, HBF.out] at this
              cases this
            · rw [List.length_append, List.length_singleton]; omega
    · by_cases h1 : k < l.length
      · by_cases h2 : (out.length : Int) < most
        · have h3 : ¬ 0 < below := fun h => hgo ⟨h1, h2, h⟩
          clear hgo
          go_wp2_with fail
          go_ret
          exact ⟨_, rfl, ⟨out, HO.out, HK.out⟩, HB.out⟩
        · clear hgo
          go_wp2_with fail
          go_ret
          exact ⟨_, rfl, ⟨out, HO.out, HK.out⟩, HB.out⟩
      · clear hgo
        go_wp2_with fail
        go_ret
        exact ⟨_, rfl, ⟨out, HO.out, HK.out⟩, HB.out⟩
end Go.Proofs.Ytiggohkkokalcaa
