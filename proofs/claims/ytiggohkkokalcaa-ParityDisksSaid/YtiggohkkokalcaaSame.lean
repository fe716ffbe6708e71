/- The walk of the reference's Same: two lists of blocks are equal. -/
import Derived.Test.YtiggohkkokalcaaMem
import Derived.Deep.QuietTactic
import Derived.BigQuiet
namespace Go.Proofs.Ytiggohkkokalcaa
open Go.RowKit Go.Proofs.YtiggohkkokalcaaW.PrintWords
set_option linter.unusedVariables false

theorem KG_int {w : World} {A : Option Addr} {n : Nat} {bs : List G} (h : KG.C w A n bs) : (Kd.int .u8).C w A n (bs.map toI) := by
  obtain ⟨h1, h2, h3⟩ := h
  refine ⟨by rw [List.length_map]; exact h1, h2, fun hn => ?_⟩
  obtain ⟨ad, he, hc⟩ := h3 hn
  refine ⟨ad, he, fun j p hj => ?_⟩
  rw [List.getElem?_map] at hj
  obtain ⟨b, hb, rfl⟩ := Option.map_eq_some_iff.1 hj
  obtain ⟨c, hl, hk, hcell⟩ := hc j b hb
  exact ⟨c, hl, hk, hcell⟩
/-- the string of a row of bytes -/
def strG (bs : List G) : ByteArray := strOfNums (bs.map toI)
theorem V_string {w : World} {ok : Nat → Prop} {A : Option Addr} {n c : Nat} {bs : List G} (h : Vb w ok (.slice A n c) bs) :
    ∀ m, (convert 33 9 (.slice A n c)).run Try.prog (w.drewN m) = .ok (.string (strG bs)) (w.drewN m) := fun m => by
  have h1 := (Kd.V_reads' (Kd.V_drewN h m)).2.2
  have h2 := (Kd.V_at h).1
  subst h2
  exact Kd.C_string (P := Try.prog) Try.underlying33 Try.underlying5 Try.underlying9 (KG_int h1)
theorem strG_list (bs : List G) : (strG bs).toList = bs.map fun b => UInt8.ofNat b.toNat := by
  rw [ByteArray.toList_eq]
  simp [strG, strOfNums, toI]
theorem strG_inj (a b : List G) : (strG a).toList = (strG b).toList ↔ a = b := by
  rw [strG_list, strG_list]
  constructor
  · intro h
    refine List.map_inj_right (fun x y hxy => ?_) |>.1 h
    have := congrArg UInt8.toNat hxy
    simp only [UInt8.toNat_ofNat'] at this
    have h1 := x.isLt; have h2 := y.isLt
    exact BitVec.eq_of_toNat_eq (by omega)
  · intro h; rw [h]

set_option maxRecDepth 100000 in
set_option maxHeartbeats 1000000 in
theorem same_any (a b : List (List G)) (va vb : Value) (w : World) (HA : Vbb w (fun _ => True) va a) (HB : Vbb w (fun _ => True) vb b) :
    Calls Try.prog 20 #[va, vb] w fun e w' => e = .returned (.bool (decide (a = b))) ∧ ∃ n, w' = w.drewN n := by
  obtain ⟨A, ca, rfl, hca, hma⟩ := V_open HA
  obtain ⟨B, cb, rfl, hcb, hmb⟩ := V_open HB
  have HHA := Lib.hid HA
  have HHB := Lib.hid HB
  clear HA HB
  by_cases hl : a.length = b.length
  · have hlb : ((a.length : Int) != (b.length : Int)) = false := by rw [bne_eq_false_iff_eq]; omega
    have hlb2 : ((a.length : Int) == (b.length : Int)) = true := by rw [beq_iff_eq]; omega
    have hlb3 : (a.length == b.length) = true := by rw [beq_iff_eq]; omega
    have hlb4 : (a.length != b.length) = false := by rw [bne_eq_false_iff_eq]; omega
    have HL := Lib.hid hl
    clear hl
    go_enter Try.func20, Try.ntmps20
    go_wp2_with fail
    go_loopw [5] (fun i wr => ∃ k m : Nat, i = .int .i64 k ∧ k ≤ a.length ∧ wr = w.drewN m ∧ Hid (∀ j, j < k → a.getD j [] = b.getD j [])) (fun i _ => a.length - (intOf i).toNat)
    case atStart => exact ⟨0, 0, rfl, Nat.zero_le _, rfl, Lib.hid (fun j hj => by omega)⟩
    case round =>
      clear hlb hlb2 hlb3 hlb4
      obtain ⟨k, m, rfl, hk, rfl, HE⟩ := hrel
      by_cases hlt : k < a.length
      · have hltb : k < b.length := by have := HL.out; omega
        obtain ⟨ad, A1, c1, rfl, hc1, hV1, _⟩ := Vbb_row HHA.out k hlt
        obtain ⟨bd, B1, d1, rfl, hc2, hV2, _⟩ := Vbb_row HHB.out k hltb
        have hs1 := V_string hV1
        have hs2 := V_string hV2
        have HI := Lib.hid (strG_inj (a.getD k []) (b.getD k []))
        generalize hx : a.getD k [] = x at *
        generalize hy : b.getD k [] = y at *
        have HX := Lib.hid hx
        have HY := Lib.hid hy
        clear hx hy hV1 hV2
        by_cases he : x = y
        · have hb1 : ((strG x).toList == (strG y).toList) = true := by rw [beq_iff_eq]; exact HI.out.2 he
          have hb2 : ((strG x).toList != (strG y).toList) = false := by rw [bne_eq_false_iff_eq]; exact HI.out.2 he
          have HH := Lib.hid he
          clear he
          go_wp2_with fail
          go_quiet (fail)
          go_wp2_with fail
          refine ⟨⟨k + 1, m + nq, by go_num, by omega, rfl, Lib.hid (fun j hj => ?_)⟩, by simp [intOf]; omega⟩
          by_cases e : j = k
          · subst e; rw [HX.out, HY.out, HH.out]
          · exact HE.out j (by omega)
        · have hb1 : ((strG x).toList == (strG y).toList) = false := by rw [beq_eq_false_iff_ne]; exact fun h => he (HI.out.1 h)
          have hb2 : ((strG x).toList != (strG y).toList) = true := by rw [bne_iff_ne]; exact fun h => he (HI.out.1 h)
          have HH := Lib.hid he
          clear he
          go_wp2_with fail
          go_quiet (fail)
          go_wp2_with fail
          go_ret
          have hf : decide (a = b) = false := by rw [decide_eq_false_iff_not]; intro h; exact HH.out (by rw [← HX.out, ← HY.out, h])
          exact ⟨by rw [hf]; rfl, _, World.drewN_drewN _ _ _⟩
      · obtain rfl : k = a.length := by omega
        go_wp2_with fail
        go_ret
        have hf : decide (a = b) = true := by
          rw [decide_eq_true_iff]
          apply List.ext_getElem HL.out
          intro i h1 h2
          have := HE.out i h1
          simpa [List.getD_eq_getElem?_getD, h1, h2] using this
        exact ⟨by rw [hf]; rfl, m, rfl⟩
  · have hlb : ((a.length : Int) != (b.length : Int)) = true := by rw [bne_iff_ne]; omega
    have hlb3 : (a.length != b.length) = true := by rw [bne_iff_ne]; exact hl
    have hf : decide (a = b) = false := by rw [decide_eq_false_iff_not]; intro h; exact hl (by rw [h])
    have HF := Lib.hid hf
    clear hl hf
    go_enter Try.func20, Try.ntmps20
    go_wp2_with fail
    go_ret
    exact ⟨by rw [HF.out]; rfl, 0, rfl⟩
end Go.Proofs.Ytiggohkkokalcaa
