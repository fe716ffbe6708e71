/- The walk of package parity's sum: it adds products of blocks to a block of the call's own. -/
import Derived.Test.YtiggohkkokalcaaMem
import Derived.Test.YtiggohkkokalcaaSumPlain
namespace Go.Proofs.Ytiggohkkokalcaa
open Go.RowKit Go.Proofs.YtiggohkkokalcaaW.PrintWords

set_option maxRecDepth 100000 in
set_option maxHeartbeats 1000000 in
theorem sum_any (F : FuncId) (cp : Addr) (c : Nat → G) (bss : List (List G)) (ts : List G) (v vb : Value) (w : World)
    (HO : OwnB w 0 v ts) (HV : Vbb w (fun k => some k ≠ v.ownBlock) vb bss) (hl : ∀ i, (bss.getD i []).length ≤ ts.length)
    (HF : ∀ (args : Array Value) (W : World), (callFunc F args).run Try.prog W = .ok (.enter F args) W)
    (HC : ∀ i : Nat, i < bss.length → ∀ W, w.grownBy W v.ownBlock → Calls Try.prog F #[.int .i64 i, .pointer (some cp)] W fun e w' => e = .returned (.int .u8 (toI (c i))) ∧ Below W.heap.size W w') :
    Calls Try.prog 40 #[v, .func (.func F) #[] #[.pointer (some cp)], vb] w fun e w' => e = .returned (.tuple #[]) ∧ w.grownBy w' v.ownBlock ∧ OwnB w' 0 v (sumG c bss ts) := by
  obtain ⟨A, cb, rfl, hcb, hm⟩ := V_open HV
  have HHV := Lib.hid HV
  have HHO := Lib.hid HO
  have HHC := Lib.hid HC
  have HHL := Lib.hid hl
  clear HV HO HC hl
  go_enter Try.func40, Try.ntmps40
  go_wp2_with fail
  go_loopw [13] (fun i wr => ∃ k : Nat, k ≤ bss.length ∧ i = .int .i64 k ∧ Hid (w.grownBy wr v.ownBlock) ∧ Hid (OwnB wr 0 v (sumMid c bss ts k 0))) (fun i _ => bss.length - (intOf i).toNat)
  case atStart => exact ⟨0, Nat.zero_le _, rfl, Lib.hid (grown_refl _ _), Lib.hid (by rw [sumMid_start]; exact HHO.out)⟩
  case round =>
    obtain ⟨i, hi, rfl, HG, HM⟩ := hrel
    by_cases hlt : i < bss.length
    · have HV1 := Kd.V_grown HHV.out HG.out (fun _ h => h)
      obtain ⟨ad, A1, c1, rfl, hcell, HV2, _⟩ := Vbb_row HV1 i hlt
      obtain ⟨b, hb⟩ : ∃ b, b = bss.getD i [] := ⟨_, rfl⟩
      rw [← hb] at hcell HV2
      have HHB := Lib.hid hb
      have HHV2 := Lib.hid HV2
      have hm2 := V_max HV2
      clear HV1 HV2 hb
      go_wp2_with fail
      refine (HHC.out i hlt wr HG.out).mono ?_
      rintro e w1 ⟨rfl, hB⟩
      have HB1 := Lib.hid hB
      clear hB
      go_wp2_with fail
      obtain ⟨wo, rfl⟩ : ∃ wo : World, wo = wr := ⟨_, rfl⟩
      go_loopw [23] (fun q wq => ∃ k : Nat, k ≤ b.length ∧ q = .int .i64 k ∧ Hid (wo.grownBy wq v.ownBlock) ∧ Hid (OwnB wq 0 v (sumMid c bss ts i k))) (fun q _ => b.length - (intOf q).toNat)
      case atStart => exact ⟨0, Nat.zero_le _, rfl, Lib.hid (grown_of_below HB1.out _), Lib.hid (HM.out.below HB1.out)⟩
      case round =>
        clear hcell
        obtain ⟨k, hk, rfl, HG2, HM2⟩ := hrel
        by_cases hlt2 : k < b.length
        · have HV3 := Kd.V_grown HHV2.out HG2.out (fun _ h => h)
          obtain ⟨ad2, rfl, hc2, _⟩ := Vb_cell HV3 k hlt2
          have hts : b.length ≤ ts.length := by rw [HHB.out]; exact HHL.out i
          have hsl : (sumMid c bss ts i k).length = ts.length := sumMid_length _ _ _ _ _
          obtain ⟨g, cap, rfl, _, hgl⟩ := HM2.out.form (by omega)
          have hkn : k < (sumMid c bss ts i k).length := by omega
          obtain ⟨hc3, hf3⟩ := HM2.out.at_ k (by omega)
          have HS : Hid ((sumMid c bss ts i k).set k ((sumMid c bss ts i k).getD k 0 ^^^ gm (c i) (b.getD k 0)) = sumMid c bss ts i (k + 1)) := Lib.hid (by rw [HHB.out]; exact sumMid_set c bss ts i k)
          have hx := toI_xor ((sumMid c bss ts i k).getD k 0) (gm (c i) (b.getD k 0))
          clear HV3 hts hsl
          generalize (sumMid c bss ts i k).getD k 0 = old at *
          generalize b.getD k 0 = x at *
          generalize c i = y at *
          generalize (sumMid c bss ts i k).length = n at *
          go_wp2_with fail
          go_region_with (go_at_call 11; refine (mul_any _ _ _).mono ?_; rintro e w2 ⟨rfl, hB⟩; have HB2 := Lib.hid hB; obtain ⟨hc, hf⟩ := bcell hB; (try simp only [World.size_drew] at hc hf); clear hB)
          all_goals go_wp2_with fail
          all_goals
            have h1 := (HM2.out.drew.below HB2.out).set_ k (old ^^^ gm y x)
            refine ⟨⟨k + 1, by omega, by go_num, Lib.hid (grown_tr (grown_tr (grown_drew HG2.out) (grown_of_below HB2.out _)) h1.2), Lib.hid ?_⟩, by simp [intOf]; omega⟩
            rw [← HS.out]
            exact h1.1
        · obtain rfl : k = b.length := by omega
          go_wp2_with fail
          refine ⟨⟨i + 1, by omega, by go_num, Lib.hid (grown_tr HG.out HG2.out), Lib.hid ?_⟩, by simp [intOf]; omega⟩
          rw [← sumMid_next, ← HHB.out]
          exact HM2.out
    · obtain rfl : i = bss.length := by omega
      go_wp2_with fail
      go_end0
      exact ⟨rfl, HG.out, by have := HM.out; rwa [sumMid_end] at this⟩
end Go.Proofs.Ytiggohkkokalcaa
