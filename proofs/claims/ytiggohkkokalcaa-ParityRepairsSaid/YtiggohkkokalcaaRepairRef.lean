/- The walk of the reference's Repair: it answers as package parity's. -/
import Derived.Test.YtiggohkkokalcaaRepWords
import Derived.Test.YtiggohkkokalcaaLengths
import Derived.Test.YtiggohkkokalcaaRepair
import Derived.Test.YtiggohkkokalcaaRefMake
import Derived.Test.YtiggohkkokalcaaSame
import Derived.Test.YtiggohkkokalcaaSolveRef
import Derived.Deep.Cut
namespace Go.Proofs.Ytiggohkkokalcaa
open Go.RowKit Go.Proofs.YtiggohkkokalcaaW.PrintWords Go.Proofs.YtiggohkkokalcaaW.PrintMore Go.Proofs.YtiggohkkokalcaaW.PrintLast
set_option linter.unusedVariables false
set_option linter.unusedSimpArgs false
attribute [local go_sem] max2_int max_two

theorem takeL_succ (l : List (List G)) (k : Nat) (h : k < l.length) : l.take (k + 1) = l.take k ++ [l.getD k []] := by
  rw [List.take_add_one, List.getElem?_eq_getElem h, List.getD_eq_getElem?_getD, List.getElem?_eq_getElem h]; rfl
def rowTo (lost : List Nat) (j k : Nat) : List G := (List.range k).map fun c => fG j (lost.getD c 0)
theorem rowTo_succ (lost : List Nat) (j k : Nat) : rowTo lost j (k + 1) = rowTo lost j k ++ [fG j (lost.getD k 0)] := by simp [rowTo, List.range_succ]
theorem rowTo_length (lost : List Nat) (j k : Nat) : (rowTo lost j k).length = k := by simp [rowTo]
theorem rowTo_all (lost : List Nat) (j : Nat) : rowTo lost j lost.length = rowG lost j := by
  refine list_ext_getD 0 (by simp [rowTo, rowG]) (fun c hc => ?_)
  rw [rowTo_length] at hc
  rw [rowG_getD _ _ _ hc]
  simp [rowTo, hc]

/-- the operation that writes slot N -/
theorem step_gate {ops : Array Oper} {o : Oper} {a : Act} {W : World} {K : Act → World → Prop} {Q : Exit → Act → World → Prop} {E : Prop} (N : Tmp) (hd : o.dst = some N)
    (h : if Region.wanted o (yielded ops a.tmps) = true then Oper.wp Try.prog o a W K Q else E) : if Region.wanted o (yielded ops a.tmps) = true then Oper.wp Try.prog o a W K Q else E := h

set_option maxRecDepth 100000 in
set_option maxHeartbeats 8000000 in
theorem refrepair_any (bss pss : List (List G)) (xs : List Int) (X : List (List G)) (hX : chkErr bss pss xs = 0 → Sols bss pss xs X) (vb vp vi : Value) (w : World) (HV : Vbb w (fun _ => True) vb bss) (HP : Vbb w (fun _ => True) vp pss) (HI : Vi w (fun _ => True) vi xs) :
    Calls Try.prog 30 #[vb, vp, vi] w fun e w' => RefPost bss pss xs X w e w' := by
  obtain ⟨A, ca, rfl, hca, hma⟩ := V_open HV
  obtain ⟨B, cb, rfl, hcb, hmb⟩ := V_open HP
  obtain ⟨C, cc, rfl, hcc, hmc⟩ := V_open HI
  have HHV := Lib.hid (Kd.V_bound HV); have HHP := Lib.hid (Kd.V_bound HP); have HHI := Lib.hid (Kd.V_bound HI)
  have HCH := Lib.hid (lengths_any bss pss xs _ _ _ w HV HP HI)
  clear HV HP HI
  by_cases hE : chkErr bss pss xs = 0
  case neg =>
    have hEb : (chkErr bss pss xs != 0) = true := by rw [bne_iff_ne]; exact hE
    have HE := Lib.hid hE
    clear hE hX
    go_enter Try.func30, Try.ntmps30
    go_wp2_with (go_at_call 56; refine HCH.out.mono ?_; rintro e w1 ⟨⟨vl, vr, rfl, _⟩, hB1⟩; have HB1 := Lib.hid hB1; clear hB1)
    go_ret3
    exact RefPost.bad HE.out HB1.out
  have hok := (chk_iff bss pss xs).1 hE
  have HX := Lib.hid (hX hE)
  have HE := Lib.hid hE
  have HOK := Lib.hid hok
  have h16 := hok.h16
  have h4 := hok.h4
  have HXL := Lib.hid hok.hx
  clear hE hok hX
  go_enter Try.func30, Try.ntmps30
  go_upto_region 4 with (go_at_call 56; refine HCH.out.mono ?_; rintro e w1 ⟨⟨vl, vr, rfl, hp⟩, hB1⟩; have HB1 := Lib.hid hB1; have HP1 := Lib.hid (hp HE.out); have hE0 := HE.out; rw [hE0]; clear hB1 hp hE0)
  obtain ⟨lost, hlo⟩ : ∃ l, l = lostN bss xs := ⟨_, rfl⟩
  obtain ⟨left, hle⟩ : ∃ l, l = leftN pss (lngTo xs bss.length) := ⟨_, rfl⟩
  have hV1 := HP1.out.1.V
  have hV2 := HP1.out.2.1.V
  rw [lostTo_lostN, ← hlo] at hV1
  rw [leftTo_leftN, ← hle] at hV2
  obtain ⟨Dl, cl, hvl, hcl, _⟩ := V_open hV1
  obtain ⟨De, ce, hvr, hce, _⟩ := V_open hV2
  rw [List.length_map] at hcl hce hvl hvr
  subst hvl hvr
  have HLO := Lib.hid (Kd.V_mono hV1 (fun _ _ => trivial) : Vi w1 (fun _ => True) _ _)
  have HLE := Lib.hid (Kd.V_mono hV2 (fun _ _ => trivial) : Vi w1 (fun _ => True) _ _)
  have HD := Lib.hid (Kd.V_bound (Kd.V_mono (Kd.V_below HHV.out HB1.out) (fun _ _ => trivial) : Vbb w1 (fun _ => True) _ _))
  have HQ := Lib.hid (Kd.V_mono (Kd.V_below HHP.out HB1.out) (fun _ _ => trivial) : Vbb w1 (fun _ => True) _ _)
  have HS := Lib.hid (Kd.V_mono (Kd.V_below HHI.out HB1.out) (fun _ _ => trivial) : Vi w1 (fun _ => True) _ _)
  have hkk : lost.length ≤ left.length := by rw [hlo, hle]; exact HOK.out.few
  have hl16 : ∀ c, c < lost.length → lost.getD c 0 < bss.length := fun c hc => by rw [hlo] at hc ⊢; exact (lostN_at hc).1
  have hl4 : ∀ c, c < left.length → left.getD c 0 < pss.length := fun c hc => by rw [hle] at hc ⊢; exact (leftN_at hc).1
  have hlen : ∀ c, c < left.length → (pss.getD (left.getD c 0) []).length = lngN bss xs := fun c hc => by rw [hle] at hc ⊢; exact HOK.out.left hc
  have hk16 : lost.length ≤ 16 := by have := lostN_length bss xs; rw [← hlo] at this; omega
  have hk4 : left.length ≤ 4 := by have := leftN_length pss (lngTo xs bss.length); rw [← hle] at this; omega
  have hINJ : Inj lost.length (at2 (rowsG lost left lost.length)) := rows_inj lost left (by rw [hlo]; exact lostN_sorted _ _) (by rw [hle]; exact leftN_sorted _ _) (fun c hc => by have := hl16 c hc; omega) (fun c hc => by have := hl4 c hc; omega) hkk
  have hlng := HOK.out.lng
  have hlng1 := hlng.1
  have hlng2 := hlng.2
  have HL := Lib.hid hlo; have HLF := Lib.hid hle; have HINJ := Lib.hid hINJ
  have HL16 := Lib.hid hl16; have HL4 := Lib.hid hl4; have HLEN := Lib.hid hlen
  have HLNG := Lib.hid hlng1
  clear HP1 HHV HHP HHI HCH hV1 hV2 hlo hle hINJ hl16 hl4 hlen hlng hlng1
  go_wp2_with fail
  go_loopw [12, 13, 14] (fun vo n i wr => ∃ k : Nat, i = .int .i64 k ∧ k ≤ bss.length ∧ n = .int .i64 (lngTo xs k) ∧ Hid (Kd.N KGs 33 wr w1.heap.size (fun _ => True) vo (bss.take k)) ∧ Hid (Below w1.heap.size w1 wr)) (fun _ _ i _ => bss.length - (intOf i).toNat)
  case atStart => exact ⟨0, rfl, Nat.zero_le _, rfl, Lib.hid (by rw [List.take_zero]; exact Kd.N_nil _ _ _ _ _), Lib.hid (Below.refl _ _)⟩
  case round =>
    obtain ⟨k, rfl, hk, rfl, HN, HB⟩ := hrel
    by_cases hlt : k < bss.length
    · have hwr := HB.out.size
      obtain ⟨ad, A1, c1, rfl, hcell, HV2, _⟩ := Vbb_row (Kd.V_below HD.out HB.out) k hlt
      obtain ⟨bd, rfl, hcell2, _⟩ := Vi_cell HS.out k (by have := HXL.out; omega)
      have HV2 := Lib.hid HV2
      have hL := Lib.hid (show lngTo xs (k + 1) = max (lngTo xs k) (xs.getD k 0) from rfl)
      have hT := Lib.hid (takeL_succ bss k hlt)
      have hkx : k < xs.length := by have := HXL.out; omega
      have htl : (bss.take k).length = k := by rw [List.length_take]; omega
      have h24 : ((bss.take k).length + 1) * 24 ≤ 140737488355328 := by omega
      have hokp : ∀ q, (True ∧ q < w1.heap.size) → True ∧ some q ≠ u12.ownBlock := fun q hq => ⟨trivial, fun he => by have := Kd.N_base HN.out q he.symm; have := hq.2; omega⟩
      have HOKP := Lib.hid hokp
      have HSZ := Lib.hid h24
      generalize bss.getD k [] = b at *
      generalize xs.getD k 0 = s at *
      generalize lngTo xs k = l at *
      clear htl h24 hokp
      obtain ⟨okf, hVF⟩ : ∃ okf : Nat → Prop, Vb wr okf (.slice A1 b.length c1) b ∧ ∀ q, okf q → True ∧ some q ≠ u12.ownBlock := ⟨_, HV2.out, HOKP.out⟩
      have HVF := Lib.hid hVF
      have HFK : Hid (Kd.FK KGs wr okf b [.slice A1 b.length c1]) := Lib.hid (by obtain ⟨h1, h2, h3⟩ := Kd.V_at hVF.1; exact Kd.FK_slice_mk h2 h3)
      clear hVF
      by_cases hls : l < s
      all_goals
        go_wp2_with ((with_reducible refine gate_builtin (b := .append) (xs := #[.tmp 48, .tmp 53]) rfl ?_); at_builtin; refine Kd.N_append KGs (w0 := w1) w1.heap.size rfl (.tmp 48) (.tmp 53) 30 33 (.slice none 0 0) 24 rfl Try.underlying30 info33 rfl (by decide) (by omega) u12 (bss.take k) b [.slice A1 b.length c1] (fun _ => True) okf rfl rfl HFK.out HVF.out.2 (fun _ _ => trivial) HN.out HB.out HB.out.size HSZ.out ?_; intro v3 w3 hN3 hB3 _ _; have hcell3 := pw_cell_below hB3 hcell2)
        rw [← hT.out] at hN3
        refine ⟨⟨k + 1, by go_num, by omega, congrArg (Value.int .i64) (by rw [hL.out]; omega), Lib.hid hN3, Lib.hid hB3⟩, by simp [intOf]; omega⟩
    · obtain rfl : k = bss.length := by omega
      have HN2 := HN
      rw [List.take_length] at HN2
      rw [HLNG.out]
      clear HN
      have hvo : ∃ A3 c3, u12 = .slice A3 bss.length c3 := by obtain ⟨A3, c3, h, _, _⟩ := V_open (Kd.N_V (base' := 0) HN2.out); exact ⟨A3, c3, h⟩
      obtain ⟨Ao, co, rfl⟩ := hvo
      obtain ⟨L, hLe⟩ : ∃ L, L = lngN bss xs := ⟨_, rfl⟩
      rw [← hLe] at hlng2 ⊢
      have HLE2 := Lib.hid hLe
      clear hLe
      obtain ⟨wo, rfl⟩ : ∃ wo : World, wo = wr := ⟨_, rfl⟩
      go_wp2_with fail
      go_loopw [15, 16] (fun vR i wq => ∃ (r : Nat) (ws : List Value), i = .int .i64 r ∧ r ≤ lost.length ∧ Hid (Mat wq wo.heap.size r vR ws (rowsG lost left r)) ∧ Hid (Below wo.heap.size wo wq)) (fun _ i _ => lost.length - (intOf i).toNat)
      case atStart => exact ⟨0, [], rfl, Nat.zero_le _, Lib.hid (Mat.nil _ _), Lib.hid (Below.refl _ _)⟩
      case round =>
        obtain ⟨r, ws, rfl, hr, HMR, HBL⟩ := hrel
        by_cases hlt2 : r < lost.length
        · obtain ⟨AR, aR, rfl⟩ := HMR.out.slice
          have hwo := HBL.out.size
          have hB1r : Below w1.heap.size w1 wr := HB.out.trans (HBL.out.mono HB.out.size)
          obtain ⟨ad, rfl, hcell, _⟩ := idx_cell (Kd.V_below HLE.out hB1r) r (by omega)
          have hj4 := HL4.out r (by omega)
          have HRS := Lib.hid (rowsG_succ lost left r (by omega))
          have hrl : (r : Int) < (left.length : Int) := by omega
          have hr0 : (0 : Int) ≤ (r : Int) := by omega
          have HB1R := Lib.hid hB1r
          clear hB1r
          generalize left.getD r 0 = j at *
          obtain ⟨wp, rfl⟩ : ∃ wp : World, wp = wr := ⟨_, rfl⟩
          go_wp2_with fail
          go_loopw [17, 18] (fun u q wq => ∃ c : Nat, q = .int .i64 c ∧ c ≤ lost.length ∧ Hid (OwnB wq wp.heap.size u (rowTo lost j c)) ∧ Hid (Below wp.heap.size wp wq)) (fun _ q _ => lost.length - (intOf q).toNat)
          case atStart => exact ⟨0, rfl, Nat.zero_le _, Lib.hid (World.ownsRow_nil _ _ _ _), Lib.hid (Below.refl _ _)⟩
          case round =>
            obtain ⟨c, rfl, hc, HO, HBQ⟩ := hrel
            by_cases hlt3 : c < lost.length
            · have hcq := pw_cell_below HBQ.out hcell
              obtain ⟨ad3, rfl, hcell0, _⟩ := idx_cell (Kd.V_below HLO.out HB1R.out) c hlt3
              have hcell3 := pw_cell_below HBQ.out hcell0
              have hi16 := HL16.out c hlt3
              have hc0 : (0 : Int) ≤ (c : Int) := by omega
              have hcl3 : (c : Int) < (lost.length : Int) := by omega
              have HTS := Lib.hid (rowTo_succ lost j c)
              have hl7 : (rowTo lost j c).length + 1 ≤ 140000 := by rw [rowTo_length]; omega
              have HRF := Lib.hid (fun W => reffactor_any j (lost.getD c 0) W (by omega) (by omega))
              generalize lost.getD c 0 = i at *
              generalize fG j i = x at *
              have HL7 := Lib.hid hl7
              clear hl7
              have hcA := pw_cell_below (below_alloc (Below.refl wr.heap.size wr) (.cells #[.int .u8 (toI x)] 5)) hcq
              have hcB := pw_cell_below (below_alloc (Below.refl wr.heap.size wr) (.cells #[.int .u8 (toI x)] 5)) hcell3
              have HOA := Lib.hid (HO.out.below (below_alloc (Below.refl wr.heap.size wr) (.cells #[.int .u8 (toI x)] 5)))
              have HBA := Lib.hid (below_drew (below_alloc HBQ.out (.cells #[.int .u8 (toI x)] 5)))
              have HXA := Lib.hid (byte1_new wr x u17 HO.out)
              go_wp2_with fail
              go_region_held3 (fun W => W.cell? (ad.add r) = some (.int .i64 (j : Int)) ∧ W.cell? (ad3.add c) = some (.int .i64 (i : Int)))
                (first
                  | exact ⟨hcq, hcell3⟩
                  | exact ⟨hcA, hcB⟩
                  | exact ⟨pw_cell_below HB4.out hcell, pw_cell_below HB4.out hcell0⟩)
                (first
                  | (go_at_call 44; refine (HRF.out _).mono ?_; rintro e w' ⟨rfl, hw'⟩; rw [hw']; clear hw')
                  | ((with_reducible refine step_gate 84 rfl ?_); have hl1 := HL7.out; have hB2 := HBA.out.size; refine app_rows_step (w0 := wp) wp.heap.size (by rfl) (.tmp 73) (.tmp 83) (by rfl) u17 (rowTo lost j c) [x] (some ⟨wr.heap.size, 0, none⟩) 1 1 (by rfl) (by rfl) HOA.out HXA.out HBA.out hB2 hl1 ?_; intro v4 w4 hO4 hB4 hg4 hat4; have HO4 := Lib.hid hO4; have HB4 := Lib.hid hB4; clear hl1 hB2 hO4 hB4 hg4 hat4))
              go_wp2_with fail
              refine ⟨⟨c + 1, by go_num, by omega, Lib.hid (by rw [HTS.out]; exact HO4.out), HB4⟩, by simp [intOf]; omega⟩
            · obtain rfl : c = lost.length := by omega
              have hO4 := HO.out
              rw [rowTo_all] at hO4
              obtain ⟨Ar, ar, hu, _, _⟩ := V_open hO4.V
              have hgl : (rowG lost j).length = lost.length := by unfold rowG; rw [List.length_map]
              rw [hgl] at hu
              subst hu
              have HMR4 := Lib.hid (HMR.out.below HBQ.out)
              have HBL4 := Lib.hid (HBL.out.trans (HBQ.out.mono hwo))
              have HU := Lib.hid (own_less hO4 hwo : OwnB wr wo.heap.size _ (rowG lost j))
              have HAP1 : Hid (∀ q, q < r → Ap2 (vat ws q) (.slice Ar lost.length ar)) := Lib.hid (fun q hq => (Ap2_fresh (m := wp.heap.size) (fun k hk => (hO4.lt k hk).1) (fun k hk => ((HMR.out.row q hq).lt k hk).2)).symm)
              have hr7 : r ≤ 70000 := by omega
              clear hO4 HO hgl
              go_wp2_with ((with_reducible refine gate_builtin (b := .append) (xs := #[.tmp 85, .tmp 87]) rfl ?_); at_builtin; refine app_mat (w0 := wo) wo.heap.size r rfl (.tmp 85) (.tmp 87) rfl _ (.slice Ar lost.length ar) ws (rowsG lost left r) (rowG lost j) rfl rfl HMR4.out HU.out HAP1.out HBL4.out HBL4.out.size hr7 ?_; intro v5 w5 hM5 hB5 hg5 hat5)
              rw [← HRS.out] at hM5
              refine ⟨⟨r + 1, _, by go_num, by omega, Lib.hid hM5, Lib.hid hB5⟩, by simp [intOf]; omega⟩
        · obtain rfl : r = lost.length := by omega
          obtain ⟨AR, aR, rfl⟩ := HMR.out.slice
          have hB1r : Below w1.heap.size w1 wr := HB.out.trans (HBL.out.mono HB.out.size)
          have HB1R := Lib.hid hB1r
          have HN3 := Lib.hid (Kd.N_below HN2.out HBL.out)
          clear hB1r HN2 HB
          obtain ⟨wp, rfl⟩ : ∃ wp : World, wp = wr := ⟨_, rfl⟩
          go_wp2_with ((with_reducible refine gate_dst (N := 91) rfl ?_); refine Kd.R_make KSl wp.heap.size 33 rfl (N := 91) rfl 30 _ _ rfl (lost.length : Int) rfl rfl Try.underlying30 (.slice none 0 0) 24 info33 rfl (by decide) (by omega) (none, 0, 0) (ok := fun _ => True) (okp := fun _ => True) rfl (fun _ hk => hk) trivial (by omega) (by omega) (Below.refl _ _) (Nat.le_refl _) ?_; intro vf w2 ho hb hg hnew)
          rw [Int.toNat_natCast] at ho
          have HF0 := Lib.hid (Mat.made ho)
          have HB2 := Lib.hid hb
          clear ho hb hg hnew
          obtain ⟨Af, cf, rfl⟩ := HF0.out.slice
          have HSZ2 := Lib.hid (fun c (hc : c < lost.length) => (show xs.getD (lost.getD c 0) 0 = (sizeAt xs lost c : Int) ∧ sizeAt xs lost c ≤ L from by rw [HLE2.out]; exact HOK.out.sizeN _ (HL16.out c hc)))
          have HXW := Lib.hid (fun c (hc : c < lost.length) => (show (X.getD c []).length = L from by rw [HLE2.out]; rw [HL.out] at hc; exact HX.out.2.1 c hc))
          have HXS := Lib.hid (fun p (hp : p < L) => (show Sol lost.length (at2 (rowsG lost left lost.length)) (fun r => at2 (blksG bss pss left lost.length) r p) (fun c => at2 X c p) from by rw [HLE2.out] at hp; rw [HL.out, HLF.out]; exact HX.out.2.2 p hp))
          have HLEN2 := Lib.hid (fun c (hc : c < left.length) => (show (pss.getD (left.getD c 0) []).length = L from by rw [HLE2.out]; exact HLEN.out c hc))
          have HDL := Lib.hid (fun i => (show (bss.getD i []).length ≤ L from by rw [HLE2.out]; exact HOK.out.data i))
          go_loopw [20] (fun kk wq => ∃ (k : Nat) (fs : List Value), kk = .int .i64 k ∧ k ≤ L ∧ Hid (Mat wq wp.heap.size lost.length (.slice Af lost.length cf) fs (foundTo X (sizeAt xs lost) lost.length k)) ∧ Hid (∀ q, q < k → ∀ c, c < lost.length → sizeAt xs lost c ≤ q → (X.getD c []).getD q 0 = 0) ∧ Hid (Below wp.heap.size wp wq)) (fun kk _ => L - (intOf kk).toNat)
          case atStart => exact ⟨0, _, rfl, Nat.zero_le _, Lib.hid (by rw [foundTo_zero]; exact HF0.out), Lib.hid (fun q hq => absurd hq (Nat.not_lt_zero _)), HB2⟩
          case round =>
            clear HF0 HB2
            obtain ⟨k, fs, rfl, hk, HF, HZ, HBP⟩ := hrel
            by_cases hgo : k < L ∧ 0 < lost.length
            · obtain ⟨hkL, hK0⟩ := hgo
              have hkLi : (k : Int) < (L : Int) := by omega
              have hK0i : (0 : Int) < (lost.length : Int) := by omega
              have hBk : Below w1.heap.size w1 wr := HB1R.out.trans (HBP.out.mono HB1R.out.size)
              have HBK := Lib.hid hBk
              clear hBk
              obtain ⟨wk, rfl⟩ : ∃ wk : World, wk = wr := ⟨_, rfl⟩
              go_wp2_with fail
              go_loopw [21, 22] (fun u q wq => ∃ r : Nat, q = .int .i64 r ∧ r ≤ lost.length ∧ Hid (OwnB wq wk.heap.size u (rightTo bss pss left k r)) ∧ Hid (Below wk.heap.size wk wq)) (fun _ q _ => lost.length - (intOf q).toNat)
              case atStart => exact ⟨0, rfl, Nat.zero_le _, Lib.hid (World.ownsRow_nil _ _ _ _), Lib.hid (Below.refl _ _)⟩
              case round =>
                obtain ⟨r, rfl, hr, HO, HBQ⟩ := hrel
                have hBq := HBK.out.trans (HBQ.out.mono HBK.out.size)
                by_cases hrK : r < lost.length
                · obtain ⟨ad, rfl, hcell, _⟩ := idx_cell (Kd.V_below HLE.out hBq) r (by omega)
                  have hj4 := HL4.out r (by omega)
                  have hjl := HLEN2.out r (by omega)
                  obtain ⟨pd, P1, p1, rfl, hcell2, HV2, _⟩ := Vbb_row (Kd.V_below HQ.out hBq) (left.getD r 0) hj4
                  rw [hjl] at hcell2 HV2
                  obtain ⟨bd, rfl, hcb, _⟩ := Vb_cell HV2 k (by rw [hjl]; exact hkL)
                  have HRT := Lib.hid (rightTo_succ bss pss left k r)
                  have HBG := Lib.hid (blk_getD bss pss (left.getD r 0) k (by rw [hjl]; exact hkL))
                  have HBq := Lib.hid hBq
                  have hrl : (r : Int) < (left.length : Int) := by omega
                  have hr0 : (0 : Int) ≤ (r : Int) := by omega
                  clear HV2 hjl hBq
                  generalize (blkG bss pss (left.getD r 0)).getD k 0 = g at *
                  generalize left.getD r 0 = j at *
                  generalize (pss.getD j []).getD k 0 = p at *
                  go_wp2_with fail
                  obtain ⟨wz, rfl⟩ : ∃ wz : World, wz = wr := ⟨_, rfl⟩
                  go_loopw [23, 24] (fun x q wq => ∃ i m : Nat, q = .int .i64 i ∧ i ≤ bss.length ∧ x = .int .u8 (toI (p ^^^ xsum i (term (fG j) bss k))) ∧ wq = wz.drewN m) (fun _ q _ => bss.length - (intOf q).toNat)
                  case atStart => exact ⟨0, 0, rfl, Nat.zero_le _, by simp [xsum], rfl⟩
                  case round =>
                    obtain ⟨i, m, rfl, hi, rfl, rfl⟩ := hrel
                    by_cases hib : i < bss.length
                    · obtain ⟨dd, D1, d1, rfl, hcd, HVD, _⟩ := Vbb_row (Kd.V_below HD.out HBq.out) i hib
                      have HIN := Lib.hid (xsum_succ_in bss j k i p)
                      have HOUT := Lib.hid (xsum_succ_out bss j k i p)
                      have hib0 : (0 : Int) ≤ (i : Int) := by omega
                      have hibl : (i : Int) < (bss.length : Int) := by omega
                      generalize p ^^^ xsum i (term (fG j) bss k) = x at *
                      generalize hx2e : p ^^^ xsum (i + 1) (term (fG j) bss k) = x2 at *
                      have HX2E := Lib.hid hx2e
                      clear hx2e
                      by_cases hkb : k < (bss.getD i []).length
                      · obtain ⟨cd, rfl, hce2, _⟩ := Vb_cell HVD k hkb
                        have hx := toI_xor x (gm (fG j i) ((bss.getD i []).getD k 0))
                        rw [← HIN.out] at hx
                        have HRF := Lib.hid (fun W => reffactor_any j i W (by omega) (by omega))
                        clear HVD HOUT HIN
                        generalize (bss.getD i []).getD k 0 = y at *
                        generalize (bss.getD i []).length = n1 at *
                        generalize fG j i = f at *
                        have hk0 : (0 : Int) ≤ (k : Int) := by omega
                        have hkn : (k : Int) < (n1 : Int) := by omega
                        go_wp2_with fail
                        go_region_held3 (fun W => W.cell? (ad.add r) = some (.int .i64 (j : Int)) ∧ W.cell? (dd.add i) = some (.slice (some cd) n1 d1) ∧ W.cell? (cd.add k) = some (.int .u8 (toI y)))
                          (exact ⟨hcell, hcd, hce2⟩)
                          (first
                            | (go_at_call 44; refine (HRF.out _).mono ?_; rintro e w' ⟨rfl, hw'⟩; rw [hw']; clear hw')
                            | (go_at_call 12; refine (refmul_any _ _ _).mono ?_; rintro e w' ⟨rfl, hw'⟩; rw [hw']; clear hw'))
                        go_wp2_with fail
                        exact ⟨⟨i + 1, m + 1, by go_num, by omega, by rw [HX2E.out], rfl⟩, by simp [intOf]; omega⟩
                      · have hkb2 : ¬ (k : Int) < (((bss.getD i []).length : Nat) : Int) := by omega
                        have hxx := HOUT.out (by omega)
                        clear HVD HOUT HIN
                        have HXX := Lib.hid hxx
                        clear hxx
                        generalize (bss.getD i []).length = n1 at *
                        go_wp2_with fail
                        exact ⟨⟨i + 1, m, by go_num, by omega, by rw [HX2E.out, HXX.out], rfl⟩, by simp [intOf]; omega⟩
                    · obtain rfl : i = bss.length := by omega
                      rw [← HBG.out]
                      have hOm : OwnB (wz.drewN m) wk.heap.size u21 (rightTo bss pss left k r) := HO.out.below (below_drewN (Below.refl _ _) m)
                      have HOm := Lib.hid hOm
                      have HBm := Lib.hid (below_drewN HBQ.out m)
                      have hr7 : (rightTo bss pss left k r).length ≤ 70000 := by rw [rightTo_length]; omega
                      have HR7 := Lib.hid hr7
                      clear hOm hr7
                      go_wp2_with ((with_reducible refine gate_builtin (b := .append) (xs := #[.tmp 147, .tmp 149]) rfl ?_); at_builtin; refine app_own (w0 := wk) wk.heap.size rfl (.tmp 147) (.tmp 149) rfl _ (rightTo bss pss left k r) g rfl rfl HOm.out HBm.out HBm.out.size HR7.out ?_; intro v1 w3 hO1 hB1 hg1 hat1)
                      rw [← HRT.out] at hO1
                      exact ⟨⟨r + 1, by go_num, by omega, Lib.hid hO1, Lib.hid hB1⟩, by simp [intOf]; omega⟩
                · obtain rfl : r = lost.length := by omega
                  have HXSk := HXS.out k hkL
                  have HVR := Lib.hid ((HMR.out.below (HBP.out.trans (HBQ.out.mono HBP.out.size))).outs.V (by omega))
                  have HVX := Lib.hid (Kd.V_mono HO.out.V (fun _ _ => trivial) : Vb wr (fun _ => True) _ _)
                  have HRL := Lib.hid (rightTo_length bss pss left k lost.length)
                  obtain ⟨Ax, ax, hvx, _, _⟩ := V_open HO.out.V
                  rw [HRL.out] at hvx
                  subst hvx
                  have HSV := Lib.hid (refsolve_any lost.length (rowsG lost left lost.length) (rightTo bss pss left k lost.length) _ _ wr (by unfold rowsG; rw [List.length_map, List.length_take]; omega) (by omega) (fun q hq => by rw [rowsG_getD _ _ _ _ hkk hq]; unfold rowG; rw [List.length_map]) HRL.out HINJ.out HVR.out HVX.out)
                  have HXK := Lib.hid HXSk
                  clear HXSk HVR HVX
                  have HZB := Lib.hid (fun (ys : List G) (hs : Sol lost.length (at2 (rowsG lost left lost.length)) (fun r => (rightTo bss pss left k lost.length).getD r 0) (fun c => ys.getD c 0)) => (sol_unique HINJ.out hs (fun r hr => (HXK.out r hr).trans (by rw [rightTo_getD _ _ _ _ _ _ hr]; show at2 (blksG bss pss left lost.length) r k = _; unfold at2; rw [blksG_getD _ _ _ _ _ hkk hr]))))
                  go_wp2_with (go_at_call 57; refine HSV.out.mono ?_; rintro e W2 ⟨us, ys, rfl, hOs, hyl, hSol, hB2⟩; obtain ⟨As, as_, hus, _, _⟩ := V_open hOs.V; rw [hyl] at hus; subst hus; have HOS := Lib.hid hOs; have HYL := Lib.hid hyl; have HSO := Lib.hid (HZB.out ys hSol); have HBS := Lib.hid (HBQ.out.trans (hB2.mono HBQ.out.size)); have HLW := Lib.hid HBQ.out.size; clear hOs hyl hSol hB2)
                  obtain ⟨gs, csx, he, hgsB, hgsW⟩ := HOS.out.form (by rw [HYL.out]; omega)
                  rw [HYL.out] at he
                  injection he with he1 _ he2
                  subst he1 he2
                  obtain ⟨g, cfx, he, hgB, hgW⟩ := HF.out.form hK0
                  injection he with he1 _ he2
                  subst he1 he2
                  have HAP0 := Lib.hid (fun c (_ : 0 ≤ c) (hc : c < lost.length) => (Ap2_fresh (m := wk.heap.size) (fun q hq => by have := (World.ownsRow.lt HOS.out q hq).1; have := HLW.out; omega) (fun q hq => ((HF.out.row c hc).lt q hq).2) : Ap2 (.slice (some ⟨gs, 0, none⟩) lost.length as_) (vat fs c)))
                  have HF2 := Lib.hid (HF.out.below HBS.out)
                  have HBP2 := Lib.hid (HBP.out.trans (HBS.out.mono HBP.out.size))
                  have HOS2 := Lib.hid (own_less HOS.out (Nat.zero_le _) : OwnB W2 0 (.slice (some ⟨gs, 0, none⟩) lost.length as_) ys)
                  have hgsne : some gs ≠ some g := by
                    rcases own_type_ne HF2.out.own HOS2.out (by decide) with h | h
                    · cases h
                    · exact fun e => h e.symm
                  have HGS := Lib.hid hgsne
                  clear hgsne HXK HRL HSV HZB HO HOS HLW
                  go_wp2_with fail
                  go_loopw [26] (fun q wq => ∃ (r : Nat) (hs : List Value), q = .int .i64 r ∧ r ≤ lost.length ∧ Hid (Mat wq wp.heap.size lost.length (.slice (some ⟨g, 0, none⟩) lost.length cf) hs (foundMid X (sizeAt xs lost) lost.length k r)) ∧ Hid (OwnB wq 0 (.slice (some ⟨gs, 0, none⟩) lost.length as_) ys) ∧ Hid (∀ c, r ≤ c → c < lost.length → Ap2 (.slice (some ⟨gs, 0, none⟩) lost.length as_) (vat hs c)) ∧ Hid (∀ c, c < r → sizeAt xs lost c ≤ k → (X.getD c []).getD k 0 = 0) ∧ Hid (Below wp.heap.size wp wq)) (fun q _ => lost.length - (intOf q).toNat)
                  case atStart => exact ⟨0, fs, rfl, Nat.zero_le _, Lib.hid (by rw [foundMid_zero]; exact HF2.out), HOS2, HAP0, Lib.hid (fun c hc => absurd hc (Nat.not_lt_zero _)), HBP2⟩
                  case round =>
                    clear HF2 HOS2 HAP0 HBP2
                    obtain ⟨r, hs, rfl, hr, HM, HOS, HAP, HZR, HBR⟩ := hrel
                    have hBq := HB1R.out.trans (HBR.out.mono HB1R.out.size)
                    by_cases hrK : r < lost.length
                    · obtain ⟨ad, rfl, hcell, _⟩ := idx_cell (Kd.V_below HLO.out hBq) r hrK
                      have hi16 := HL16.out r hrK
                      obtain ⟨bd, rfl, hcell2, _⟩ := Vi_cell (Kd.V_below HS.out hBq) (lost.getD r 0) (by rw [HXL.out]; exact hi16)
                      have hsz := (HSZ2.out r hrK).1
                      have hszL := (HSZ2.out r hrK).2
                      rw [hsz] at hcell2
                      have hix : lost.getD r 0 < xs.length := by rw [HXL.out]; exact hi16
                      have HSZR := Lib.hid (rfl : sizeAt xs lost r = sizeAt xs lost r)
                      obtain ⟨hcs, _⟩ := HOS.out.at_ r (by rw [HYL.out]; exact hrK)
                      have hys := HSO.out r hrK
                      rw [hys] at hcs
                      have hxe : at2 X r k = (X.getD r []).getD k 0 := rfl
                      rw [hxe] at hcs
                      have HHIT := Lib.hid (fun (h : k < sizeAt xs lost r) => foundMid_hit X (sizeAt xs lost) lost.length k r hrK h (by rw [HXW.out r hrK]; exact hkL))
                      have HMISS := Lib.hid (fun (h : sizeAt xs lost r ≤ k) => foundMid_miss X (sizeAt xs lost) lost.length k r hrK h)
                      have HRZ := Lib.hid (fun (hz : (X.getD r []).getD k 0 = 0) => (fun c (hc : c < r + 1) (hs : sizeAt xs lost c ≤ k) => (by
                        by_cases e : c = r
                        · subst e; exact hz
                        · exact HZR.out c (by omega) hs) : ∀ c, c < r + 1 → sizeAt xs lost c ≤ k → (X.getD c []).getD k 0 = 0))
                      have HTB := Lib.hid (fun (h : sizeAt xs lost r ≤ k) (hz : (X.getD r []).getD k 0 ≠ 0) => (tail_bad (bss := bss) (xs := xs) (X := X) (c := r) (k := k) (by rw [← HL.out]; exact hrK) (by rw [← HL.out]; exact h) (by rw [HXW.out r hrK]; exact hkL) hz))
                      have HRZ2 := Lib.hid (fun (h : k < sizeAt xs lost r) => (fun c (hc : c < r + 1) (hs : sizeAt xs lost c ≤ k) => (by
                        by_cases e : c = r
                        · subst e; omega
                        · exact HZR.out c (by omega) hs) : ∀ c, c < r + 1 → sizeAt xs lost c ≤ k → (X.getD c []).getD k 0 = 0))
                      have HBQ2 := Lib.hid hBq
                      clear hsz hys hxe HSZR hBq hi16
                      generalize (X.getD r []).getD k 0 = x at *
                      generalize lost.getD r 0 = i at *
                      by_cases hks : k < sizeAt xs lost r
                      · have hksi : (k : Int) < (sizeAt xs lost r : Int) := by omega
                        have hst := HHIT.out hks
                        have HRZ3 := Lib.hid (HRZ2.out hks)
                        have hrow := HM.out.row r hrK
                        obtain ⟨Ar, ar, hvr, _, _⟩ := V_open hrow.V
                        obtain ⟨hcf, hff⟩ := HM.out.cell r hrK
                        rw [hvr] at hcf hrow
                        have hyl : (rat (foundMid X (sizeAt xs lost) lost.length k r) r).length ≤ 65536 := by
                          unfold rat
                          rw [foundMid_getD _ _ _ _ _ _ hrK, List.length_take]
                          omega
                        have hap := HAP.out r (Nat.le_refl r) hrK
                        rw [hvr] at hap
                        have hou := HM.out.outer (HM.out.row r hrK)
                        rw [hvr] at hou
                        have HVR := Lib.hid hvr
                        have HROW := Lib.hid hrow
                        have HST := Lib.hid hst
                        have HFM := Lib.hid HM.out
                        clear hvr hrow hst HHIT HMISS HRZ HTB HRZ2
                        generalize sizeAt xs lost r = sz at *
                        generalize foundMid X (sizeAt xs lost) lost.length k r = F at *
                        generalize rat F r = y at *
                        have hyl7 : y.length + 1 ≤ 140000 := by omega
                        have HL7 := Lib.hid hyl7
                        have HYL2 := Lib.hid hyl
                        clear hyl hyl7
                        have HOA := Lib.hid (HROW.out.below (below_alloc (Below.refl wr.heap.size wr) (.cells #[.int .u8 (toI x)] 5)))
                        have HXA := Lib.hid (byte1_new wr x (.slice Ar y.length ar) HROW.out)
                        have HBA := Lib.hid (below_drew (below_alloc HBR.out (.cells #[.int .u8 (toI x)] 5)))
                        have HMA := Lib.hid (HFM.out.below (below_drew (below_alloc (Below.refl wr.heap.size wr) (.cells #[.int .u8 (toI x)] 5))))
                        have HOSA := Lib.hid (HOS.out.below (below_drew (below_alloc (Below.refl wr.heap.size wr) (.cells #[.int .u8 (toI x)] 5))))
                        have hne1 : some g ≠ (Value.slice Ar y.length ar).ownBlock := by
                          rcases hou with h | h
                          · cases h
                          · exact h
                        have hne2 : some gs ≠ (Value.slice Ar y.length ar).ownBlock := by
                          rcases hap with h | h
                          · cases h
                          · exact h
                        have HNE := Lib.hid (And.intro hne1 hne2)
                        clear hne1 hne2 hap hou
                        generalize hyy : y.length = n1 at *
                        have HYE := Lib.hid hyy
                        clear hyy
                        have HL8 : Hid (y.length + 1 ≤ 140000) := Lib.hid (by rw [HYE.out]; exact HL7.out)
                        go_wp2_with fail
                        refine start_ (n := 14) (S := fun w' => w'.cell? ⟨g, r, none⟩ = some (.slice Ar n1 ar) ∧ w'.cell? ⟨gs, r, none⟩ = some (.int .u8 (toI x))) (ds := [13]) #[false, false, false, false, false, false, false, false, false, false, false, false, false, false] (by kernel_rfl) rfl rfl ⟨hcf, hcs⟩ (fun hHeld => ?_)
                        refine pure_ (i := 0) (N := some 169) (v := ?_) (a' := ?_) #[true, false, false, false, false, false, false, false, false, false, false, false, false, false] rfl rfl (by kernel_rfl) (fun _ _ _ h => h) (Or.inl ⟨by rfl, ?_⟩) ?_ ?_
                        rotate_left
                        · intro w'
                          go_simp
                          with_reducible rfl
                        rotate_left
                        · simp only [Act.put, List.setIfInBounds_toArray, List.set_cons_zero, List.set_cons_succ, i64_w, i32_w]
                          rfl
                        refine pure_ (i := 1) (N := some 170) (v := ?_) (a' := ?_) #[true, true, false, false, false, false, false, false, false, false, false, false, false, false] rfl rfl (by kernel_rfl) (fun _ _ _ h => h) (Or.inl ⟨by rfl, ?_⟩) ?_ ?_
                        rotate_left
                        · intro w'
                          go_simp
                          with_reducible rfl
                        rotate_left
                        · simp only [Act.put, List.setIfInBounds_toArray, List.set_cons_zero, List.set_cons_succ, i64_w, i32_w]
                          rfl
                        refine pure_ (i := 2) (N := some 171) (v := ?_) (a' := ?_) #[true, true, true, false, false, false, false, false, false, false, false, false, false, false] rfl rfl (by kernel_rfl) (fun _ _ _ h => h) (Or.inl ⟨by rfl, ?_⟩) ?_ ?_
                        rotate_left
                        · intro w'
                          go_simp
                          with_reducible rfl
                        rotate_left
                        · simp only [Act.put, List.setIfInBounds_toArray, List.set_cons_zero, List.set_cons_succ, i64_w, i32_w]
                          rfl
                        refine pure_ (i := 3) (N := some 172) (v := ?_) (a' := ?_) #[true, true, true, true, false, false, false, false, false, false, false, false, false, false] rfl rfl (by kernel_rfl) (fun _ _ _ h => h) (Or.inl ⟨by rfl, ?_⟩) ?_ ?_
                        rotate_left
                        · intro w'
                          go_simp
                          with_reducible rfl
                        rotate_left
                        · simp only [Act.put, List.setIfInBounds_toArray, List.set_cons_zero, List.set_cons_succ, i64_w, i32_w]
                          rfl
                        refine pure_ (i := 4) (N := some 173) (v := ?_) (a' := ?_) #[true, true, true, true, true, false, false, false, false, false, false, false, false, false] rfl rfl (by kernel_rfl) (fun _ _ _ h => h) (Or.inl ⟨by rfl, ?_⟩) ?_ ?_
                        rotate_left
                        · intro w'
                          go_simp
                          with_reducible rfl
                        rotate_left
                        · simp only [Act.put, List.setIfInBounds_toArray, List.set_cons_zero, List.set_cons_succ, i64_w, i32_w]
                          rfl
                        refine pure_ (i := 6) (N := some 175) (v := ?_) (a' := ?_) #[true, true, true, true, true, false, true, false, false, false, false, false, false, false] rfl rfl (by kernel_rfl) (fun _ _ _ h => h) (Or.inl ⟨by rfl, ?_⟩) ?_ ?_
                        rotate_left
                        · intro w'
                          go_simp
                          with_reducible rfl
                        rotate_left
                        · simp only [Act.put, List.setIfInBounds_toArray, List.set_cons_zero, List.set_cons_succ, i64_w, i32_w]
                          rfl
                        refine pure_ (i := 7) (N := some 176) (v := ?_) (a' := ?_) #[true, true, true, true, true, false, true, true, false, false, false, false, false, false] rfl rfl (by kernel_rfl) (fun _ _ _ h => h) (Or.inl ⟨by rfl, ?_⟩) ?_ ?_
                        rotate_left
                        · intro w'
                          go_simp
                          with_reducible rfl
                        rotate_left
                        · simp only [Act.put, List.setIfInBounds_toArray, List.set_cons_zero, List.set_cons_succ, i64_w, i32_w]
                          rfl
                        refine pure_ (i := 8) (N := some 177) (v := ?_) (a' := ?_) #[true, true, true, true, true, false, true, true, true, false, false, false, false, false] rfl rfl (by kernel_rfl) (fun _ _ _ h => h) (Or.inl ⟨by rfl, ?_⟩) ?_ ?_
                        rotate_left
                        · intro w'
                          go_simp
                          with_reducible rfl
                        rotate_left
                        · simp only [Act.put, List.setIfInBounds_toArray, List.set_cons_zero, List.set_cons_succ, i64_w, i32_w]
                          rfl
                        refine take_ (i := 5) (N := some 174) (v := ?_) (a' := ?_) #[true, true, true, true, true, true, true, true, true, false, false, false, false, false] rfl rfl (by kernel_rfl) (fun _ _ _ h => h) (Or.inl ⟨by rfl, ?_⟩) hHeld ?_ ?_
                        rotate_left
                        · rintro w' ⟨s0, s1⟩
                          go_simp
                          with_reducible rfl
                        rotate_left
                        · simp only [Act.put, List.setIfInBounds_toArray, List.set_cons_zero, List.set_cons_succ, i64_w, i32_w]
                          rfl
                        refine take_ (i := 9) (N := some 178) (v := ?_) (a' := ?_) #[true, true, true, true, true, true, true, true, true, true, false, false, false, false] rfl rfl (by kernel_rfl) (fun _ _ _ h => h) (Or.inl ⟨by rfl, ?_⟩) hHeld ?_ ?_
                        rotate_left
                        · rintro w' ⟨s0, s1⟩
                          go_simp
                          with_reducible rfl
                        rotate_left
                        · simp only [Act.put, List.setIfInBounds_toArray, List.set_cons_zero, List.set_cons_succ, i64_w, i32_w]
                          rfl
                        refine one_ (i := 10) (N := some 179) #[true, true, true, true, true, true, true, true, true, true, true, false, false, false] rfl rfl (by kernel_rfl) (by decide) (fun K hK => ?_)
                        refine value_ (w1 := ?_) (v := ?_) (by rfl) rfl ?_ ?_
                        rotate_left 2
                        · go_simp
                          constructor
                          · rfl
                          · rfl
                        refine hK.out _ _ ⟨(pw_cell_below (below_alloc (Below.refl _ _) _) hHeld.1), (pw_cell_below (below_alloc (Below.refl _ _) _) hHeld.2)⟩ (fun hHeld => ?_)
                        clear hK K
                        refine norm_ (a' := ?_) ?_ ?_
                        rotate_left
                        · show Act.put _ (some 179) _ = _
                          simp only [Act.put, List.setIfInBounds_toArray, List.set_cons_zero, List.set_cons_succ, i64_w, i32_w]
                          rfl
                        refine one_ (i := 11) (N := some 180) #[true, true, true, true, true, true, true, true, true, true, true, true, false, false] rfl rfl (by kernel_rfl) (by decide) (fun K hK => ?_)
                        refine app_rows_step (w0 := wp) wp.heap.size (by rfl) (.tmp 174) (.tmp 179) (by rfl) (.slice Ar n1 ar) y [x] (some ⟨wr.heap.size, 0, none⟩) 1 1 (by rfl) (by rfl) HOA.out HXA.out HBA.out HBA.out.size HL8.out ?_
                        intro v4 w4 hO4 hB4 hg4 hat4
                        obtain ⟨A4, a4, hv4, _, _⟩ := V_open hO4.V
                        obtain ⟨n4, hn4⟩ : ∃ n4, (y ++ [x]).length = n4 := ⟨_, rfl⟩
                        rw [hn4] at hv4
                        subst hv4
                        clear hn4
                        have HO4 : Hid (OwnB w4 wp.heap.size (.slice A4 n4 a4) (y ++ [x])) := Lib.hid hO4
                        have HB4 := Lib.hid hB4
                        have HG4 := Lib.hid hg4
                        have HAT4 := Lib.hid hat4
                        have hf4 : w4.frozen? ⟨g, r, none⟩ = false := (World.ownsRow.kept HMA.out.own hg4 (.inr HNE.out.1)).frozenAt r
                        have hh1 := hg4.cell hHeld.1 HNE.out.1
                        have hh2 := hg4.cell hHeld.2 HNE.out.2
                        clear hO4 hB4 hg4 hat4
                        refine hK.out _ _ ⟨hh1, hh2⟩ (fun hHeld => ?_)
                        clear hK K
                        refine norm_ (a' := ?_) ?_ ?_
                        rotate_left
                        · show Act.put _ (some 180) _ = _
                          simp only [Act.put, List.setIfInBounds_toArray, List.set_cons_zero, List.set_cons_succ, i64_w, i32_w]
                          rfl
                        refine pure_ (i := 12) (N := some 181) (v := ?_) (a' := ?_) #[true, true, true, true, true, true, true, true, true, true, true, true, true, false] rfl rfl (by kernel_rfl) (fun _ _ _ h => h) (Or.inl ⟨by rfl, ?_⟩) ?_ ?_
                        rotate_left
                        · intro w'
                          go_simp
                          with_reducible rfl
                        rotate_left
                        · simp only [Act.put, List.setIfInBounds_toArray, List.set_cons_zero, List.set_cons_succ, i64_w, i32_w]
                          rfl
                        refine last_ (i := 13) (N := none) #[true, true, true, true, true, true, true, true, true, true, true, true, true, true] rfl rfl (by kernel_rfl) (by decide) (fun K hK => ?_)
                        refine skip_ (w1 := ?_) (by rfl) rfl ?_ ?_
                        rotate_left
                        · go_simp
                          rfl
                        refine hK.out _ _ ?_
                        clear hK K
                        refine done_ (by kernel_rfl) ?_
                        go_wp2_with fail
                        have hrep := HMA.out.replace hrK (by rw [HVR.out]; exact HG4.out) HO4.out (by rw [HVR.out]; exact HAT4.out)
                        have hB5 := HB4.out.trans (below_row hrep.2 HB4.out.size (fun q hq => by injection hq with hq; omega))
                        have hO5 := (HOSA.out.grown HG4.out (.inr HNE.out.2)).grown hrep.2 (.inr HGS.out)
                        have hA5 : ∀ c, r + 1 ≤ c → c < lost.length → Ap2 (.slice (some ⟨gs, 0, none⟩) lost.length as_) (vat (hs.set r (.slice A4 n4 a4)) c) := fun c hc hcK => by
                          rw [vat_set _ _ _ _ (by rw [HFM.out.lv]; exact hrK), if_neg (by omega)]
                          exact HAP.out c (by omega) hcK
                        have hM5 := hrep.1
                        rw [HST.out] at hM5
                        exact ⟨⟨r + 1, hs.set r (.slice A4 n4 a4), by go_num, by omega, Lib.hid hM5, Lib.hid hO5, Lib.hid hA5, HRZ3, Lib.hid hB5⟩, by simp [intOf]; omega⟩
                      · have hksi : ¬ (k : Int) < (sizeAt xs lost r : Int) := by omega
                        have hsk : sizeAt xs lost r ≤ k := by omega
                        have hmi := HMISS.out hsk
                        have HTB1 := Lib.hid (HTB.out hsk)
                        clear hks HHIT HMISS HTB HRZ2
                        have HMI := Lib.hid hmi
                        clear hmi
                        generalize sizeAt xs lost r = sz at *
                        by_cases hz : x = 0
                        · have hbz : (toI x != 0) = false := by rw [bne_eq_false_iff_eq, toI_eq_zero]; exact hz
                          have HRZ3 := Lib.hid (HRZ.out hz)
                          clear hz HRZ
                          go_wp2_with fail
                          exact ⟨⟨r + 1, hs, by go_num, by omega, Lib.hid (by rw [HMI.out]; exact HM.out), HOS, Lib.hid (fun c hc hcK => HAP.out c (by omega) hcK), HRZ3, HBR⟩, by simp [intOf]; omega⟩
                        · have hbz : (toI x != 0) = true := by rw [bne_iff_ne, Ne, toI_eq_zero]; exact hz
                          have HTB2 := Lib.hid (HTB1.out hz)
                          clear hz HRZ HTB1
                          go_wp2_with fail
                          go_ret3
                          exact RefPost.sum HE.out (.inl HTB2.out) (HB1.out.trans (HBQ2.out.mono HB1.out.size))
                    · obtain rfl : r = lost.length := by omega
                      go_wp2_with fail
                      exact ⟨⟨k + 1, hs, by go_num, by omega, Lib.hid (by rw [← foundMid_end]; exact HM.out), Lib.hid (fun q hq c hc hs => by
                        by_cases e : q = k
                        · subst e; exact HZR.out c hc hs
                        · exact HZ.out q (by omega) c hc hs), HBR⟩, by simp [intOf]; omega⟩
            · have hTB : ¬ TailBad bss xs X := by
                by_cases hkL : k < L
                · have hK0 : lost.length = 0 := by omega
                  rintro ⟨c, hc, _⟩
                  rw [← HL.out] at hc
                  omega
                · refine tail_good (L := L) (fun c hc => HXW.out c (by rw [HL.out]; exact hc)) (fun q hq c hc hs => ?_)
                  rw [← HL.out] at hc hs
                  exact HZ.out q (by omega) c hc hs
              have hFIN : ∀ c, c < lost.length → (foundTo X (sizeAt xs lost) lost.length k).getD c [] = (X.getD c []).take (sizeAt xs lost c) := fun c hc => by
                rw [foundTo_getD _ _ _ _ _ hc]
                by_cases hkL : k < L
                · omega
                · have h1 := (HSZ2.out c hc).2
                  rw [Nat.min_eq_right (by omega)]
              have HTB := Lib.hid hTB
              have HFIN := Lib.hid hFIN
              have HFL := Lib.hid (foundTo_length X (sizeAt xs lost) lost.length k)
              obtain ⟨us0, hO0⟩ := Outs.ofN (Kd.N_below HN3.out HBP.out)
              have HO0 := Lib.hid hO0
              have HGO : Hid (∀ q, (Value.slice Ao bss.length co).ownBlock = some q → w1.heap.size ≤ q ∧ q < wp.heap.size) := Lib.hid (fun q hq => ⟨Kd.N_base HN3.out q hq, Kd.N_lt HN3.out q hq⟩)
              have HB14 := Lib.hid (HB1R.out.trans (HBP.out.mono HB1R.out.size))
              have hw1p := HB1R.out.size
              clear hTB hFIN hO0 HZ HN3
              generalize foundTo X (sizeAt xs lost) lost.length k = F at *
              by_cases hkL : k < L
              all_goals
                first
                  | have hkLi : (k : Int) < (L : Int) := by omega
                  | have hkLi : ¬ (k : Int) < (L : Int) := by omega
                have hK0i : ¬ ((k : Int) < (L : Int) ∧ (0 : Int) < (lost.length : Int)) := by omega
                have hK0b : (k : Int) < (L : Int) → ¬ (0 : Int) < (lost.length : Int) := by omega
                clear hgo hkL
                go_wp2_with fail
                go_loopw [27] (fun q wq => ∃ (r : Nat) (us : List Value), q = .int .i64 r ∧ r ≤ lost.length ∧ Hid (Outs wq w1.heap.size bss.length (.slice Ao bss.length co) us (outTo bss xs X lost r)) ∧ Hid (Mat wq wp.heap.size lost.length (.slice Af lost.length cf) fs F) ∧ Hid (Below w1.heap.size w1 wq)) (fun q _ => lost.length - (intOf q).toNat)
                case atStart => exact ⟨0, us0, rfl, Nat.zero_le _, HO0, HF, HB14⟩
                case round =>
                  clear HO0 HF HB14 HBP hkLi hK0i hK0b
                  obtain ⟨r, us, rfl, hr, HO, HM, HB⟩ := hrel
                  by_cases hrK : r < lost.length
                  · obtain ⟨ad, rfl, hcell, _⟩ := idx_cell (Kd.V_below HLO.out HB.out) r hrK
                    have hadw : (ad.add r).block < w1.heap.size := by
                      obtain ⟨ad2, he, hc, _⟩ := idx_cell HLO.out r hrK
                      injection he with he
                      subst he
                      have := World.block_lt_of_cell? w1 _ hc
                      exact this
                    have hi16 := HL16.out r hrK
                    have hib : (lost.getD r 0 : Int) < (bss.length : Int) := by omega
                    have hi0 : (0 : Int) ≤ (lost.getD r 0 : Int) := by omega
                    have hr0 : (0 : Int) ≤ (r : Int) := by omega
                    have hrl : (r : Int) < (lost.length : Int) := by omega
                    obtain ⟨g, cx, he, hgB, hgW⟩ := HO.out.form (by omega)
                    injection he with he1 _ he2
                    subst he1 he2
                    obtain ⟨gf, cfx, he, hgfB, hgfW⟩ := HM.out.form (by omega)
                    injection he with he1 _ he2
                    subst he1 he2
                    have hgp := (HGO.out g rfl).2
                    have hrow := HM.out.row r hrK
                    obtain ⟨A4, a4, hv4, _, _⟩ := V_open hrow.V
                    obtain ⟨hcf, _⟩ := HM.out.cell r hrK
                    rw [hv4] at hcf hrow
                    have hfin := HFIN.out r hrK
                    have hre : rat F r = F.getD r [] := rfl
                    rw [hre, hfin] at hcf hrow
                    have HII := Lib.hid (show outTo bss xs X lost (r + 1) = (outTo bss xs X lost r).set (lost.getD r 0) ((X.getD r []).take (sizeAt xs lost r)) from rfl)
                    generalize (X.getD r []).take (sizeAt xs lost r) = y at *
                    generalize lost.getD r 0 = i at *
                    obtain ⟨hcO, hfO⟩ := HO.out.cell i hi16
                    have hst := HO.out.drew.stored (i := i) (u := .slice A4 y.length a4) (x := y) hi16 (Kd.V_mono (Kd.V_drew hrow.V) (fun q hq he => by injection he with he; have := (hrow.lt q hq.symm).1; omega))
                    have hc1 : (wr.drew.setCell ⟨g, i, none⟩ (.slice A4 y.length a4)).cell? (ad.add r) = some (.int .i64 (i : Int)) := hst.2.cell hcell (by intro he; injection he with he; omega)
                    have hc2 : (wr.drew.setCell ⟨g, i, none⟩ (.slice A4 y.length a4)).cell? ⟨gf, r, none⟩ = some (.slice A4 y.length a4) := hst.2.cell hcf (by intro he; injection he with he; have he2 : gf = g := he; omega)
                    have HST := Lib.hid hst
                    clear hst hrow hv4 hfin hre
                    go_wp2_with fail
                    go_region_held3 (fun W => W.cell? (ad.add r) = some (.int .i64 (i : Int)) ∧ W.cell? ⟨gf, r, none⟩ = some (.slice A4 y.length a4)) (first | exact ⟨hcell, hcf⟩ | exact ⟨hc1, hc2⟩) (fail)
                    go_wp2_with fail
                    have hG := HST.out.2
                    refine ⟨⟨r + 1, us.set i (.slice A4 y.length a4), by go_num, by omega, Lib.hid (by rw [HII.out]; exact HST.out.1), Lib.hid (HM.out.drew.grown hG (.inr (fun he => ?_)) (fun q hq => .inr (fun he => ?_))), Lib.hid (HB.out.drew.trans (below_row hG HB.out.size (fun q hq => by injection hq with hq; omega)))⟩, by simp [intOf]; omega⟩
                    · injection he with he; have he2 : gf = g := he; omega
                    · have := HM.out.block hq g he; omega
                  · obtain rfl : r = lost.length := by omega
                    have hmk := outTo_make bss xs X lost L pss.length (fun i => HDL.out i) (fun c hc => Nat.le_of_eq (HXW.out c hc)) hlng2 h4 h16
                    have HY := Lib.hid (show outG bss xs X = outTo bss xs X lost lost.length by unfold outG; rw [← HL.out])
                    have hVY := HO.out.V (by omega)
                    have HVY := Lib.hid hVY
                    have HMK := Lib.hid (refmake_any (outTo bss xs X lost lost.length) pss.length _ wr hVY)
                    have HME := Lib.hid hmk
                    clear hmk hVY HO HM
                    generalize outTo bss xs X lost lost.length = Y at *
                    go_wp2_with (go_at_call 19; refine HMK.out.mono ?_; rintro e w5 ⟨vm, rfl, hvm, hB5⟩; have HVM := Lib.hid hvm; have HB5 := Lib.hid hB5; have hme := HME.out.1; rw [hme]; clear hvm hB5 hme)
                    have hvm := HVM.out
                    rw [HME.out.2] at hvm
                    obtain ⟨Am, am, hvme, _, _⟩ := V_open hvm
                    rw [makeG_length] at hvme
                    subst hvme
                    have HVM5 := Lib.hid hvm
                    have HVY5 := Lib.hid (Kd.V_below HVY.out HB5.out)
                    have HB15 := Lib.hid (HB.out.trans (HB5.out.mono HB.out.size))
                    clear hvm HVM HVY HMK HME HB HB5
                    go_wp2_with fail
                    go_loopw [30] (fun i wq => ∃ c m0 : Nat, i = .int .i64 c ∧ c ≤ left.length ∧ wq = w5.drewN m0 ∧ Hid (∀ q, q < c → (makeG Y pss.length).getD (left.getD q 0) [] = pss.getD (left.getD q 0) [])) (fun i _ => left.length - (intOf i).toNat)
                    case atStart => exact ⟨0, 0, rfl, Nat.zero_le _, rfl, Lib.hid (fun q hq => absurd hq (Nat.not_lt_zero _))⟩
                    case round =>
                      obtain ⟨c, m0, rfl, hc, rfl, HEQ⟩ := hrel
                      have hBN : Below w1.heap.size w1 (w5.drewN m0) := below_drewN HB15.out m0
                      by_cases hlt5 : c < left.length
                      · have hj4 := HL4.out c hlt5
                        have hjp : (left.getD c 0 : Int) < (pss.length : Int) := by omega
                        have hj0 : (0 : Int) ≤ (left.getD c 0 : Int) := by omega
                        obtain ⟨ad, rfl, hcell, _⟩ := idx_cell (Kd.V_below HLE.out HB15.out) c hlt5
                        obtain ⟨ad2, A2, c2, rfl, hcell2, HV2, _⟩ := Vbb_row (Kd.V_below HQ.out HB15.out) (left.getD c 0) hj4
                        obtain ⟨ad3, A3, c3, rfl, hcell3, HV3, _⟩ := Vbb_row HVM5.out (left.getD c 0) (by rw [makeG_length]; exact hj4)
                        have hs1 := V_string HV3
                        have hs2 := V_string HV2
                        have HI := Lib.hid (strG_inj ((makeG Y pss.length).getD (left.getD c 0) []) (pss.getD (left.getD c 0) []))
                        have HBN := Lib.hid hBN
                        have hc0 : (0 : Int) ≤ (c : Int) := by omega
                        have hcl : (c : Int) < (left.length : Int) := by omega
                        generalize hg1 : (makeG Y pss.length).getD (left.getD c 0) [] = g1 at *
                        generalize hg2 : pss.getD (left.getD c 0) [] = g2 at *
                        have HG1 := Lib.hid hg1
                        have HG2 := Lib.hid hg2
                        clear HV2 HV3 hBN hg1 hg2
                        generalize hjj : left.getD c 0 = j at *
                        have HJJ := Lib.hid hjj
                        clear hjj
                        by_cases hgg : g1 = g2
                        · have hb1 : ((strG g1).toList == (strG g2).toList) = true := by rw [beq_iff_eq]; exact HI.out.2 hgg
                          have hb2 : ((strG g1).toList != (strG g2).toList) = false := by rw [bne_eq_false_iff_eq]; exact HI.out.2 hgg
                          have HGG := Lib.hid hgg
                          clear hgg
                          go_wp2_with fail
                          go_quiet (fail)
                          go_wp2_with fail
                          refine ⟨⟨c + 1, m0 + nq, by go_num, by omega, rfl, Lib.hid (fun q hq => ?_)⟩, by simp [intOf]; omega⟩
                          by_cases e : q = c
                          · subst e; rw [HJJ.out, HG1.out, HG2.out, HGG.out]
                          · exact HEQ.out q (by omega)
                        · have hb1 : ((strG g1).toList == (strG g2).toList) = false := by rw [beq_eq_false_iff_ne]; exact fun h => hgg (HI.out.1 h)
                          have hb2 : ((strG g1).toList != (strG g2).toList) = true := by rw [bne_iff_ne]; exact fun h => hgg (HI.out.1 h)
                          have HGG := Lib.hid hgg
                          clear hgg
                          go_wp2_with fail
                          go_quiet (fail)
                          go_wp2_with fail
                          go_ret3
                          refine RefPost.sum HE.out (.inr ⟨c, by rw [← HLF.out]; exact hlt5, ?_⟩) (HB1.out.trans ((below_drewN HBN.out _).mono HB1.out.size))
                          rw [← HLF.out, HY.out, HJJ.out, HG1.out, HG2.out]
                          exact HGG.out
                      · obtain rfl : c = left.length := by omega
                        go_wp2_with fail
                        go_ret3
                        have hSB : ¬ SumBad bss pss xs X := by
                          rintro ⟨c, hc, hb⟩
                          rw [← HLF.out] at hc hb
                          rw [HY.out] at hb
                          exact hb (HEQ.out c hc)
                        refine ⟨HB1.out.trans (hBN.mono HB1.out.size), fun h => absurd HE.out h, fun _ => ⟨fun hb => hb.elim (fun h => absurd h HTB.out) (fun h => absurd h hSB), fun _ => ⟨.slice Ao bss.length co, .slice Am pss.length am, rfl, ?_, ?_⟩⟩⟩
                        · rw [HY.out]; exact Kd.V_drewN HVY5.out m0
                        · rw [HY.out]; exact Kd.V_drewN HVM5.out m0
end Go.Proofs.Ytiggohkkokalcaa
