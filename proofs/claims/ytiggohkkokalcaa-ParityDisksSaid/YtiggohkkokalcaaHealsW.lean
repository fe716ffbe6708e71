/- The walk of the law ParityHeals. -/
import Derived.Test.YtiggohkkokalcaaHealAll
import Derived.Test.YtiggohkkokalcaaU64All
import Derived.Test.YtiggohkkokalcaaRepAns
import Derived.Test.YtiggohkkokalcaaSame
import Derived.Test.YtiggohkkokalcaaLives
import Derived.Test.YtiggohkkokalcaaRefMake
import Derived.Deep.RegionHeld3
import Derived.Deep.QuietTactic
import Derived.BigQuiet
import Derived.Deep.CutBlock
import Derived.Deep.DeepCutAuto
namespace Go.Proofs.Ytiggohkkokalcaa
open Go.RowKit Go.Proofs.YtiggohkkokalcaaW.PrintWords Go.Proofs.YtiggohkkokalcaaW.PrintMore
set_option linter.unusedVariables false
set_option linter.unusedSimpArgs false

theorem byte_wrap (n : Int) : IntKind.u8.wrap n = toI (BitVec.ofInt 8 n) := by
  rw [IntKind.wrap_u8]
  simp only [toI, BitVec.toNat_ofInt]
  omega
theorem small_getD {data : List (List G)} (h : ∀ b ∈ data, b.length ≤ 12) (k : Nat) : (data.getD k []).length ≤ 12 := by
  by_cases hk : k < data.length
  · rw [List.getD_eq_getElem?_getD, List.getElem?_eq_getElem hk]
    exact h _ (List.getElem_mem hk)
  · rw [getD_over [] _ _ (by omega)]; exact Nat.zero_le _
theorem par_getD {data : List (List G)} {f : Nat} (h : ∀ b ∈ data, b.length ≤ 12) (j : Nat) : ((makeG data f).getD j []).length ≤ 12 := by
  by_cases hj : j < f
  · rw [makeG_getD _ _ _ hj, parG_length]
    exact longTo_le data 12 (fun i hi => small_getD h i) _ (Nat.le_refl _)
  · rw [getD_over [] _ _ (by rw [makeG_length]; omega)]; exact Nat.zero_le _

theorem heal_at {data ds ps : List (List G)} {f : Nat} (S : HScene data f ds ps) {Ad Ap Ai Ah : Option Addr} {cd cp ci ch n1 n2 n3 n4 : Nat} {w : World} (e1 : ds.length = n1) (e2 : ps.length = n2) (e3 : (sizesG data).length = n3) (e4 : (hashesG data (makeG data f)).length = n4)
    (HD : Vbb w (fun _ => True) (.slice Ad n1 cd) ds) (HP : Vbb w (fun _ => True) (.slice Ap n2 cp) ps) (HI : Vi w (fun _ => True) (.slice Ai n3 ci) (sizesG data)) (HH : Vu w (fun _ => True) (.slice Ah n4 ch) (hashesG data (makeG data f))) :
    Calls Try.prog 31 #[.slice Ad n1 cd, .slice Ap n2 cp, .slice Ai n3 ci, .slice Ah n4 ch] w fun e w' => HealPost data f (badG data f ds ps) w e w' := by
  subst e1 e2 e3 e4
  exact heal_any data ds ps f S Ad Ap Ai Ah cd cp ci ch w HD HP HI HH
theorem ne_bool (y z : List G) : decide (y ≠ z) = !decide (y = z) := by rw [← decide_not]

set_option maxRecDepth 100000 in
set_option maxHeartbeats 8000000 in
theorem heals_walk (xs ms ys : List Int) (v vm v' : Value) (n : Int) (w : World) (HV : Vi w (fun _ => True) v xs) (HM : Vi w (fun _ => True) vm ms) (HW : Vi w (fun _ => True) v' ys) :
    Calls Try.prog 9 #[v, vm, v', .int .i64 n] w fun e w' => e = .returned (.bool true) ∧ Below w.heap.size w w' := by
  obtain ⟨A, c, rfl, hc, hm⟩ := V_open HV
  obtain ⟨Am, cm, rfl, hcm, hmm⟩ := V_open HM
  obtain ⟨A', c', rfl, hc', hm'⟩ := V_open HW
  have HHV := Lib.hid HV
  have HHM := Lib.hid HM
  have HHW := Lib.hid HW
  have hf4 := fewN_le n
  clear HV HM HW
  go_enter Try.func9, Try.ntmps9
  go_wp2_with fail
  refine (blocks_any xs _ w HHV.out).mono ?_
  rintro e w1 ⟨u, data, rfl, hD, hS, hB⟩
  obtain ⟨Ad, cd, rfl, hcd, _⟩ := V_open hD
  have HD := Lib.hid hD
  have HB := Lib.hid hB
  have hl7 := hS.1
  have H12 := Lib.hid hS.2
  have hlong : longG data ≤ 65536 := Nat.le_trans (longTo_le data 12 (fun i hi => hS.2 _ (by rw [List.getD_eq_getElem?_getD, List.getElem?_eq_getElem hi]; exact List.getElem_mem hi)) _ (Nat.le_refl _)) (by decide)
  have HLO := Lib.hid hlong
  have HME := Lib.hid (makeErr_ok data (fewN n) hf4 (by omega) hlong)
  have HMO := Lib.hid (makeOut_ok data (fewN n) HME.out)
  clear hD hB hS HHV hlong
  go_wp2_with fail
  refine (blocks_any ms _ w1 (Kd.V_below HHM.out HB.out)).mono ?_
  rintro e w2 ⟨u, other, rfl, hO, hS, hB2⟩
  obtain ⟨Ao, co, rfl, hco, _⟩ := V_open hO
  have HO := Lib.hid hO
  have HB2 := Lib.hid (HB.out.trans (hB2.mono HB.out.size))
  have HD2 := Lib.hid (Kd.V_below HD.out hB2)
  have hol7 := hS.1
  have HO12 := Lib.hid hS.2
  clear hO hB2 hS HHM HB HD
  go_wp2_with fail
  refine (few_any n _).mono ?_
  rintro e w' ⟨rfl, rfl⟩
  go_wp2_with fail
  refine (make_any data (fewN n) _ w2 HD2.out).mono ?_
  rintro e w3 ⟨vp, rfl, hP, hB3⟩
  have hme := HME.out
  rw [HMO.out] at hP
  rw [hme]
  obtain ⟨Ap, cp, hvp, hcp, _⟩ := V_open hP
  have HP0 := Lib.hid hP
  rw [makeG_length] at hvp hcp
  subst hvp
  have HP := Lib.hid hP
  have HB3 := Lib.hid (HB2.out.trans (hB3.mono HB2.out.size))
  have HD3 := Lib.hid (Kd.V_below HD2.out hB3)
  have HO3 := Lib.hid (Kd.V_below HO.out hB3)
  clear hP hB3 hme HD2 HO HB2
  have hfn : ((fewN n : Int) != (fewN n : Int)) = false := by rw [bne_eq_false_iff_eq]
  go_wp2_with fail
  refine (few_any n _).mono ?_
  rintro e w' ⟨rfl, rfl⟩
  have HGS : Hid (∀ b ∈ data ++ makeG data (fewN n), b.length ≤ 70000) := Lib.hid (fun b hb => by
    rw [List.mem_append] at hb
    rcases hb with hb | hb
    · exact Nat.le_trans (H12.out b hb) (by decide)
    · exact mem_small (fun j => Nat.le_trans (par_getD H12.out j) (by decide)) b hb)
  have HHC := Lib.hid (hashes_any data (makeG data (fewN n)) Ad Ap cd cp (by omega) (by rw [makeG_length]; omega) HGS.out w3 HD3.out (by rw [makeG_length]; exact HP.out))
  rw [makeG_length] at HHC
  go_wp2_with fail
  refine HHC.out.mono ?_
  rintro e w4 ⟨vh, rfl, hH, hB4⟩
  obtain ⟨Ah, ch, rfl, hch⟩ := hH.len
  have HH4 := Lib.hid hH
  have HB4 := Lib.hid hB4
  have HD4 := Lib.hid (Kd.V_below HD3.out hB4)
  clear hH hB4 HHC HP0 HGS HME HMO
  go_wp2_with fail
  refine (sizes_any data _ w4 HD4.out (by omega)).mono ?_
  rintro e w5 ⟨vs, rfl, hV5, hB5⟩
  obtain ⟨As, cs, hvs, _, _⟩ := V_open hV5.V
  rw [sizesG_length] at hvs
  subst hvs
  have HS5 := Lib.hid hV5
  have HB35 := Lib.hid (HB4.out.trans (hB5.mono HB4.out.size))
  have HH5 := Lib.hid (HH4.out.below hB5)
  clear hV5 hB5 HH4 HB4 HD4
  go_wp2_with fail
  have HB15 := Lib.hid (HB3.out.trans (HB35.out.mono HB3.out.size))
  refine (lostR_any ys _ ((data.length : Int) + (fewN n : Int)) 6 w5 (Kd.V_below HHW.out HB15.out) (by omega) (by omega)).mono ?_
  rintro e w6 ⟨ug, rfl, ⟨gone, hG, hK⟩, hB6⟩
  obtain ⟨Ag, cg, rfl, hcg, _⟩ := V_open hG.V
  have HB36 := Lib.hid (HB35.out.trans (hB6.mono HB35.out.size))
  have HG6 := Lib.hid (Kd.V_mono (Kd.V_bound hG.V) (fun k hk => ⟨trivial, hk.2⟩) : Vi w6 (fun k => True ∧ k < w6.heap.size) _ gone)
  have HD6 := Lib.hid (Kd.V_bound (Kd.V_below HD3.out HB36.out))
  have HP6 := Lib.hid (Kd.V_bound (Kd.V_below HP.out HB36.out))
  have HO6 := Lib.hid (Kd.V_bound (Kd.V_below HO3.out HB36.out))
  have HS6 := Lib.hid (Kd.V_bound (Kd.V_mono (HS5.out.below hB6).V (fun _ _ => trivial)) : Vi w6 (fun k => True ∧ k < w6.heap.size) _ _)
  have HH6 := Lib.hid (Kd.V_bound (Kd.V_mono (HH5.out.below hB6).V (fun _ _ => trivial)) : Vu w6 (fun k => True ∧ k < w6.heap.size) _ _)
  have HB06 := Lib.hid (HB3.out.trans (HB36.out.mono HB3.out.size))
  have HK := Lib.hid hK
  have hgl : gone.length ≤ 6 := by have := hK.few; omega
  clear hG hK hB6 HD3 HP HO3 HS5 HH5 HB35 HB15 HB36 HB3 HHW
  go_wp2_with fail
  have hD6 : Vbb w6 (fun k => k < w6.heap.size) (.slice Ad data.length cd) data := Kd.V_mono HD6.out (fun k hk => hk.2)
  have hP6 : Vbb w6 (fun k => k < w6.heap.size) (.slice Ap (fewN n) cp) (makeG data (fewN n)) := Kd.V_mono HP6.out (fun k hk => hk.2)
  have HD6c := Lib.hid hD6
  have HP6c := Lib.hid hP6
  clear hD6 hP6
  refine (withoutL_any data gone 0 _ _ w6 w6.heap.size HD6c.out (Nat.le_refl _) (Kd.V_mono HG6.out (fun _ _ => trivial)) (by omega) ⟨by omega, by omega⟩).mono ?_
  rintro e w7 ⟨vd, us, rfl, hV7, hB7⟩
  obtain ⟨A7, c7, hvd⟩ := own_slice hV7.own
  subst hvd
  have HV7 := Lib.hid hV7
  have HB7 := Lib.hid hB7
  have hs7 := hB7.size
  clear hV7 hB7
  go_wp2_with fail
  refine (withoutL_any (makeG data (fewN n)) gone data.length _ _ w7 w6.heap.size (Kd.V_below HP6c.out HB7.out) hs7 (Kd.V_mono (Kd.V_below HG6.out HB7.out) (fun _ _ => trivial)) (by rw [makeG_length]; omega) ⟨by omega, by omega⟩).mono ?_
  rintro e w8 ⟨vq, uq, rfl, hV8, hB8⟩
  rw [makeG_length] at hV8
  obtain ⟨A8, c8, hvq⟩ := own_slice hV8.own
  subst hvq
  have HV8 := Lib.hid hV8
  have HB8 := Lib.hid hB8
  have hs8 := hB8.size
  clear hV8 hB8 HD6c HP6c
  go_wp2_with ((with_reducible refine gate_dst (N := 76) rfl ?_); refine Kd.R_make KT _ 4 rfl (N := 76) rfl 55 _ _ rfl ((data.length : Int) + (fewN n : Int)) rfl rfl Try.underlying55 (.bool false) 1 info4 rfl (by decide) (by omega) false (ok := fun _ => True) (okp := fun _ => True) rfl (fun _ hk => hk) trivial (by omega) (by omega) (Below.refl _ _) (Nat.le_refl _) ?_; intro vt w9 ho hb hg hnew)
  have hto : ((data.length : Int) + (fewN n : Int)).toNat = data.length + fewN n := by omega
  rw [hto] at ho
  have hOT : OwnT w9 w8.heap.size vt (List.replicate (data.length + fewN n) false) := Kd.own_of_R ho
  obtain ⟨At, ct, hvt, hct, _⟩ := V_open hOT.V
  rw [List.length_replicate] at hvt hct
  subst hvt
  have hs9 := hb.size
  have hGD : Grp w6.heap.size w9.heap.size w9 data.length (.slice A7 data.length c7) us (withoutG data gone 0) := by
    have h := (((HV7.out.below HB8.out).below hb).grp (a := w6.heap.size) (b := w9.heap.size) (Nat.le_refl _) (Nat.le_refl _) (Nat.le_refl _))
    exact h
  have hGQ : Grp w6.heap.size w9.heap.size w9 (fewN n) (.slice A8 (fewN n) c8) uq (withoutG (makeG data (fewN n)) gone data.length) := (HV8.out.below hb).grp (a := w6.heap.size) (b := w9.heap.size) (Nat.le_refl _) hs7 (Nat.le_refl _)
  have hDt : ∀ k, (Value.slice A7 data.length c7).ownBlock = some k → w6.heap.size ≤ k ∧ k < w7.heap.size := fun k hk => World.ownsRow.lt HV7.out.own k hk
  have hQt : ∀ k, (Value.slice A8 (fewN n) c8).ownBlock = some k → w7.heap.size ≤ k ∧ k < w8.heap.size := fun k hk => World.ownsRow.lt HV8.out.own k hk
  have hTt : ∀ k, (Value.slice At (data.length + fewN n) ct).ownBlock = some k → w8.heap.size ≤ k ∧ k < w9.heap.size := fun k hk => World.ownsRow.lt hOT k hk
  have HDQ : Hid (Ap2 (.slice A7 data.length c7) (.slice A8 (fewN n) c8)) := Lib.hid (Ap2.symm (Ap2_fresh (m := w7.heap.size) (fun k hk => (hQt k hk).1) (fun k hk => (hDt k hk).2)))
  have HDT : Hid (Ap2 (.slice A7 data.length c7) (.slice At (data.length + fewN n) ct)) := Lib.hid (Ap2.symm (Ap2_fresh (m := w8.heap.size) (fun k hk => (hTt k hk).1) (fun k hk => by have := hDt k hk; omega)))
  have HQT : Hid (Ap2 (.slice A8 (fewN n) c8) (.slice At (data.length + fewN n) ct)) := Lib.hid (Ap2.symm (Ap2_fresh (m := w8.heap.size) (fun k hk => (hTt k hk).1) (fun k hk => (hQt k hk).2)))
  have HTT := Lib.hid (fun k hk => (by have := hTt k hk; omega : w6.heap.size ≤ k ∧ k < w9.heap.size) : ∀ k, (Value.slice At (data.length + fewN n) ct).ownBlock = some k → w6.heap.size ≤ k ∧ k < w9.heap.size)
  have HGD0 := Lib.hid hGD
  have HGQ0 := Lib.hid hGQ
  have HOT0 := Lib.hid (hOT.lower (B' := w6.heap.size) (by omega))
  have HDM0 := Lib.hid (dm_start data (fewN n) gone (fun k => Nat.le_trans (small_getD H12.out k) (by decide)) (fun j => Nat.le_trans (par_getD H12.out j) (by decide)))
  have HB69 := Lib.hid (HB7.out.trans ((HB8.out.trans (hb.mono HB8.out.size)).mono HB7.out.size))
  have HDS := Lib.hid (small_getD H12.out)
  have HPS := Lib.hid (par_getD (f := fewN n) H12.out)
  have HHA := Lib.hid (fun i hi => hashesG_at data (makeG data (fewN n)) i hi)
  have HHA2 := Lib.hid (fun j (hj : j < fewN n) => hashesG_at2 data (makeG data (fewN n)) j (by rw [makeG_length]; exact hj))
  have hhN : (hashesG data (makeG data (fewN n))).length = data.length + fewN n := by rw [hashesG_len, makeG_length]
  rw [hhN] at HH6 hch
  have HHE := Lib.hid (rfl : hashesG data (makeG data (fewN n)) = hashesG data (makeG data (fewN n)))
  have HHN := Lib.hid hhN
  have hab : w6.heap.size ≤ w9.heap.size := by omega
  clear hGD hGQ hDt hQt hTt hOT ho hb hg hnew hto HV7 HV8 HB7 HB8 hhN H12
  clear hfn
  generalize hfe : fewN n = f at *
  clear hfe
  go_loopw [19] (fun i wr => ∃ (k : Nat) (vs vq : List Value) (D Q : List (List G)) (dm : List Bool), i = .int .i64 k ∧ k ≤ gone.length ∧ Hid (Grp w6.heap.size w9.heap.size wr data.length (.slice A7 data.length c7) vs D) ∧ Hid (Grp w6.heap.size w9.heap.size wr f (.slice A8 f c8) vq Q) ∧ Hid (OwnT wr w6.heap.size (.slice At (data.length + f) ct) dm) ∧ Hid (Dm data f D Q dm (gone.drop k)) ∧ w9.heap.size ≤ wr.heap.size ∧ Hid (Below w6.heap.size w6 wr)) (fun i _ => gone.length - (intOf i).toNat)
  case atStart => exact ⟨0, us, uq, _, _, _, rfl, Nat.zero_le _, HGD0, HGQ0, HOT0, HDM0, Nat.le_refl _, HB69⟩
  case round =>
    clear HGD0 HGQ0 HOT0 HDM0 HB69
    obtain ⟨k, vs, vq, D, Q, dm, rfl, hk, HGD, HGQ, HOT, HDM, hwr, HB⟩ := hrel
    by_cases hlt : k < gone.length
    · obtain ⟨adg, rfl, hcell, _⟩ := Vi_cell (lowX HG6.out HB.out) k hlt
      have hxm : gone.getD k 0 ∈ gone := by rw [List.getD_eq_getElem?_getD, List.getElem?_eq_getElem hlt]; exact List.getElem_mem hlt
      obtain ⟨hr0, hr1⟩ := HK.out.rng _ hxm
      have hdr : gone.drop k = gone.getD k 0 :: gone.drop (k + 1) := by
        rw [List.drop_eq_getElem_cons hlt, List.getD_eq_getElem?_getD, List.getElem?_eq_getElem hlt]; rfl
      rw [hdr] at HDM
      clear hxm hdr
      generalize gone.getD k 0 = x at *
      obtain ⟨kx, rfl⟩ := Int.eq_ofNat_of_zero_le hr0
      have hby := byte_wrap n
      have hby2 := byte_wrap (k : Int)
      generalize BitVec.ofInt 8 n = g1 at *
      generalize BitVec.ofInt 8 (k : Int) = g2 at *
      have HBY := Lib.hid (And.intro hby hby2)
      go_upto_if 94 with fail
      clear hby hby2
      obtain ⟨wo, rfl⟩ : ∃ wo : World, wo = wr := ⟨_, rfl⟩
      go_cut [21] from 94 to 101 (fun v wx => ∃ (Ab : Option Addr) (cb : Nat) (y : List G), v = .slice Ab y.length cb ∧ y.length ≤ 12 ∧ Hid (Vb wx (fun q => q < w6.heap.size ∨ w9.heap.size ≤ q) v y) ∧ Hid (Below wo.heap.size wo wx))
      case first =>
        have HBA := Lib.hid (below_alloc (Below.refl wo.heap.size wo) (.cells #[.int .u8 (toI g1), .int .u8 (toI g2)] 5))
        by_cases hol : 0 < other.length
        · have holi : (0 : Int) < (other.length : Int) := by omega
          have hz : ((other.length : Int) == 0) = false := by rw [beq_eq_false_iff_ne]; omega
          have hj := Nat.mod_lt k hol
          have hj1 : (k : Int) % (other.length : Int) = ((k % other.length : Nat) : Int) := (Int.natCast_emod _ _).symm
          have hj2 : (k : Int).tmod (other.length : Int) = ((k % other.length : Nat) : Int) := by rw [Int.tmod_eq_emod_of_nonneg (by omega)]; exact hj1
          generalize k % other.length = j at *
          obtain ⟨ao, A3, c3, rfl, hcell3, HR, _⟩ := Vbb_row (lowX HO6.out (HB.out.trans (HBA.out.mono HB.out.size))) j hj
          have hyl := small_getD HO12.out j
          have HR2 := Lib.hid (Kd.V_mono HR (fun q hq => .inl hq.2) : Vb _ (fun q => q < w6.heap.size ∨ w9.heap.size ≤ q) _ _)
          clear HR
          generalize other.getD j [] = y at *
          go_wp2_with fail
          go_meet
          exact ⟨A3, c3, y, rfl, hyl, HR2, HBA⟩
        · have holi : ¬ (0 : Int) < (other.length : Int) := by omega
          have HN2 := Lib.hid (Kd.V_mono (V_byte2 wo g1 g2) (fun q hq => .inr (by omega)) : Vb _ (fun q => q < w6.heap.size ∨ w9.heap.size ≤ q) _ _)
          go_wp2_with fail
          go_meet
          exact ⟨_, 2, [g1, g2], rfl, by simp, HN2, HBA⟩
      case rest =>
        obtain ⟨Ab, cb, y, rfl, hyl, HY, HBX⟩ := hcut
        have HGD1 := Lib.hid (HGD.out.below HBX.out)
        have HGQ1 := Lib.hid (HGQ.out.below HBX.out)
        have HOT1 := Lib.hid (HOT.out.below HBX.out)
        have HB1 := Lib.hid (HB.out.trans (HBX.out.mono HB.out.size))
        have hwx : w9.heap.size ≤ wc.heap.size := Nat.le_trans hwr HBX.out.size
        clear HGD HGQ HOT HB HBX hwr hcell HBY
        obtain ⟨W1, hW1⟩ : ∃ W1 : World, W1 = wc := ⟨_, rfl⟩
        subst hW1
        go_upto_region 19 with fail
        go_upto_if 105 with fail
        go_cut [] from 105 to 141 (fun wx => ∃ (vs' vq' : List Value) (D' Q' : List (List G)) (dm' : List Bool) (z : List G), Hid (Grp w6.heap.size w9.heap.size wx data.length (.slice A7 data.length c7) vs' D') ∧ Hid (Grp w6.heap.size w9.heap.size wx f (.slice A8 f c8) vq' Q') ∧ Hid (OwnT wx w6.heap.size (.slice At (data.length + f) ct) dm') ∧ Hid (dm'.length = data.length + f) ∧ Hid (dm'.getD kx false = decide (y ≠ z)) ∧ Hid ((hashG y = hashG z → y = z) → Dm data f D' Q' dm' (gone.drop (k + 1))) ∧ Hid ((hashesG data (makeG data f)).getD kx 0 = hashG z) ∧ w9.heap.size ≤ wx.heap.size ∧ Hid (Below w6.heap.size w6 wx) ∧ Hid (Vb wx (fun q => q < w6.heap.size ∨ w9.heap.size ≤ q) (.slice Ab y.length cb) y))
        case first =>
          by_cases hkd : kx < data.length
          · have hki : (kx : Int) < (data.length : Int) := by omega
            obtain ⟨g, cc, he, hgB, hgW⟩ := HGD1.out.form (by omega)
            injection he with he1 _ he2
            subst he1 he2
            obtain ⟨hc1, hf1⟩ := HGD1.out.cell kx hkd
            have hst := HGD1.out.stored hkd HY.out
            have hgt := HGD1.out.top g rfl
            have hw2 : w9.heap.size ≤ (W1.setCell ⟨g, kx, none⟩ (Value.slice Ab y.length cb)).heap.size := Nat.le_trans hwx hst.2.size
            have HST := Lib.hid hst.1
            have HGR := Lib.hid hst.2
            have hrow : ∀ q, some g = some q → w6.heap.size ≤ q ∧ q < w9.heap.size := fun q hq => by injection hq with hq; omega
            have HGQ2 := Lib.hid (HGQ1.out.grown hst.2 (by
              rcases HDQ.out with h | h
              · cases h
              · exact .inr (fun he => h he.symm)) hrow)
            have HOT2 := Lib.hid (HOT1.out.grown hst.2 (by
              rcases HDT.out with h | h
              · cases h
              · exact .inr (fun he => h he.symm)))
            have HY2 := Lib.hid (Kd.V_grown HY.out hst.2 (fun q hq he => by have := hrow q he.symm; omega))
            have HB2 := Lib.hid (HB1.out.trans (below_row hst.2 HB1.out.size (fun q hq => (hrow q hq).1)))
            have hdl := HDM.out.lm
            have HDL := Lib.hid hdl
            clear hst hrow hdl
            go_upto_region 21 with fail
            generalize W1.setCell ⟨g, kx, none⟩ (Value.slice Ab y.length cb) = W2 at *
            obtain ⟨ad3, A3, c3, rfl, hcell3, HR, hadb⟩ := Vbb_row (lowX HD6.out HB2.out) kx hkd
            have hs1 := V_string HY2.out 1
            have hs2 := V_string HR 1
            have HHK := Lib.hid (HHA.out kx hkd)
            have HSTP := Lib.hid (fun (h : Dm data f D Q dm ((kx : Int) :: gone.drop (k + 1))) (z : List G) (hz : z = data.getD kx []) ht => by subst hz; rw [← ne_bool]; exact dm_stepD h hkd (Nat.le_trans hyl (by decide)) ht : Dm data f D Q dm ((kx : Int) :: gone.drop (k + 1)) → ∀ z, z = data.getD kx [] → (hashG y = hashG z → y = z) → Dm data f (D.set kx y) Q (dm.set kx (!decide (y = z))) (gone.drop (k + 1)))
            have hdl := HDL.out
            obtain ⟨gt, cc2, he, hgtB, hgtW⟩ := HOT2.out.form (by omega)
            rw [hdl] at he
            injection he with he1 _ he2
            subst he1 he2
            obtain ⟨hc2, hf2⟩ := HOT2.out.at_ kx (by omega)
            have hgt2 := HTT.out gt rfl
            have HFIN := Lib.hid (HSTP.out HDM.out _ rfl)
            clear hdl HSTP
            generalize data.getD kx [] = z at *
            have hsi := strG_inj y z
            have hset := HOT2.out.set_ kx (!decide (y = z))
            have hrow : ∀ q, some gt = some q → w6.heap.size ≤ q ∧ q < w9.heap.size := fun q hq => by injection hq with hq; omega
            have hr1 := V_string (Kd.V_grown HY2.out hset.2 (fun q hq he => by have := hrow q he.symm; omega)) 1
            have hr2 := V_string (Kd.V_grown HR hset.2 (fun q hq he => by have := hrow q he.symm; have := hq.2; omega)) 1
            have hr3 := cell_grown hset.2 hcell3 (by rw [add_block]; intro he; have := hrow _ he.symm; have := hadb.2; omega)
            have HOT3 := Lib.hid (OwnT.below hset.1 (below_drew (Below.refl _ _)))
            have HGD3 := Lib.hid ((HST.out.grown hset.2 (by
              rcases HDT.out with h | h
              · exact .inl h
              · exact .inr h) hrow).below (below_drew (Below.refl _ _)))
            have HGQ3 := Lib.hid ((HGQ2.out.grown hset.2 (by
              rcases HQT.out with h | h
              · exact .inl h
              · exact .inr h) hrow).below (below_drew (Below.refl _ _)))
            have HY3 := Lib.hid (Kd.V_drew (Kd.V_grown HY2.out hset.2 (fun q hq he => by have := hrow q he.symm; omega)))
            have HB3 := Lib.hid (below_drew (HB2.out.trans (below_row hset.2 HB2.out.size (fun q hq => (hrow q hq).1))))
            have HW3 := Lib.hid (Nat.le_trans hw2 hset.2.size)
            have HGT := Lib.hid ((getD_set dm kx kx (!decide (y = z)) false (by have := HDL.out; omega)).trans (if_pos rfl))
            have HDL2 : Hid ((dm.set kx (!decide (y = z))).length = data.length + f) := Lib.hid (by rw [List.length_set]; exact HDL.out)
            have HBZ := Lib.hid (ne_bool y z)
            have hne : ((strG y).toList == (strG z).toList) = decide (y = z) := by
              rw [Bool.eq_iff_iff, beq_iff_eq, decide_eq_true_iff, hsi]
            clear hset hrow hsi HR
            generalize decide (y = z) = be at *
            go_region_held3 (fun W => W.cell? (ad3.add kx) = some (.slice A3 z.length c3) ∧ (convert 33 9 (.slice Ab y.length cb)).run Try.prog W = .ok (.string (strG y)) W ∧ (convert 33 9 (.slice A3 z.length c3)).run Try.prog W = .ok (.string (strG z)) W)
              (first | exact ⟨hcell3, hs1, hs2⟩ | exact ⟨hr3, hr1, hr2⟩)
              (fail)
            go_wp2_with fail
            go_meet
            exact ⟨_, _, _, _, _, z, HGD3, HGQ3, HOT3, HDL2, Lib.hid (by rw [HGT.out, HBZ.out]), HFIN, HHK, HW3.out, HB3, HY3⟩
          · have hki : ¬ (kx : Int) < (data.length : Int) := by omega
            have hkj : data.length + (kx - data.length) = kx := by omega
            have hjf : kx - data.length < f := by omega
            have hxj : (kx : Int) = (data.length : Int) + ((kx - data.length : Nat) : Int) := by omega
            have hsub : IntKind.i64.wrap ((kx : Int) - (data.length : Int)) = ((kx - data.length : Nat) : Int) := by rw [IntWalk.i64_in _ (by omega)]; omega
            generalize kx - data.length = j at *
            have HKJ := Lib.hid (And.intro hkj hxj)
            clear hkj hxj
            obtain ⟨g, cc, he, hgB, hgW⟩ := HGQ1.out.form (by omega)
            injection he with he1 _ he2
            subst he1 he2
            obtain ⟨hc1, hf1⟩ := HGQ1.out.cell j hjf
            have hst := HGQ1.out.stored hjf HY.out
            have hgt := HGQ1.out.top g rfl
            have hw2 : w9.heap.size ≤ (W1.setCell ⟨g, j, none⟩ (Value.slice Ab y.length cb)).heap.size := Nat.le_trans hwx hst.2.size
            have HST := Lib.hid hst.1
            have HGR := Lib.hid hst.2
            have hrow : ∀ q, some g = some q → w6.heap.size ≤ q ∧ q < w9.heap.size := fun q hq => by injection hq with hq; omega
            have HGQ2 := Lib.hid (HGD1.out.grown hst.2 (by
              rcases HDQ.out with h | h
              · exact .inl h
              · exact .inr h) hrow)
            have HOT2 := Lib.hid (HOT1.out.grown hst.2 (by
              rcases HQT.out with h | h
              · cases h
              · exact .inr (fun he => h he.symm)))
            have HY2 := Lib.hid (Kd.V_grown HY.out hst.2 (fun q hq he => by have := hrow q he.symm; omega))
            have HB2 := Lib.hid (HB1.out.trans (below_row hst.2 HB1.out.size (fun q hq => (hrow q hq).1)))
            have hdl := HDM.out.lm
            have HDL := Lib.hid hdl
            clear hst hrow hdl
            go_upto_region 23 with fail
            generalize W1.setCell ⟨g, j, none⟩ (Value.slice Ab y.length cb) = W2 at *
            obtain ⟨ad3, A3, c3, rfl, hcell3, HR, hadb⟩ := Vbb_row (lowX HP6.out HB2.out) j (by rw [makeG_length]; exact hjf)
            have hs1 := V_string HY2.out 1
            have hs2 := V_string HR 1
            have HHK := Lib.hid (by rw [← HKJ.out.1]; exact HHA2.out j hjf : (hashesG data (makeG data f)).getD kx 0 = hashG ((makeG data f).getD j []))
            have HSTP := Lib.hid (fun (h : Dm data f D Q dm (((data.length : Int) + (j : Int)) :: gone.drop (k + 1))) (z : List G) (hz : z = (makeG data f).getD j []) ht => by subst hz; rw [← ne_bool, ← HKJ.out.1]; exact dm_stepP h hjf (Nat.le_trans hyl (by decide)) ht : Dm data f D Q dm (((data.length : Int) + (j : Int)) :: gone.drop (k + 1)) → ∀ z, z = (makeG data f).getD j [] → (hashG y = hashG z → y = z) → Dm data f D (Q.set j y) (dm.set kx (!decide (y = z))) (gone.drop (k + 1)))
            have hdl := HDL.out
            obtain ⟨gt, cc2, he, hgtB, hgtW⟩ := HOT2.out.form (by omega)
            rw [hdl] at he
            injection he with he1 _ he2
            subst he1 he2
            obtain ⟨hc2, hf2⟩ := HOT2.out.at_ kx (by omega)
            have hgt2 := HTT.out gt rfl
            have HFIN := Lib.hid (HSTP.out (by rw [← HKJ.out.2]; exact HDM.out) _ rfl)
            clear hdl HSTP
            generalize (makeG data f).getD j [] = z at *
            have hsi := strG_inj y z
            have hset := HOT2.out.set_ kx (!decide (y = z))
            have hrow : ∀ q, some gt = some q → w6.heap.size ≤ q ∧ q < w9.heap.size := fun q hq => by injection hq with hq; omega
            have hr1 := V_string (Kd.V_grown HY2.out hset.2 (fun q hq he => by have := hrow q he.symm; omega)) 1
            have hr2 := V_string (Kd.V_grown HR hset.2 (fun q hq he => by have := hrow q he.symm; have := hq.2; omega)) 1
            have hr3 := cell_grown hset.2 hcell3 (by rw [add_block]; intro he; have := hrow _ he.symm; have := hadb.2; omega)
            have HOT3 := Lib.hid (OwnT.below hset.1 (below_drew (Below.refl _ _)))
            have HGD3 := Lib.hid ((HGQ2.out.grown hset.2 (by
              rcases HDT.out with h | h
              · exact .inl h
              · exact .inr h) hrow).below (below_drew (Below.refl _ _)))
            have HGQ3 := Lib.hid ((HST.out.grown hset.2 (by
              rcases HQT.out with h | h
              · exact .inl h
              · exact .inr h) hrow).below (below_drew (Below.refl _ _)))
            have HY3 := Lib.hid (Kd.V_drew (Kd.V_grown HY2.out hset.2 (fun q hq he => by have := hrow q he.symm; omega)))
            have HB3 := Lib.hid (below_drew (HB2.out.trans (below_row hset.2 HB2.out.size (fun q hq => (hrow q hq).1))))
            have HW3 := Lib.hid (Nat.le_trans hw2 hset.2.size)
            have HGT := Lib.hid ((getD_set dm kx kx (!decide (y = z)) false (by have := HDL.out; omega)).trans (if_pos rfl))
            have HDL2 : Hid ((dm.set kx (!decide (y = z))).length = data.length + f) := Lib.hid (by rw [List.length_set]; exact HDL.out)
            have HBZ := Lib.hid (ne_bool y z)
            have hne : ((strG y).toList == (strG z).toList) = decide (y = z) := by
              rw [Bool.eq_iff_iff, beq_iff_eq, decide_eq_true_iff, hsi]
            clear hset hrow hsi HR
            generalize decide (y = z) = be at *
            go_region_held3 (fun W => W.cell? (ad3.add j) = some (.slice A3 z.length c3) ∧ (convert 33 9 (.slice Ab y.length cb)).run Try.prog W = .ok (.string (strG y)) W ∧ (convert 33 9 (.slice A3 z.length c3)).run Try.prog W = .ok (.string (strG z)) W)
              (first | exact ⟨hcell3, hs1, hs2⟩ | exact ⟨hr3, hr1, hr2⟩)
              (fail)
            go_wp2_with fail
            go_meet
            exact ⟨_, _, _, _, _, z, HGD3, HGQ3, HOT3, HDL2, Lib.hid (by rw [HGT.out, HBZ.out]), HFIN, HHK, HW3.out, HB3, HY3⟩
        case rest =>
          obtain ⟨vs1, vq1, D1, Q1, dm1, z, HGD2, HGQ2, HOT2, HDL, HDZ, HDM2, HHK, hw2, HB2, HY2⟩ := hcut
          clear HGD1 HGQ1 HOT1 HDM HB1 HY
          obtain ⟨W2, hW2⟩ : ∃ W2 : World, W2 = wc := ⟨_, rfl⟩
          subst hW2
          have hdl := HDL.out
          obtain ⟨gt, cc2, he, hgtB, hgtW⟩ := HOT2.out.form (by omega)
          rw [hdl] at he
          injection he with he1 _ he2
          subst he1 he2
          have hkn : kx < data.length + f := by omega
          obtain ⟨hc2, hf2⟩ := HOT2.out.at_ kx (by omega)
          rw [HDZ.out] at hc2
          have hki0 : (0 : Int) ≤ (kx : Int) := by omega
          have hki1 : (kx : Int) < ((data.length : Int) + (f : Int)) := hr1
          clear hdl
          by_cases hyz : y = z
          · have hd : decide (y ≠ z) = false := decide_eq_false (fun h => h hyz)
            rw [hd] at hc2
            have HDM3 := Lib.hid (HDM2.out (fun _ => hyz))
            clear hd hyz
            go_wp2_with fail
            go_quiet (fail)
            go_wp2_with fail
            have HBQ := Lib.hid (below_drewN (Below.refl W2.heap.size W2) nq)
            exact ⟨⟨k + 1, vs1, vq1, D1, Q1, dm1, by go_num, by omega, Lib.hid (HGD2.out.below HBQ.out), Lib.hid (HGQ2.out.below HBQ.out), Lib.hid (HOT2.out.below HBQ.out), HDM3, Nat.le_trans hw2 HBQ.out.size, Lib.hid (HB2.out.trans (HBQ.out.mono HB2.out.size))⟩, by simp [intOf]; omega⟩
          · have hd : decide (y ≠ z) = true := decide_eq_true hyz
            rw [hd] at hc2
            have hNi : (kx : Int) < ((hashesG data (makeG data f)).length : Int) := by have := HHN.out; omega
            have hkl : decide ((kx : Int) < ((hashesG data (makeG data f)).length : Int)) = true := decide_eq_true hNi
            obtain ⟨adh, hah, hcellh, _⟩ := V_scalar (lowX HH6.out HB2.out) 0 kx (by have := HHN.out; omega)
            subst hah
            rw [HHK.out] at hcellh
            have HHC := Lib.hid (hash_any y Ab cb (Nat.le_trans hyl (by decide)) W2.drew (Kd.V_drew (Kd.V_mono HY2.out (fun _ _ => trivial))))
            unfold encN at hcellh
            clear hd
            have keepA : ∀ W, Below W2.heap.size W2 W → W.cell? ⟨gt, kx, none⟩ = some (.bool true) ∧ W.cell? (adh.add kx) = some (.int .u64 (hashG z : Nat)) := fun W hW => ⟨pw_cell_below hW hc2, pw_cell_below hW hcellh⟩
            have HKA := Lib.hid keepA
            clear keepA
            by_cases hh : hashG y = hashG z
            · have hbe : ((hashG y : Nat) : Int) = ((hashG z : Nat) : Int) := by rw [hh]
              have hbb : (((hashG y : Nat) : Int) == ((hashG z : Nat) : Int)) = true := by rw [beq_iff_eq]; exact hbe
              have HBB := Lib.hid hbb
              clear hh hbe HDM2 hbb
              generalize hashG y = hy at *
              generalize hashG z = hz at *
              have hbb := HBB.out
              go_wp2_with fail
              go_region_held3 (fun W => W.cell? ⟨gt, kx, none⟩ = some (.bool true) ∧ W.cell? (adh.add kx) = some (.int .u64 (hz : Nat)))
                (first | exact ⟨hc2, hcellh⟩ | exact HKA.out _ HB10.out)
                (first | (go_at_call 23; refine HHC.out.mono ?_; rintro e w10 ⟨rfl, hB10⟩; have HB10 : Hid (Below W2.heap.size W2 w10) := Lib.hid ((below_drew (Below.refl _ _)).trans hB10); clear hB10))
              go_wp2_with fail
              refine (lives_any _).mono ?_
              rintro e w11 ⟨rfl, hB11⟩
              have HB11 := Lib.hid hB11
              clear hB11
              go_wp2_with fail
              go_ret
              refine ⟨rfl, ?_⟩
              have h1 := HB06.out.trans ((HB2.out.trans ((HB10.out.trans (HB11.out.mono HB10.out.size)).mono HB2.out.size)).mono HB06.out.size)
              exact h1
            · have hbb : (((hashG y : Nat) : Int) == ((hashG z : Nat) : Int)) = false := by rw [beq_eq_false_iff_ne]; omega
              have HDM3 := Lib.hid (HDM2.out (fun h => absurd h hh))
              have HBB := Lib.hid hbb
              clear hh HDM2 hbb
              generalize hashG y = hy at *
              generalize hashG z = hz at *
              have hbb := HBB.out
              go_wp2_with fail
              go_region_held3 (fun W => W.cell? ⟨gt, kx, none⟩ = some (.bool true) ∧ W.cell? (adh.add kx) = some (.int .u64 (hz : Nat)))
                (first | exact ⟨hc2, hcellh⟩ | exact HKA.out _ HB10.out)
                (first | (go_at_call 23; refine HHC.out.mono ?_; rintro e w10 ⟨rfl, hB10⟩; have HB10 : Hid (Below W2.heap.size W2 w10) := Lib.hid ((below_drew (Below.refl _ _)).trans hB10); clear hB10))
              go_wp2_with fail
              exact ⟨⟨k + 1, vs1, vq1, D1, Q1, dm1, by go_num, by omega, Lib.hid (HGD2.out.below HB10.out), Lib.hid (HGQ2.out.below HB10.out), Lib.hid (HOT2.out.below HB10.out), HDM3, Nat.le_trans hw2 HB10.out.size, Lib.hid (HB2.out.trans (HB10.out.mono HB2.out.size))⟩, by simp [intOf]; omega⟩
    · obtain rfl : k = gone.length := by omega
      rw [List.drop_length] at HDM
      have HSC := Lib.hid (dm_scene HDM.out (by omega) hf4 HLO.out)
      have HLC := Lib.hid (dm_lost HDM.out HSC.out)
      have HLF := Lib.hid (dm_left HDM.out HSC.out)
      have HBW := Lib.hid (dm_bad HDM.out HSC.out)
      have HPL : Hid (∀ j, j < f → ((makeG data f).getD j []).length = longG data) := Lib.hid (fun j hj => by rw [makeG_getD _ _ _ hj, parG_length])
      have HLM := Lib.hid HDM.out.lm
      have HVD := Lib.hid (HGD.out.outs.V (by omega))
      have HVQ := Lib.hid (HGQ.out.outs.V (by omega))
      have HLDQ := Lib.hid (And.intro HDM.out.ld HDM.out.lq)
      have HPL2 := Lib.hid (rfl : longG data = longG data)
      generalize hLe : longG data = L at *
      clear hLe HPL2
      obtain ⟨wa, rfl⟩ : ∃ wa : World, wa = wr := ⟨_, rfl⟩
      have hsa := HB.out.size
      go_wp2_with fail
      go_loopw [22, 23, 24, 25] (fun v22 v23 v24 i wq => ∃ q : Nat, i = .int .i64 q ∧ q ≤ data.length + f ∧ v23 = .int .i64 ((ldTo dm data q : Nat) : Int) ∧ v24 = .int .i64 ((f - lfTo dm data.length L q : Nat) : Int) ∧ Hid (OwnI wq wa.heap.size v22 (wantTo dm q)) ∧ Hid (Below wa.heap.size wa wq)) (fun _ _ _ i _ => data.length + f - (intOf i).toNat)
      case atStart => exact ⟨0, rfl, Nat.zero_le _, rfl, rfl, Lib.hid (OwnI.nil _ _), Lib.hid (Below.refl _ _)⟩
      case round =>
        obtain ⟨q, rfl, hq, rfl, rfl, HW, HBQ⟩ := hrel
        have HBT := Lib.hid (HB.out.trans (HBQ.out.mono HB.out.size))
        by_cases hqt : q < data.length + f
        · have hqi : (q : Int) < (data.length : Int) + (f : Int) := by omega
          have hq0 : (0 : Int) ≤ (q : Int) := by omega
          have hdl := HLM.out
          obtain ⟨gt, cc2, he, hgtB, hgtW⟩ := HOT.out.form (by omega)
          rw [hdl] at he
          injection he with he1 _ he2
          subst he1 he2
          obtain ⟨hc2, _⟩ := (HOT.out.below HBQ.out).at_ q (by omega)
          have hld := ldTo_le dm data q
          have hlf := lfTo_le dm data.length L q
          have hwl := wantTo_le dm q
          have HLS : Hid (ldTo dm data (q + 1) = if dm.getD q false = true ∧ q < data.length ∧ 0 < (data.getD q []).length then ldTo dm data q + 1 else ldTo dm data q) := Lib.hid rfl
          have HFS : Hid (lfTo dm data.length L (q + 1) = if dm.getD q false = true ∧ data.length ≤ q ∧ 0 < L then lfTo dm data.length L q + 1 else lfTo dm data.length L q) := Lib.hid rfl
          have HWS : Hid (wantTo dm (q + 1) = if dm.getD q false = true then wantTo dm q ++ [(q : Int)] else wantTo dm q) := Lib.hid rfl
          clear hdl
          generalize hdm : dm.getD q false = b at *
          clear hdm
          cases b
          case false =>
            have hE1 := HLS.out.trans (if_neg (fun h => by cases h.1))
            have hE2 := HFS.out.trans (if_neg (fun h => by cases h.1))
            have hE3 := HWS.out.trans (if_neg (fun h => by cases h))
            have HE := Lib.hid (And.intro hE1 (And.intro hE2 hE3))
            clear hE1 hE2 hE3 HLS HFS HWS
            generalize ldTo dm data q = l1 at *
            generalize lfTo dm data.length L q = l2 at *
            go_wp2_with fail
            exact ⟨⟨q + 1, by go_num, by omega, by rw [HE.out.1], by rw [HE.out.2.1], Lib.hid (by rw [HE.out.2.2]; exact HW.out), HBQ⟩, by simp [intOf]; omega⟩
          case true =>
            have HE3 := Lib.hid (HWS.out.trans (if_pos rfl))
            have HNE : Hid (∀ g, g < w6.heap.size → some g ≠ u22.ownBlock) := Lib.hid (fun g hg he => by have := (World.ownsRow.lt HW.out g he.symm).1; omega)
            clear HWS
            generalize hwt : wantTo dm q = wt at *
            clear hwt
            by_cases hqd : q < data.length
            · have hqdi : (q : Int) < (data.length : Int) := by omega
              obtain ⟨add, A3, c3, rfl, hcell3, _, hadb⟩ := Vbb_row (lowX HD6.out HBT.out) q hqd
              have HCA := Lib.hid hcell3
              have HNE2 := Lib.hid (by rw [add_block]; exact HNE.out _ hadb.2 : some (add.add q).block ≠ u22.ownBlock)
              have hdl2 := HDS.out q
              have HE2 := Lib.hid (HFS.out.trans (if_neg (fun h => by omega)))
              clear HFS hcell3
              generalize (data.getD q []).length = dl at *
              by_cases hdl0 : 0 < dl
              · have hdi : (0 : Int) < (dl : Int) := by omega
                have HE1 := Lib.hid (HLS.out.trans (if_pos ⟨rfl, hqd, hdl0⟩))
                clear HLS
                generalize ldTo dm data q = l1 at *
                generalize lfTo dm data.length L q = l2 at *
                go_wp2_with ((with_reducible refine gate_builtin (b := .append) (xs := #[.tmp 175, .tmp 177]) rfl ?_); at_builtin; refine app_int (w0 := wa) wa.heap.size rfl (.tmp 175) (.tmp 177) rfl _ wt q rfl rfl HW.out HBQ.out HBQ.out.size (by omega) ?_; intro v3 w3 hO3 hB3 hg3 hat3; have HO3 := Lib.hid hO3; have HB3 := Lib.hid hB3; have hcell4 := cell_grown hg3 HCA.out HNE2.out; clear hO3 hB3 hg3 hat3)
                exact ⟨⟨q + 1, by go_num, by omega, by rw [HE1.out]; go_num, by rw [HE2.out], Lib.hid (by rw [HE3.out]; exact HO3.out), HB3⟩, by simp [intOf]; omega⟩
              · have hdi : ¬ (0 : Int) < (dl : Int) := by omega
                have HE1 := Lib.hid (HLS.out.trans (if_neg (fun h => hdl0 h.2.2)))
                clear HLS
                generalize ldTo dm data q = l1 at *
                generalize lfTo dm data.length L q = l2 at *
                go_wp2_with ((with_reducible refine gate_builtin (b := .append) (xs := #[.tmp 175, .tmp 177]) rfl ?_); at_builtin; refine app_int (w0 := wa) wa.heap.size rfl (.tmp 175) (.tmp 177) rfl _ wt q rfl rfl HW.out HBQ.out HBQ.out.size (by omega) ?_; intro v3 w3 hO3 hB3 hg3 hat3; have HO3 := Lib.hid hO3; have HB3 := Lib.hid hB3; have hcell4 := cell_grown hg3 HCA.out HNE2.out; clear hO3 hB3 hg3 hat3)
                exact ⟨⟨q + 1, by go_num, by omega, by rw [HE1.out], by rw [HE2.out], Lib.hid (by rw [HE3.out]; exact HO3.out), HB3⟩, by simp [intOf]; omega⟩
            · have hqdi : ¬ (q : Int) < (data.length : Int) := by omega
              have hqj : q - data.length < f := by omega
              have hsub : IntKind.i64.wrap ((q : Int) - (data.length : Int)) = ((q - data.length : Nat) : Int) := by rw [IntWalk.i64_in _ (by omega)]; omega
              have hlf3 : f - (lfTo dm data.length L q + 1) = f - lfTo dm data.length L q - 1 := by omega
              have hlf2 : lfTo dm data.length L q < f := by omega
              have HLF3 := Lib.hid hlf3
              clear hlf3
              generalize q - data.length = j at *
              obtain ⟨add, A3, c3, rfl, hcell3, _, hadb⟩ := Vbb_row (lowX HP6.out HBT.out) j (by rw [makeG_length]; exact hqj)
              rw [HPL.out j hqj] at hcell3
              have HCA := Lib.hid hcell3
              have HNE2 := Lib.hid (by rw [add_block]; exact HNE.out _ hadb.2 : some (add.add j).block ≠ u22.ownBlock)
              have HE1 := Lib.hid (HLS.out.trans (if_neg (fun h => by omega)))
              clear HLS hcell3
              by_cases hL0 : 0 < L
              · have hdi : (0 : Int) < (L : Int) := by omega
                have HE2 := Lib.hid (HFS.out.trans (if_pos ⟨rfl, by omega, hL0⟩))
                clear HFS
                generalize ldTo dm data q = l1 at *
                generalize lfTo dm data.length L q = l2 at *
                go_wp2_with ((with_reducible refine gate_builtin (b := .append) (xs := #[.tmp 175, .tmp 177]) rfl ?_); at_builtin; refine app_int (w0 := wa) wa.heap.size rfl (.tmp 175) (.tmp 177) rfl _ wt q rfl rfl HW.out HBQ.out HBQ.out.size (by omega) ?_; intro v3 w3 hO3 hB3 hg3 hat3; have HO3 := Lib.hid hO3; have HB3 := Lib.hid hB3; have hcell4 := cell_grown hg3 HCA.out HNE2.out; clear hO3 hB3 hg3 hat3)
                exact ⟨⟨q + 1, by go_num, by omega, by rw [HE1.out], by rw [HE2.out]; congr 1; omega, Lib.hid (by rw [HE3.out]; exact HO3.out), HB3⟩, by simp [intOf]; omega⟩
              · have hdi : ¬ (0 : Int) < (L : Int) := by omega
                have HE2 := Lib.hid (HFS.out.trans (if_neg (fun h => hL0 h.2.2)))
                clear HFS
                generalize ldTo dm data q = l1 at *
                generalize lfTo dm data.length L q = l2 at *
                go_wp2_with ((with_reducible refine gate_builtin (b := .append) (xs := #[.tmp 175, .tmp 177]) rfl ?_); at_builtin; refine app_int (w0 := wa) wa.heap.size rfl (.tmp 175) (.tmp 177) rfl _ wt q rfl rfl HW.out HBQ.out HBQ.out.size (by omega) ?_; intro v3 w3 hO3 hB3 hg3 hat3; have HO3 := Lib.hid hO3; have HB3 := Lib.hid hB3; have hcell4 := cell_grown hg3 HCA.out HNE2.out; clear hO3 hB3 hg3 hat3)
                exact ⟨⟨q + 1, by go_num, by omega, by rw [HE1.out], by rw [HE2.out], Lib.hid (by rw [HE3.out]; exact HO3.out), HB3⟩, by simp [intOf]; omega⟩
        · obtain rfl : q = data.length + f := by omega
          have HSL : Hid ((sizesG data).length = data.length) := Lib.hid (sizesG_length data)
          rw [HLC.out, ← HBW.out]  at *
          have hlfc : f - lfTo dm data.length L (data.length + f) = leftCt data f (badG data f D Q) := by have := HLF.out; omega
          rw [hlfc]
          rw [← HBW.out] at HW
          obtain ⟨Aw, cw, rfl, hcw, _⟩ := V_open HW.out.V
          have HVD2 := Lib.hid (Kd.V_below HVD.out HBQ.out)
          have HVQ2 := Lib.hid (Kd.V_below HVQ.out HBQ.out)
          have hHH : Vu wr (fun _ => True) (.slice Ah (hashesG data (makeG data f)).length ch) (hashesG data (makeG data f)) := by
            rw [HHN.out]; exact Kd.V_mono (lowX HH6.out HBT.out) (fun _ _ => trivial)
          have HHL := Lib.hid (heal_at HSC.out HLDQ.out.1 HLDQ.out.2 HSL.out rfl HVD2.out HVQ2.out (Kd.V_mono (lowX HS6.out HBT.out) (fun _ _ => trivial)) hHH)
          clear hlfc hHH HLF HLC HBW HSC HVD HVQ HVD2 HVQ2 HGD HGQ HOT HDM
          generalize badG data f D Q = bad at *
          by_cases hlo : leftCt data f bad < lostCt data bad
          · have HR := Lib.hid (HHL.out.mono (fun e w' h => ⟨h.2.1 hlo, h.1⟩ : ∀ e w', HealPost data f bad wr e w' → e = .returned (.tuple #[.slice none 0 0, .slice none 0 0, .slice none 0 0, .int .i64 26]) ∧ Below wr.heap.size wr w'))
            have hloi : (leftCt data f bad : Int) < (lostCt data bad : Int) := by omega
            clear hlo HHL
            generalize leftCt data f bad = fc at *
            generalize lostCt data bad = lc at *
            go_wp2_with fail
            refine HR.out.mono ?_
            rintro e w10 ⟨rfl, hB10⟩
            have HB10 := Lib.hid hB10
            clear hB10
            go_wp2_with fail
            refine (lives_any _).mono ?_
            rintro e w11 ⟨rfl, hB11⟩
            have HB11 := Lib.hid hB11
            clear hB11
            go_wp2_with fail
            go_ret
            refine ⟨rfl, ?_⟩
            exact HB06.out.trans ((HBT.out.trans ((HB10.out.trans (HB11.out.mono HB10.out.size)).mono HBT.out.size)).mono HB06.out.size)
          · have HR := Lib.hid (HHL.out.mono (fun e w' h => ⟨h.2.2 (by omega), h.1⟩ : ∀ e w', HealPost data f bad wr e w' → (∃ va vp vb, e = .returned (.tuple #[va, vp, vb, .int .i64 0]) ∧ Vbb w' (fun _ => True) va data ∧ Vbb w' (fun _ => True) vp (makeG data f) ∧ Vi w' (fun _ => True) vb bad) ∧ Below wr.heap.size wr w'))
            have hloi : ¬ (leftCt data f bad : Int) < (lostCt data bad : Int) := by omega
            clear hlo HHL
            generalize leftCt data f bad = fc at *
            generalize lostCt data bad = lc at *
            go_wp2_with fail
            refine HR.out.mono ?_
            rintro e w10 ⟨⟨va, vp, vb, rfl, hva, hvp, hvb⟩, hB10⟩
            obtain ⟨Ab, cb, rfl, hcb, _⟩ := V_open hvb
            have HVA := Lib.hid (Kd.V_bound hva)
            have HVP := Lib.hid (Kd.V_bound hvp)
            have HVB := Lib.hid (Kd.V_bound hvb)
            have HB10 := Lib.hid hB10
            have HVW := Lib.hid (Kd.V_bound (Kd.V_mono (ok' := fun _ => True) (HW.out.below hB10).V (fun _ _ => trivial)))
            clear hva hvp hvb hB10 HR
            have hbb : ((bad.length : Int) != (bad.length : Int)) = false := by rw [bne_eq_false_iff_eq]
            go_wp2_with fail
            go_loopw [30] (fun i wq => ∃ j : Nat, i = .int .i64 j ∧ j ≤ bad.length ∧ Hid (Below w10.heap.size w10 wq)) (fun i _ => bad.length - (intOf i).toNat)
            case atStart => exact ⟨0, rfl, Nat.zero_le _, Lib.hid (Below.refl _ _)⟩
            case round =>
              obtain ⟨j, rfl, hj, HBJ⟩ := hrel
              by_cases hlt2 : j < bad.length
              · have hj0 : (0 : Int) ≤ (j : Int) := by omega
                have hji : (j : Int) < (bad.length : Int) := by omega
                obtain ⟨ada, rfl, hcella, _⟩ := Vi_cell (lowX HVB.out HBJ.out) j hlt2
                obtain ⟨adb, rfl, hcellb, _⟩ := Vi_cell (lowX HVW.out HBJ.out) j hlt2
                generalize bad.getD j 0 = x at *
                have hxx : ((x : Int) != (x : Int)) = false := by rw [bne_eq_false_iff_eq]
                go_wp2_with fail
                go_quiet (fail)
                go_wp2_with fail
                exact ⟨⟨j + 1, by go_num, by omega, Lib.hid (pw_below_drewN HBJ.out _)⟩, by simp [intOf]; omega⟩
              · obtain rfl : j = bad.length := by omega
                have HBF := Lib.hid (HBT.out.trans ((HB10.out.trans (HBJ.out.mono HB10.out.size)).mono HBT.out.size))
                have HVA2 := Lib.hid (Kd.V_mono (lowX HVA.out HBJ.out) (fun _ _ => trivial) : Vbb _ (fun _ => True) va data)
                have HVP2 := Lib.hid (Kd.V_mono (lowX HVP.out HBJ.out) (fun _ _ => trivial) : Vbb _ (fun _ => True) vp (makeG data f))
                have HD9 := Lib.hid (Kd.V_mono (lowX HD6.out HBF.out) (fun _ _ => trivial) : Vbb _ (fun _ => True) _ data)
                have HP9 := Lib.hid (Kd.V_mono (lowX HP6.out HBF.out) (fun _ _ => trivial) : Vbb _ (fun _ => True) _ (makeG data f))
                have HSM := Lib.hid (fun W v1 v2 h1 h2 => (same_any data data v1 v2 W h1 h2).mono (fun e W' h => ⟨by rw [h.1, decide_eq_true rfl], h.2⟩) : ∀ W v1 v2, Vbb W (fun _ => True) v1 data → Vbb W (fun _ => True) v2 data → Calls Try.prog 20 #[v1, v2] W fun e w' => e = .returned (.bool true) ∧ ∃ n, w' = W.drewN n)
                have HSP := Lib.hid (fun W v1 v2 h1 h2 => (same_any (makeG data f) (makeG data f) v1 v2 W h1 h2).mono (fun e W' h => ⟨by rw [h.1, decide_eq_true rfl], h.2⟩) : ∀ W v1 v2, Vbb W (fun _ => True) v1 (makeG data f) → Vbb W (fun _ => True) v2 (makeG data f) → Calls Try.prog 20 #[v1, v2] W fun e w' => e = .returned (.bool true) ∧ ∃ n, w' = W.drewN n)
                go_wp2_with fail
                refine (HSM.out _ _ _ HVA2.out HD9.out).mono ?_
                rintro e w' ⟨rfl, n8, rfl⟩
                go_wp2_with fail
                refine (HSP.out _ _ _ (Kd.V_drewN HVP2.out n8) (Kd.V_drewN HP9.out n8)).mono ?_
                rintro e w' ⟨rfl, n9, rfl⟩
                go_wp2_with fail
                refine (lives_any _).mono ?_
                rintro e w11 ⟨rfl, hB11⟩
                have HB11 := Lib.hid hB11
                clear hB11
                go_wp2_with fail
                go_ret
                refine ⟨rfl, ?_⟩
                have h1 := HB06.out.trans (HBF.out.mono HB06.out.size)
                have h2 := below_drewN h1 (n8 + n9)
                exact h2.trans (HB11.out.mono h2.size)
end Go.Proofs.Ytiggohkkokalcaa
