/- The walk of package parity's Repair. -/
import Derived.Test.YtiggohkkokalcaaCutAll
import Derived.Test.YtiggohkkokalcaaCheck
import Derived.Test.YtiggohkkokalcaaSolve
namespace Go.Proofs.Ytiggohkkokalcaa
open Go.RowKit Go.Proofs.YtiggohkkokalcaaW.PrintWords Go.Proofs.YtiggohkkokalcaaW.PrintMore
set_option linter.unusedVariables false
set_option linter.unusedSimpArgs false

theorem rep1_any (k i : Nat) (cp : Addr) (w : World) (hk : k < 4) (hi : i < 16) (hc : w.cell? cp = some (.int .i64 k)) :
    Calls Try.prog 51 #[.int .i64 i, .pointer (some cp)] w fun e w' => e = .returned (.int .u8 (toI (fG k i))) ∧ Below w.heap.size w w' := by
  go_enter Try.func51, Try.ntmps51
  go_wp2_with (go_at_call 42; refine (factor_any k i _ hk hi).mono ?_; rintro e w' ⟨rfl, hB⟩)
  go_ret
  exact ⟨rfl, hB⟩

theorem idx_cell {W : World} {ok : Nat → Prop} {n c : Nat} {A : Option Addr} {l : List Nat} (h : Vi W ok (.slice A n c) (l.map fun i : Nat => (i : Int))) (i : Nat) (hi : i < l.length) :
    ∃ ad, A = some ad ∧ W.cell? (ad.add i) = some (.int .i64 ((l.getD i 0 : Nat) : Int)) ∧ ok ad.block := by
  obtain ⟨ad, h1, h2, h3⟩ := Vi_cell h i (by rw [List.length_map]; exact hi)
  rw [getD_cast] at h2
  exact ⟨ad, h1, h2, h3⟩
theorem Far.snoc {n m : Nat} {v vb vb1 u : Value} {vs bs : List Value} (h : Far n m v vs vb bs) (h1 : Ap2 v vb1) (h2 : ∀ r, r < n → Ap2 (vat vs r) u) (hl : bs.length = m) : Far n (m + 1) v vs vb1 (bs ++ [u]) := by
  refine ⟨h1, fun r s hr hs => ?_⟩
  by_cases e : s = m
  · subst hl; subst e; rw [vat_last]; exact h2 r hr
  · rw [vat_snoc _ _ _ (by omega)]; exact h.2 r s hr (by omega)
theorem blk_any (bss pss : List (List G)) (j L : Nat) (u vd : Value) (Wa Wb : World) (cp : Addr) (hj : j < 4) (h16 : bss.length ≤ 16) (hlen : (pss.getD j []).length = L) (hd : ∀ i, (bss.getD i []).length ≤ L)
    (HO : OwnB Wb Wa.heap.size u (pss.getD j [])) (HD : Vbb Wa (fun _ => True) vd bss) (hB : Below Wa.heap.size Wa Wb) (hc : Wa.cell? cp = some (.int .i64 j)) :
    Calls Try.prog 40 #[u, .func (.func 51) #[] #[.pointer (some cp)], vd] Wb fun e w' => e = .returned (.tuple #[]) ∧ OwnB w' Wa.heap.size u (blkG bss pss j) ∧ Below Wa.heap.size Wa w' := by
  have hcl := World.block_lt_of_cell? Wa cp hc
  refine (sum_any 51 cp (fun i => fG j i) bss (pss.getD j []) u vd Wb (own_less HO (Nat.zero_le _)) (Kd.V_mono (Kd.V_below (Kd.V_bound HD) hB) (fun k hk he => ?_)) (fun i => by rw [hlen]; exact hd i) callFunc51 (fun i hi W hg => rep1_any j i cp W hj (by omega) (hg.cell (pw_cell_below hB hc) (fun he => ?_)))).mono ?_
  · have h1 := (HO.lt k he.symm).1
    have h2 := hk.2
    omega
  · have h1 := (HO.lt _ he.symm).1
    omega
  · rintro e w' ⟨h1, h2, h3⟩
    exact ⟨h1, Kd.own_raise h3 (fun k hk => (HO.lt k hk).1), hB.trans (below_row h2 hB.size (fun k hk => (HO.lt k hk).1))⟩
theorem RepPost.bad {bss pss : List (List G)} {xs : List Int} {w w' : World} (h : chkErr bss pss xs ≠ 0) (hB : Below w.heap.size w w') :
    RepPost bss pss xs w (.returned (.tuple #[.slice none 0 0, .slice none 0 0, .int .i64 (chkErr bss pss xs)])) w' := ⟨hB, fun _ => rfl, fun h0 => absurd h0 h⟩
theorem RepPost.sum {bss pss : List (List G)} {xs : List Int} {w w' : World} {X : List (List G)} (h : chkErr bss pss xs = 0) (hS : Sols bss pss xs X) (hb : TailBad bss xs X ∨ SumBad bss pss xs X) (hB : Below w.heap.size w w') :
    RepPost bss pss xs w (.returned (.tuple #[.slice none 0 0, .slice none 0 0, .int .i64 18])) w' := ⟨hB, fun h0 => absurd h h0, fun _ => ⟨X, hS, fun _ => rfl, fun hn => absurd hb hn⟩⟩

set_option maxRecDepth 100000 in
set_option maxHeartbeats 8000000 in
theorem repair_any (bss pss : List (List G)) (xs : List Int) (vb vp vi : Value) (w : World) (HV : Vbb w (fun _ => True) vb bss) (HP : Vbb w (fun _ => True) vp pss) (HI : Vi w (fun _ => True) vi xs) :
    Calls Try.prog 29 #[vb, vp, vi] w fun e w' => RepPost bss pss xs w e w' := by
  obtain ⟨A, ca, rfl, hca, hma⟩ := V_open HV
  obtain ⟨B, cb, rfl, hcb, hmb⟩ := V_open HP
  obtain ⟨C, cc, rfl, hcc, hmc⟩ := V_open HI
  have HHV := Lib.hid (Kd.V_bound HV); have HHP := Lib.hid (Kd.V_bound HP); have HHI := Lib.hid (Kd.V_bound HI)
  have HCH := Lib.hid (check_any bss pss xs _ _ _ w HV HP HI)
  clear HV HP HI
  by_cases hE : chkErr bss pss xs = 0
  case neg =>
    have hEb : (chkErr bss pss xs != 0) = true := by rw [bne_iff_ne]; exact hE
    have HE := Lib.hid hE
    clear hE
    go_enter Try.func29, Try.ntmps29
    go_wp2_with (go_at_call 49; refine HCH.out.mono ?_; rintro e w1 ⟨⟨vl, vr, rfl, _⟩, hB1⟩; have HB1 := Lib.hid hB1; clear hB1)
    go_ret3
    exact RepPost.bad HE.out HB1.out
  have hok := (chk_iff bss pss xs).1 hE
  have HE := Lib.hid hE
  have HOK := Lib.hid hok
  have h16 := hok.h16
  have h4 := hok.h4
  clear hE hok
  go_enter Try.func29, Try.ntmps29
  go_wp2_with (first | (go_at_call 49; refine HCH.out.mono ?_; rintro e w1 ⟨⟨vl, vr, rfl, hp⟩, hB1⟩; have HB1 := Lib.hid hB1; have HP1 := Lib.hid (hp HE.out); have hE0 := HE.out; rw [hE0]; clear hB1 hp hE0) | ((with_reducible refine gate_dst (N := 42) rfl ?_); refine Kd.R_make KSl w1.heap.size 33 rfl (N := 42) rfl 30 _ _ rfl (bss.length : Int) rfl rfl Try.underlying30 (.slice none 0 0) 24 info33 rfl (by decide) (by omega) (none, 0, 0) (ok := fun _ => True) (okp := fun _ => True) rfl (fun _ hk => hk) trivial (by omega) (by omega) (Below.refl _ _) (Nat.le_refl _) ?_; intro vo w2 ho hb hg hnew))
  rw [Int.toNat_natCast] at ho
  have HOU := Lib.hid (Outs.made ho)
  have HB2 := Lib.hid hb
  have HW12 := Lib.hid hb.size
  obtain ⟨lost, hlo⟩ : ∃ l, l = lostN bss xs := ⟨_, rfl⟩
  obtain ⟨left, hle⟩ : ∃ l, l = leftN pss (lngTo xs bss.length) := ⟨_, rfl⟩
  have hV1 := HP1.out.1.V
  have hV2 := HP1.out.2.1.V
  rw [lostTo_lostN, ← hlo] at hV1
  rw [leftTo_leftN, ← hle] at hV2
  obtain ⟨Dl, cl, hvl, hcl, _⟩ := V_open hV1
  obtain ⟨De, ce, hvr, hce, _⟩ := V_open hV2
  rw [List.length_map] at hcl hce hvl hvr
  subst hvl hvr
  have HLO := Lib.hid (Kd.V_mono hV1 (fun _ _ => trivial) : Vi w1 (fun _ => True) _ _)
  have HLE := Lib.hid (Kd.V_mono hV2 (fun _ _ => trivial) : Vi w1 (fun _ => True) _ _)
  have HD := Lib.hid (Kd.V_mono (Kd.V_below HHV.out HB1.out) (fun _ _ => trivial) : Vbb w1 (fun _ => True) _ _)
  have HQ := Lib.hid (Kd.V_mono (Kd.V_below HHP.out HB1.out) (fun _ _ => trivial) : Vbb w1 (fun _ => True) _ _)
  have HS := Lib.hid (Kd.V_mono (Kd.V_below HHI.out HB1.out) (fun _ _ => trivial) : Vi w1 (fun _ => True) _ _)
  have hkk : lost.length ≤ left.length := by rw [hlo, hle]; exact HOK.out.few
  have hl16 : ∀ c, c < lost.length → lost.getD c 0 < bss.length := fun c hc => by rw [hlo] at hc ⊢; exact (lostN_at hc).1
  have hl4 : ∀ c, c < left.length → left.getD c 0 < pss.length := fun c hc => by rw [hle] at hc ⊢; exact (leftN_at hc).1
  have hlen : ∀ c, c < left.length → (pss.getD (left.getD c 0) []).length = lngN bss xs := fun c hc => by rw [hle] at hc ⊢; exact HOK.out.left hc
  have hk16 : lost.length ≤ 16 := by have := lostN_length bss xs; rw [← hlo] at this; omega
  have hk4 : left.length ≤ 4 := by have := leftN_length pss (lngTo xs bss.length); rw [← hle] at this; omega
  have hINJ : Inj lost.length (at2 (rowsG lost left lost.length)) := rows_inj lost left (by rw [hlo]; exact lostN_sorted _ _) (by rw [hle]; exact leftN_sorted _ _) (fun c hc => by have := hl16 c hc; omega) (fun c hc => by have := hl4 c hc; omega) hkk
  have HL := Lib.hid hlo; have HLF := Lib.hid hle; have HINJ := Lib.hid hINJ
  have HL16 := Lib.hid hl16; have HL4 := Lib.hid hl4; have HLEN := Lib.hid hlen
  clear ho HP1 hb hg hnew HHV HHP HHI HCH hV1 hV2 hlo hle hINJ hl16 hl4 hlen
  obtain ⟨Ao, co, rfl⟩ := HOU.out.slice
  go_wp2_with fail
  go_loopw [45] (fun i wr => ∃ (k : Nat) (vs : List Value) (R : List (List G)), i = .int .i64 k ∧ k ≤ bss.length ∧ Hid (Outs wr w1.heap.size bss.length (.slice Ao bss.length co) vs R) ∧ Hid (∀ r, r < k → rat R r = rat bss r) ∧ Hid (Below w1.heap.size w1 wr)) (fun i _ => bss.length - (intOf i).toNat)
  case atStart => exact ⟨0, _, _, rfl, Nat.zero_le _, HOU, Lib.hid (fun r hr => absurd hr (Nat.not_lt_zero _)), HB2⟩
  case round =>
    clear HOU
    obtain ⟨k, vs, R, rfl, hk, HO, HR, HB⟩ := hrel
    have hwr := HB.out.size
    by_cases hlt : k < bss.length
    · have HV1 := Kd.V_below HD.out HB.out
      obtain ⟨ad, A1, c1, rfl, hcell, HV2, _⟩ := Vbb_row HV1 k hlt
      have hlen := HOK.out.data k
      have hlng := HOK.out.lng.2
      obtain ⟨g, cap, he, hgB, hgl⟩ := HO.out.form (by omega)
      injection he with he1 _ he2
      subst he1 he2
      have HCL := Lib.hid (clone_any (bss.getD k []) _ wr _ HV2 (by omega))
      have hrb : bss.getD k [] = rat bss k := rfl
      rw [hrb] at hcell HCL
      clear HV1 HV2 hlen hlng hrb
      go_wp2_with (go_at_call 50; refine HCL.out.mono ?_; rintro e Wc ⟨u, rfl, hOc, hBc⟩; obtain ⟨Au, au, rfl, _, _⟩ := V_open hOc.V; obtain ⟨hc1, hf1⟩ := (HO.out.below hBc).cell k hlt; have HOC := Lib.hid hOc; have HBC := Lib.hid hBc; clear hOc hBc)
      have hst := (HO.out.below HBC.out).stored (i := k) hlt (Kd.V_mono HOC.out.V (fun q hq he => by injection he with he; have := (HOC.out.lt q hq.symm).1; omega))
      have hBB := HB.out.trans (HBC.out.mono hwr)
      refine ⟨⟨k + 1, _, _, by go_num, by omega, Lib.hid hst.1, Lib.hid (fun r hr => ?_), Lib.hid (hBB.trans (below_row hst.2 (Nat.le_trans hwr HBC.out.size) (fun q hq => by injection hq with hq; omega)))⟩, by simp [intOf]; omega⟩
      rw [rat_set _ _ _ _ (by rw [HO.out.lr]; exact hlt)]
      by_cases e : r = k
      · subst e; rw [if_pos rfl]
      · rw [if_neg e]; exact HR.out r (by omega)
    · obtain rfl : k = bss.length := by omega
      obtain rfl : R = bss := list_ext_getD [] HO.out.lr (fun i hi => HR.out i (by rw [← HO.out.lr]; exact hi))
      clear HR
      have hkc : (lost.length : Int) ≤ (ce : Int) := by omega
      have hkc2 : lost.length ≤ ce := by omega
      go_wp2_with fail
      obtain ⟨wo, rfl⟩ : ∃ wo : World, wo = wr := ⟨_, rfl⟩
      go_loopw [15, 16, 61] (fun vR vB i wr => ∃ (r : Nat) (ws bs : List Value), i = .int .i64 r ∧ r ≤ lost.length ∧ Hid (Mat wr wo.heap.size r vR ws (rowsG lost left r)) ∧ Hid (Mat wr wo.heap.size r vB bs (blksG R pss left r)) ∧ Hid (Far r r vR ws vB bs) ∧ Hid (Below wo.heap.size wo wr)) (fun _ _ i _ => lost.length - (intOf i).toNat)
      case atStart => exact ⟨0, [], [], rfl, Nat.zero_le _, Lib.hid (Mat.nil _ _), Lib.hid (Mat.nil _ _), Lib.hid ⟨.inl rfl, fun r s hr => absurd hr (Nat.not_lt_zero _)⟩, Lib.hid (Below.refl _ _)⟩
      case round =>
        obtain ⟨r, ws, bs, rfl, hr, HMR, HMB, HFA, HBL⟩ := hrel
        by_cases hlt2 : r < lost.length
        · have hwo := HBL.out.size
          have hB1r : Below w1.heap.size w1 wr := HB.out.trans (HBL.out.mono hwr)
          have hB1a : Below w1.heap.size w1 (wr.alloc (.cells #[.int .i64 ((left.getD r 0 : Nat) : Int)] 3)) := hB1r.alloc (Nat.le_trans hwr hwo) _
          have hBa : Below wr.heap.size wr (wr.alloc (.cells #[.int .i64 ((left.getD r 0 : Nat) : Int)] 3)) := below_alloc (Below.refl _ _) _
          have hca : (wr.alloc (.cells #[.int .i64 ((left.getD r 0 : Nat) : Int)] 3)).cell? ⟨wr.heap.size, 0, none⟩ = some (.int .i64 ((left.getD r 0 : Nat) : Int)) := World.cell?_alloc_new _ _ _ _
          obtain ⟨ad, rfl, hcell, _⟩ := idx_cell (Kd.V_below HLE.out hB1r) r (by omega)
          have hj4 := HL4.out r (by omega)
          have hjl := HLEN.out r (by omega)
          have hlng := HOK.out.lng.2
          obtain ⟨ad2, A2, c2, rfl, hcell2, HV2, _⟩ := Vbb_row (Kd.V_below HQ.out hB1a) (left.getD r 0) hj4
          have HCL := Lib.hid (clone_any (pss.getD (left.getD r 0) []) _ _ _ HV2 (by omega))
          have HBK := fun (u : Value) (Wb : World) (hO : OwnB Wb (wr.alloc (.cells #[.int .i64 ((left.getD r 0 : Nat) : Int)] 3)).heap.size u (pss.getD (left.getD r 0) [])) (hB : Below (wr.alloc (.cells #[.int .i64 ((left.getD r 0 : Nat) : Int)] 3)).heap.size (wr.alloc (.cells #[.int .i64 ((left.getD r 0 : Nat) : Int)] 3)) Wb) =>
            blk_any R pss (left.getD r 0) (lngN R xs) u _ _ Wb ⟨wr.heap.size, 0, none⟩ (by omega) h16 hjl (fun i => HOK.out.data i) hO (Kd.V_below HD.out hB1a) hB hca
          have HBK := Lib.hid HBK
          have HRS := Lib.hid (rowsG_succ lost left r (by omega))
          have HBS := Lib.hid (blksG_succ R pss left r (by omega))
          have HCA := Lib.hid hca
          have HB1R := Lib.hid hB1r
          have HBA := Lib.hid hBa
          have HJL := Lib.hid hjl
          rw [hjl] at hcell2 HCL
          clear HV2 hca hB1r hB1a hBa hjl hlng
          generalize left.getD r 0 = j at *
          generalize lngN R xs = L at *
          go_wp2_with (first | (go_at_call 50; refine HCL.out.mono ?_; rintro e Wb ⟨u, rfl, hOb, hBb⟩; have hbk := HBK.out _ _ hOb hBb; obtain ⟨Au, au, hu, _, _⟩ := V_open hOb.V; rw [HJL.out] at hu; subst hu; have HBK1 := Lib.hid hbk; clear hbk hOb hBb) | (go_at_call 40; refine HBK1.out.mono ?_; rintro e Wc ⟨rfl, hOc, hBc⟩; have HOC := Lib.hid hOc; have HBC := Lib.hid hBc; clear hOc hBc; have HRC := Lib.hid (HBA.out.trans (HBC.out.mono (by rw [World.size_alloc]; omega))); have HMR1 := Lib.hid (HMR.out.below HRC.out); have HMB1 := Lib.hid (HMB.out.below HRC.out); have HBL1 := Lib.hid (HBL.out.trans (HRC.out.mono hwo)); have HU := Lib.hid (own_less HOC.out (by rw [World.size_alloc]; omega) : OwnB Wc wo.heap.size _ _); have HAP1 : Hid (∀ q, q < r → Ap2 (vat bs q) (.slice Au L au)) := Lib.hid (fun q hq => (Ap2_fresh (m := wr.heap.size) (fun k hk => by have := (HOC.out.lt k hk).1; rw [World.size_alloc] at this; omega) (fun k hk => ((HMB.out.row q hq).lt k hk).2)).symm); have HAP2 : Hid (∀ q, q < r → Ap2 (vat ws q) (.slice Au L au)) := Lib.hid (fun q hq => (Ap2_fresh (m := wr.heap.size) (fun k hk => by have := (HOC.out.lt k hk).1; rw [World.size_alloc] at this; omega) (fun k hk => ((HMR.out.row q hq).lt k hk).2)).symm)) | ((with_reducible refine gate_builtin (b := .append) (xs := #[.tmp 74, .tmp 76]) rfl ?_); at_builtin; refine app_mat (w0 := wo) wo.heap.size r rfl (.tmp 74) (.tmp 76) rfl _ (.slice Au L au) bs (blksG R pss left r) (blkG R pss j) rfl rfl HMB1.out HU.out HAP1.out HBL1.out HBL1.out.size (by omega) ?_; intro v3 w3 hM3 hB3 hg3 hat3))
          rw [← HBS.out] at hM3
          have HMB3 := Lib.hid hM3
          have HMR3 := Lib.hid (HMR1.out.grown hg3 HFA.out.1 (fun q hq => Ap2.symm (HMB1.out.outer (HMR1.out.row q hq))))
          have HFA3 := Lib.hid (HFA.out.snoc (Ap2.symm (Ap2_new hat3 HFA.out.1.symm (fun k hk => (World.ownsRow.lt HMR1.out.own k hk).2) (fun h => hat3.elim (fun h1 => .inl (h1.trans h)) .inr))) HAP2.out HMB.out.lv)
          have HCA3 := Lib.hid (hg3.cell (pw_cell_below HBC.out HCA.out) (fun he => absurd (World.ownsRow.lt HMB.out.own _ he.symm).2 (Nat.lt_irrefl _)))
          have HBL3 := Lib.hid hB3
          have hlt3 : wr.heap.size < w3.heap.size := World.block_lt_of_cell? w3 _ HCA3.out
          clear hM3 hB3 hg3 hat3 HBS HBK HBK1 HCL HBA HBC HOC HRC HMR1 HMB1 HBL1 HU HAP1 HAP2 HMR HMB HFA HBL HCA hcell hcell2 HJL
          have hw3 := HBL3.out.size
          go_loopw [20, 80] (fun u q wq => ∃ c : Nat, q = .int .i64 c ∧ c ≤ lost.length ∧ Hid (OwnB wq w3.heap.size u ((lost.take c).map (fun i => fG j i))) ∧ Hid (Below w3.heap.size w3 wq)) (fun _ q _ => lost.length - (intOf q).toNat)
          case atStart => exact ⟨0, rfl, Nat.zero_le _, Lib.hid (World.ownsRow_nil _ _ _ _), Lib.hid (Below.refl _ _)⟩
          case round =>
            obtain ⟨c, rfl, hc, HO3, HBQ⟩ := hrel
            have hwq := HBQ.out.size
            by_cases hlt4 : c < lost.length
            · have hca := pw_cell_below HBQ.out HCA3.out
              obtain ⟨ad3, rfl, hcell, _⟩ := idx_cell (Kd.V_below HLO.out (HB.out.trans ((HBL3.out.mono hwr).trans (HBQ.out.mono (by omega))))) c hlt4
              have hi16 := HL16.out c hlt4
              have HTS := Lib.hid (take_snoc lost c hlt4)
              have HTL := Lib.hid (show ((lost.take c).map (fun i => fG j i)).length ≤ 70000 by rw [List.length_map, List.length_take]; omega)
              generalize lost.getD c 0 = i at *
              go_wp2_with (first | (go_at_call 42; refine (factor_any j i _ (by omega) (by omega)).mono ?_; rintro e Wf ⟨rfl, hBf⟩; have HBF := Lib.hid hBf; clear hBf) | ((with_reducible refine gate_builtin (b := .append) (xs := #[.tmp 84, .tmp 88]) rfl ?_); at_builtin; refine app_own (w0 := w3) w3.heap.size rfl (.tmp 84) (.tmp 88) rfl _ ((lost.take c).map (fun i => fG j i)) (fG j i) rfl rfl (HO3.out.below HBF.out) (HBQ.out.trans (HBF.out.mono hwq)) (Nat.le_trans hwq HBF.out.size) HTL.out ?_; intro v4 w4 hO4 hB4 hg4 hat4))
              refine ⟨⟨c + 1, by go_num, by omega, Lib.hid (by rw [HTS.out, List.map_append]; exact hO4), Lib.hid hB4⟩, by simp [intOf]; omega⟩
            · obtain rfl : c = lost.length := by omega
              have hO4 := HO3.out
              rw [List.take_length] at hO4
              obtain ⟨Ar, ar, hu, _, _⟩ := V_open hO4.V
              rw [List.length_map] at hu
              subst hu
              have HMR4 := Lib.hid (HMR3.out.below HBQ.out)
              have HMB4 := Lib.hid (HMB3.out.below HBQ.out)
              have HBL4 := Lib.hid (HBL3.out.trans (HBQ.out.mono hw3))
              have HU := Lib.hid (own_less hO4 (by omega) : OwnB wr wo.heap.size _ (rowG lost j))
              have HAP1 : Hid (∀ q, q < r → Ap2 (vat ws q) (.slice Ar lost.length ar)) := Lib.hid (fun q hq => (Ap2_fresh (m := w3.heap.size) (fun k hk => (hO4.lt k hk).1) (fun k hk => ((HMR3.out.row q hq).lt k hk).2)).symm)
              have HAP2 : Hid (∀ q, q < r + 1 → Ap2 (vat (bs ++ [.slice Au L au]) q) (.slice Ar lost.length ar)) := Lib.hid (fun q hq => (Ap2_fresh (m := w3.heap.size) (fun k hk => (hO4.lt k hk).1) (fun k hk => ((HMB3.out.row q hq).lt k hk).2)).symm)
              clear hO4 HO3
              go_wp2_with ((with_reducible refine gate_builtin (b := .append) (xs := #[.tmp 91, .tmp 93]) rfl ?_); at_builtin; refine app_mat (w0 := wo) wo.heap.size r rfl (.tmp 91) (.tmp 93) rfl _ (.slice Ar lost.length ar) ws (rowsG lost left r) (rowG lost j) rfl rfl HMR4.out HU.out HAP1.out HBL4.out HBL4.out.size (by omega) ?_; intro v5 w5 hM5 hB5 hg5 hat5)
              rw [← HRS.out] at hM5
              refine ⟨⟨r + 1, _, _, by go_num, by omega, Lib.hid hM5, Lib.hid (HMB4.out.grown hg5 HFA3.out.1.symm (fun q hq => Ap2.symm (HMR4.out.outer (HMB4.out.row q hq)))), Lib.hid (Far.symm (HFA3.out.symm.snoc (Ap2.symm (Ap2_new hat5 HFA3.out.1 (fun k hk => (World.ownsRow.lt HMB4.out.own k hk).2) (fun h => hat5.elim (fun h1 => .inl (h1.trans h)) .inr))) HAP2.out HMR4.out.lv)), Lib.hid hB5⟩, by simp [intOf]; omega⟩
        · obtain rfl : r = lost.length := by omega
          have hlen := HOK.out.lng
          have HLN := Lib.hid (fun q (hq : q < lost.length) => HLEN.out q (Nat.lt_of_lt_of_le hq hkk))
          have hSOL := solve_any lost.length (lngN R xs) wo.heap.size (rowsG lost left lost.length) (blksG R pss left lost.length) u15 u16 ws bs wr (by omega) hlen.2 HBL.out.size HMR.out HMB.out HFA.out
            (fun q hq => by rw [rowsG_getD _ _ _ _ hkk hq]; unfold rowG; rw [List.length_map])
            (fun q hq => by rw [blksG_getD _ _ _ _ _ hkk hq]; unfold blkG; rw [sumG_length]; exact HLN.out q hq) HINJ.out
          have HSO := Lib.hid hSOL
          clear hSOL hlen
          go_wp2_with (go_at_call 52; refine HSO.out.mono ?_; rintro e w4 ⟨rfl, vs', bs', R4, X, hMR4, hMB4, hFA4, hEQ, hUN, hB4⟩; have HMX := Lib.hid hMB4; have HEQ := Lib.hid hEQ; have HUN := Lib.hid hUN; have HB4 := Lib.hid (HBL.out.trans hB4); clear hMR4 hMB4 hFA4 hEQ hUN hB4)
          have hS : Sols R pss xs X := by unfold Sols; rw [← HL.out, ← HLF.out]; exact ⟨HEQ.out.lb, HEQ.out.wb, fun p hp => unit_done HEQ.out HUN.out p hp⟩
          have HSX := Lib.hid hS
          have HXL := Lib.hid (fun q (hq : q < lost.length) => (show (rat X q).length = lngN R xs from HEQ.out.wb q hq))
          have HO4 := Lib.hid (HO.out.below HB4.out)
          have HGO := Lib.hid (fun q hq => (HO.out.lt q hq).2)
          have HB14 := Lib.hid (HB.out.trans (HB4.out.mono hwr))
          have hw4 := HB4.out.size
          clear hS HEQ HUN HO HB HMR HMB HFA HSO HINJ HLN HB4
          go_loopw [101] (fun i wq => ∃ (r : Nat) (us : List Value), i = .int .i64 r ∧ r ≤ lost.length ∧ Hid (Outs wq w1.heap.size R.length (.slice Ao R.length co) us (outTo R xs X lost r)) ∧ Hid (Mat wq wo.heap.size lost.length u16 bs' X) ∧ Hid (∀ c, c < r → notZero ((X.getD c []).drop (sizeAt xs lost c)) = false) ∧ Hid (Below w1.heap.size w1 wq)) (fun i _ => lost.length - (intOf i).toNat)
          case atStart => exact ⟨0, vs, rfl, Nat.zero_le _, HO4, HMX, Lib.hid (fun c hc => absurd hc (Nat.not_lt_zero _)), HB14⟩
          case round =>
            clear HO4 HMX HB14
            obtain ⟨r, us, rfl, hr, HO, HM, HZ, HB⟩ := hrel
            by_cases hlt3 : r < lost.length
            · have hi16 := HL16.out r hlt3
              have hsz := HOK.out.sizeN (lost.getD r 0) hi16
              obtain ⟨ad, rfl, hcellL, _⟩ := idx_cell (Kd.V_below HLO.out HB.out) r hlt3
              obtain ⟨ad2, rfl, hcellS, _⟩ := Vi_cell (Kd.V_below HS.out HB.out) (lost.getD r 0) (by rw [HOK.out.hx]; exact hi16)
              rw [hsz.1] at hcellS
              have hzl := hsz.2
              have hcellL' := hcellL
              have hse : sizeAt xs lost r = (xs.getD (lost.getD r 0) 0).toNat := rfl
              rw [← hse] at hcellS hzl
              obtain ⟨gb, capb, he, hgbB, hgbl⟩ := HM.out.form (by omega)
              subst he
              obtain ⟨hcellB, _⟩ := HM.out.cell r hlt3
              obtain ⟨Br, br, hvb, hbr, _⟩ := V_open (HM.out.row r hlt3).V
              rw [HXL.out r hlt3] at hvb hbr
              rw [hvb] at hcellB
              have HVB := Lib.hid hvb
              have HSE := Lib.hid hse
              clear hvb hse hsz
              generalize hzz : sizeAt xs lost r = z at *
              have HSE2 := Lib.hid hzz
              clear hzz
              generalize lngN R xs = L at *
              generalize hii : lost.getD r 0 = i at *
              have HII := Lib.hid hii
              clear hii
              have hix : i < xs.length := by rw [HOK.out.hx]; exact hi16
              have hzi : (z : Int) ≤ (L : Int) := by omega
              have hzb : (z : Int) ≤ (br : Int) := by omega
              have hzb2 : z ≤ br := by omega
              obtain ⟨A9, hcut, hVcut⟩ := run_drop Br L br z hzl hbr
              obtain ⟨htake, hVtake⟩ := run_take Br L br z hzl hbr
              have HVC := Lib.hid hVcut
              have HVT := Lib.hid hVtake
              have HTK := Lib.hid htake
              have hVX := (HM.out.row r hlt3).V
              rw [HVB.out] at hVX
              have HCT := Lib.hid (fun (W : World) (h : Vb W (fun _ => True) (.slice Br L br) (rat X r)) => containsB_any ((rat X r).drop z) (.slice A9 (L - z) (br - z)) W (fun _ => True) (HVC.out W _ _ h))
              have HVX := Lib.hid hVX
              have HOB := Lib.hid (HOK.out)
              clear hVcut hVtake htake hVX
              go_wp2_with fail
              cases hz : notZero ((rat X r).drop z)
              case true =>
                go_region_with (go_at_call 53; refine (HCT.out _ (Kd.V_drew (Kd.V_mono HVX.out (fun _ _ => trivial)))).mono ?_; rintro e W ⟨rfl, rfl⟩)
                all_goals go_wp2_with fail
                all_goals
                  go_ret3
                  refine RepPost.sum HE.out HSX.out (.inl ⟨r, by rw [← HL.out]; exact hlt3, ?_⟩) (HB1.out.trans (HB.out.drew.mono HB1.out.size))
                  rw [← HL.out, HSE2.out]
                  exact hz
              case false =>
                go_region_with (go_at_call 53; refine (HCT.out _ (Kd.V_drew (Kd.V_mono HVX.out (fun _ _ => trivial)))).mono ?_; rintro e W ⟨rfl, rfl⟩)
                all_goals
                  obtain ⟨g, cap, he, hgB, hgl⟩ := HO.out.drew.form (by omega)
                  injection he with he1 _ he2
                  subst he1 he2
                  obtain ⟨hcO, hfO⟩ := HO.out.cell i hi16
                  have hTK := HTK.out
                  have hst := HO.out.drew.drew.stored (i := i) (u := .slice Br z br) (x := (rat X r).take z) hi16 (Kd.V_mono (HVT.out _ _ _ (Kd.V_drew (Kd.V_drew HVX.out))) (fun q hq he => by injection he with he; have h1 := (HM.out.block hlt3 q (by rw [HVB.out]; exact hq.symm)); have h2 := HGO.out g rfl; omega))
                  have HST := Lib.hid hst
                  clear hst
                  go_wp2_with fail
                  go_region
                  all_goals go_wp2_with fail
                  all_goals
                    have hG := HST.out.2
                    refine ⟨⟨r + 1, us.set i (.slice Br z br), by go_num, by omega, Lib.hid ?_, Lib.hid (HM.out.drew.drew.grown hG (.inr (fun he => ?_)) (fun q hq => ?_)), Lib.hid (fun c hc => ?_), Lib.hid (HB.out.drew.drew.trans (below_row hG HB.out.size (fun q hq => by injection hq with hq; omega)))⟩, by simp [intOf]; omega⟩
                    · show Outs _ _ _ _ _ ((outTo R xs X lost r).set (lost.getD r 0) ((X.getD r []).take (sizeAt xs lost r)))
                      rw [HII.out, HSE2.out]
                      exact HST.out.1
                    · have hee : gb = g := by injection he
                      have h9 : wo.heap.size ≤ gb := hgbB
                      have h10 : g < wo.heap.size := HGO.out g rfl
                      exact absurd hee (by omega)
                    · refine .inr (fun he => ?_)
                      have h1 := HM.out.block hq g he
                      have := HGO.out g rfl
                      omega
                    · by_cases e : c = r
                      · subst e; rw [HSE2.out]; exact hz
                      · exact HZ.out c (by omega)
            · obtain rfl : r = lost.length := by omega
              have hmk := outTo_make R xs X lost (lngN R xs) pss.length (fun i => HOK.out.data i) (fun c hc => by have := HXL.out c hc; unfold rat at this; omega) HOK.out.lng.2 h4 h16
              have HY := Lib.hid (show outG R xs X = outTo R xs X lost lost.length by unfold outG; rw [← HL.out])
              have hVY := HO.out.V (by omega)
              have HVY := Lib.hid hVY
              have HMK := Lib.hid (make_any (outTo R xs X lost lost.length) pss.length _ wr hVY)
              have HME := Lib.hid hmk
              have hTB : ¬ TailBad R xs X := by
                rintro ⟨c, hc, hb⟩
                rw [← HL.out] at hc hb
                rw [HZ.out c hc] at hb
                cases hb
              have HTB := Lib.hid hTB
              clear hmk hTB hVY HO HM HZ
              generalize outTo R xs X lost lost.length = Y at *
              go_wp2_with (go_at_call 18; refine HMK.out.mono ?_; rintro e w5 ⟨vm, rfl, hvm, hB5⟩; have HVM := Lib.hid hvm; have HB5 := Lib.hid hB5; have hme := HME.out.1; rw [hme]; clear hvm hB5 hme)
              have hvm := HVM.out
              rw [HME.out.2] at hvm
              obtain ⟨Am, am, hvme, _, _⟩ := V_open hvm
              rw [makeG_length] at hvme
              subst hvme
              have HVM5 := Lib.hid hvm
              have HVY5 := Lib.hid (Kd.V_below HVY.out HB5.out)
              have HB15 := Lib.hid (HB.out.trans (HB5.out.mono HB.out.size))
              clear hvm HVM HVY HMK HME HB HB5
              go_wp2_with fail
              go_loopw [138] (fun i wq => ∃ c nq : Nat, i = .int .i64 c ∧ c ≤ left.length ∧ wq = w5.drewN nq ∧ Hid (∀ q, q < c → (makeG Y pss.length).getD (left.getD q 0) [] = pss.getD (left.getD q 0) [])) (fun i _ => left.length - (intOf i).toNat)
              case atStart => exact ⟨0, 0, rfl, Nat.zero_le _, rfl, Lib.hid (fun q hq => absurd hq (Nat.not_lt_zero _))⟩
              case round =>
                obtain ⟨c, nq, rfl, hc, rfl, HEQ⟩ := hrel
                have hBN : Below w1.heap.size w1 (w5.drewN nq) := below_drewN HB15.out nq
                by_cases hlt5 : c < left.length
                · have hj4 := HL4.out c hlt5
                  obtain ⟨ad, rfl, hcell, _⟩ := idx_cell (Kd.V_below HLE.out HB15.out) c hlt5
                  obtain ⟨ad2, A2, c2, rfl, hcell2, HV2, _⟩ := Vbb_row (Kd.V_below HQ.out HB15.out) (left.getD c 0) hj4
                  obtain ⟨ad3, A3, c3, rfl, hcell3, HV3, _⟩ := Vbb_row HVM5.out (left.getD c 0) (by rw [makeG_length]; exact hj4)
                  have HEQL := Lib.hid (equal_any _ _ _ _ (w5.drewN nq).drew _ _ (Kd.V_drew (Kd.V_drewN HV3 nq)) (Kd.V_drew (Kd.V_drewN HV2 nq)))
                  have HBN := Lib.hid hBN
                  have HHE := Lib.hid (show (makeG Y pss.length).getD (left.getD c 0) [] = (makeG Y pss.length).getD (left.getD c 0) [] ∧ pss.getD (left.getD c 0) [] = pss.getD (left.getD c 0) [] from ⟨rfl, rfl⟩)
                  generalize hg1 : (makeG Y pss.length).getD (left.getD c 0) [] = g1 at *
                  generalize hg2 : pss.getD (left.getD c 0) [] = g2 at *
                  have HG1 := Lib.hid hg1
                  have HG2 := Lib.hid hg2
                  clear HV2 HV3 hBN hg1 hg2
                  generalize hjj : left.getD c 0 = j at *
                  have HJJ := Lib.hid hjj
                  clear hjj
                  by_cases hgg : g1 = g2
                  · have hgb : decide (g1 = g2) = true := decide_eq_true hgg
                    have HGG := Lib.hid hgg
                    clear hgg
                    go_wp2_with fail
                    go_region_with (go_at_call 55; refine HEQL.out.mono ?_; rintro e W ⟨rfl, nq2, rfl⟩)
                    all_goals go_wp2_with fail
                    all_goals
                      refine ⟨⟨c + 1, nq + 1 + nq2, by go_num, by omega, rfl, Lib.hid (fun q hq => ?_)⟩, by simp [intOf]; omega⟩
                      by_cases e : q = c
                      · subst e; rw [HJJ.out, HG1.out, HG2.out, HGG.out]
                      · exact HEQ.out q (by omega)
                  · have hgb : decide (g1 = g2) = false := decide_eq_false hgg
                    have HGG := Lib.hid hgg
                    clear hgg
                    go_wp2_with fail
                    go_region_with (go_at_call 55; refine HEQL.out.mono ?_; rintro e W ⟨rfl, nq2, rfl⟩)
                    all_goals go_wp2_with fail
                    all_goals
                      go_ret3
                      refine RepPost.sum HE.out HSX.out (.inr ⟨c, by rw [← HLF.out]; exact hlt5, ?_⟩) (HB1.out.trans ((below_drewN HB15.out (nq + 1 + nq2)).mono HB1.out.size))
                      rw [← HLF.out, HY.out, HJJ.out, HG1.out, HG2.out]
                      exact HGG.out
                · obtain rfl : c = left.length := by omega
                  go_wp2_with fail
                  go_ret3
                  have hSB : ¬ SumBad R pss xs X := by
                    rintro ⟨c, hc, hb⟩
                    rw [← HLF.out] at hc hb
                    rw [HY.out] at hb
                    exact hb (HEQ.out c hc)
                  refine ⟨HB1.out.trans (hBN.mono HB1.out.size), fun h => absurd HE.out h, fun _ => ⟨X, HSX.out, fun hb => hb.elim (fun h => absurd h HTB.out) (fun h => absurd h hSB), fun _ => ⟨.slice Ao R.length co, .slice Am pss.length am, rfl, ?_, ?_⟩⟩⟩
                  · rw [HY.out]; exact Kd.V_drewN HVY5.out nq
                  · rw [HY.out]; exact Kd.V_drewN HVM5.out nq
end Go.Proofs.Ytiggohkkokalcaa
