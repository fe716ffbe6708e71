/- The walk of ParityLinear: it returns true. -/
import Derived.Test.YtiggohkkokalcaaGen
import Derived.Test.YtiggohkkokalcaaLives
import Derived.Test.YtiggohkkokalcaaLinPlain
import Derived.Test.YtiggohkkokalcaaApart
import Derived.Deep.QuietTactic
import Derived.BigQuiet
import Derived.Deep.RegionHeld3
namespace Go.Proofs.Ytiggohkkokalcaa
open Go.RowKit Go.Proofs.YtiggohkkokalcaaW.PrintWords Go.Proofs.YtiggohkkokalcaaW.PrintMore
set_option linter.unusedVariables false

theorem xbyte (b c : G) (q : Nat) : IntKind.u8.wrap (toI b * 7 + (q : Int) + toI c) = toI (BitVec.ofNat 8 (b.toNat * 7 + q + c.toNat)) := by
  have := ofNat_toI (b.toNat * 7 + q + c.toNat)
  rw [← this]
  simp only [toI]
  congr 1
theorem small_at {bss : List (List G)} (h : Small bss) (i : Nat) : (bss.getD i []).length ≤ 12 := by
  by_cases hi : i < bss.length
  · rw [List.getD_eq_getElem?_getD, List.getElem?_eq_getElem hi]
    exact h.2 _ (List.getElem_mem hi)
  · rw [getD_over _ _ _ (by omega)]; simp
set_option maxRecDepth 100000 in
set_option maxHeartbeats 8000000 in
theorem linear_walk (xs : List Int) (v : Value) (n : Int) (c : G) (w : World) (HV : Vi w (fun _ => True) v xs) :
    Calls Try.prog 5 #[v, .int .i64 n, .int .u8 (toI c)] w fun e w' => e = .returned (.bool true) ∧ Below w.heap.size w w' := by
  obtain ⟨A, ca, rfl, hc, hm⟩ := V_open HV
  have HHV := Lib.hid HV
  have hf4 := fewN_le n
  obtain ⟨hc0, hc1⟩ := toI_rng c
  clear HV
  go_enter Try.func5, Try.ntmps5
  go_wp2_with fail
  refine (blocks_any xs _ w HHV.out).mono ?_
  rintro e w1 ⟨u, bss, rfl, hD, hS, hB⟩
  obtain ⟨Ad, cd, rfl, hcd, _⟩ := V_open hD
  have HD := Lib.hid (Kd.V_bound hD)
  have HB0 := Lib.hid hB
  have HS := Lib.hid hS
  have h7 := hS.1
  clear hD hB hS HHV
  go_wp2_with fail
  go_loopw [8, 9, 10, 11] (fun a8 a9 a10 i wr => ∃ (k : Nat) (O S T : List (List G)), i = .int .i64 k ∧ k ≤ bss.length ∧ Hid (LinOK c bss k O S T) ∧ O.length ≤ 7 ∧ S.length ≤ 7 ∧ T.length ≤ 7 ∧ Hid (Kd.N KGs 33 wr w1.heap.size (Ap [a9, a10]) a8 O) ∧ Hid (Kd.N KGs 33 wr w1.heap.size (Ap [a8, a10]) a9 S) ∧ Hid (Kd.N KGs 33 wr w1.heap.size (Ap [a8, a9]) a10 T) ∧ Hid (Below w1.heap.size w1 wr)) (fun _ _ _ i _ => bss.length - (intOf i).toNat)
  case atStart => exact ⟨0, [], [], [], rfl, Nat.zero_le _, Lib.hid (LinOK.start _ _), by simp, by simp, by simp, Lib.hid (Kd.N_nil _ _ _ _ _), Lib.hid (Kd.N_nil _ _ _ _ _), Lib.hid (Kd.N_nil _ _ _ _ _), Lib.hid (Below.refl _ _)⟩
  case round =>
    obtain ⟨i, O, S, T, rfl, hi, HL, hO7, hS7, hT7, H8, H9, H10, HB⟩ := hrel
    by_cases hlt : i < bss.length
    · have h12 := small_at HS.out i
      have HX : Hid (∀ b, b = bss.getD i [] → ∀ o s t, RowOK c b b.length o s t → LinOK c bss (i + 1) (O ++ [o]) (S ++ [s]) (T ++ [t])) := Lib.hid (fun b hb o s t hr => by rw [hb] at hr; exact HL.out.step hr)
      obtain ⟨b, hb⟩ : ∃ b, b = bss.getD i [] := ⟨_, rfl⟩
      rw [← hb] at h12
      have HXX := Lib.hid (HX.out b hb)
      have HHb := Lib.hid hb
      clear hb HX
      go_wp2_with fail
      go_loopw [12, 13, 14, 15] (fun a12 a13 a14 j wr => ∃ (q : Nat) (o s t : List G), j = .int .i64 q ∧ q ≤ b.length ∧ Hid (RowOK c b q o s t) ∧ o.length ≤ 12 ∧ s.length ≤ 12 ∧ t.length ≤ 12 ∧ Hid (Kd.N KG 5 wr w1.heap.size (Ap [a13, a14, u8, u9, u10]) a12 o) ∧ Hid (Kd.N KG 5 wr w1.heap.size (Ap [a12, a14, u8, u9, u10]) a13 s) ∧ Hid (Kd.N KG 5 wr w1.heap.size (Ap [a12, a13, u8, u9, u10]) a14 t) ∧ Hid (Kd.N KGs 33 wr w1.heap.size (Ap [a12, a13, a14, u9, u10]) u8 O) ∧ Hid (Kd.N KGs 33 wr w1.heap.size (Ap [a12, a13, a14, u8, u10]) u9 S) ∧ Hid (Kd.N KGs 33 wr w1.heap.size (Ap [a12, a13, a14, u8, u9]) u10 T) ∧ Hid (Below w1.heap.size w1 wr)) (fun _ _ _ j _ => b.length - (intOf j).toNat)
      case atStart => exact ⟨0, [], [], [], rfl, Nat.zero_le _, Lib.hid (RowOK.start _ _), by simp, by simp, by simp, Lib.hid (Kd.N_nil _ _ _ _ _), Lib.hid (Kd.N_nil _ _ _ _ _), Lib.hid (Kd.N_nil _ _ _ _ _), Lib.hid (N_sub H8.out (by simp [own_none])), Lib.hid (N_sub H9.out (by simp [own_none])), Lib.hid (N_sub H10.out (by simp [own_none])), HB⟩
      case round =>
        clear H8 H9 H10 HB
        obtain ⟨q, o, s, t, rfl, hq, HR, ho12, hs12, ht12, H12, H13, H14, H8, H9, H10, HB⟩ := hrel
        obtain ⟨ad, A1, c1, rfl, hcell, hV3, hadb⟩ := Vbb_row HD.out i hlt
        rw [← HHb.out] at hcell hV3
        have HCA := Lib.hid hcell
        have hcA := pw_cell_below HB.out hcell
        clear hcell
        by_cases hlq : q < b.length
        · obtain ⟨ad2, rfl, hc2, hadb2⟩ := Vb_cell hV3 q hlq
          have HSt : Hid (∀ g, RowOK c b (q + 1) (o ++ [g]) (s ++ [g ^^^ b.getD q 0]) (t ++ [gm c (b.getD q 0)])) := Lib.hid (fun g => HR.out.step g)
          clear HR hV3
          generalize b.getD q 0 = bq at *
          have hx := xbyte bq c q
          generalize BitVec.ofNat 8 (bq.toNat * 7 + q + c.toNat) = g at *
          have hxor := toI_xor g bq
          obtain ⟨hb0, hb1⟩ := toI_rng bq
          have HCB := Lib.hid hc2
          have hcB := pw_cell_below HB.out hc2
          clear hc2
          go_wp2_with (first | ((with_reducible refine gate_builtin (b := .append) (xs := #[.tmp 59, .tmp 61]) rfl ?_); at_builtin; refine app_byte (w0 := w1) w1.heap.size rfl (.tmp 59) (.tmp 61) rfl u12 o (g) [u13, u14, u8, u9, u10] rfl rfl H12.out (Lt.N H13.out (Lt.N H14.out (Lt.N H8.out (Lt.N H9.out (Lt.N H10.out (Lt.nil _)))))) HB.out HB.out.size (by omega) ?_; intro y12 W hN hB hg hat; have n13 := Lib.hid (N_upd (us' := [y12, u14, u8, u9, u10]) H13.out (by simp) hg hat (by simp)); have n14 := Lib.hid (N_upd (us' := [y12, u13, u8, u9, u10]) H14.out (by simp) hg hat (by simp)); have n8 := Lib.hid (N_upd (us' := [y12, u13, u14, u9, u10]) H8.out (by simp) hg hat (by simp)); have n9 := Lib.hid (N_upd (us' := [y12, u13, u14, u8, u10]) H9.out (by simp) hg hat (by simp)); have n10 := Lib.hid (N_upd (us' := [y12, u13, u14, u8, u9]) H10.out (by simp) hg hat (by simp)); clear H12 H13 H14 H8 H9 H10 HB; have HB := Lib.hid hB; have H12 := Lib.hid hN; have H13 := n13; have H14 := n14; have H8 := n8; have H9 := n9; have H10 := n10; clear hg hat hB hN n13 n14 n8 n9 n10; clear hcA hcB; have hcA := pw_cell_below HB.out HCA.out; have hcB := pw_cell_below HB.out HCB.out) | ((with_reducible refine gate_builtin (b := .append) (xs := #[.tmp 63, .tmp 73]) rfl ?_); at_builtin; refine app_byte (w0 := w1) w1.heap.size rfl (.tmp 63) (.tmp 73) rfl u13 s (g ^^^ bq) [y12, u14, u8, u9, u10] rfl rfl H13.out (Lt.N H12.out (Lt.N H14.out (Lt.N H8.out (Lt.N H9.out (Lt.N H10.out (Lt.nil _)))))) HB.out HB.out.size (by omega) ?_; intro y13 W hN hB hg hat; have n12 := Lib.hid (N_upd (us' := [y13, u14, u8, u9, u10]) H12.out (by simp) hg hat (by simp)); have n14 := Lib.hid (N_upd (us' := [y12, y13, u8, u9, u10]) H14.out (by simp) hg hat (by simp)); have n8 := Lib.hid (N_upd (us' := [y12, y13, u14, u9, u10]) H8.out (by simp) hg hat (by simp)); have n9 := Lib.hid (N_upd (us' := [y12, y13, u14, u8, u10]) H9.out (by simp) hg hat (by simp)); have n10 := Lib.hid (N_upd (us' := [y12, y13, u14, u8, u9]) H10.out (by simp) hg hat (by simp)); clear H12 H13 H14 H8 H9 H10 HB; have HB := Lib.hid hB; have H13 := Lib.hid hN; have H12 := n12; have H14 := n14; have H8 := n8; have H9 := n9; have H10 := n10; clear hg hat hB hN n12 n14 n8 n9 n10; clear hcA hcB; have hcA := pw_cell_below HB.out HCA.out; have hcB := pw_cell_below HB.out HCB.out) | (go_at_call 11; refine (mul_any _ _ _).mono ?_; rintro e W ⟨rfl, hBm⟩; have n12 := Lib.hid (Kd.N_below H12.out hBm); have n13 := Lib.hid (Kd.N_below H13.out hBm); have n14 := Lib.hid (Kd.N_below H14.out hBm); have n8 := Lib.hid (Kd.N_below H8.out hBm); have n9 := Lib.hid (Kd.N_below H9.out hBm); have n10 := Lib.hid (Kd.N_below H10.out hBm); have nB := Lib.hid (below_tr HB.out hBm); clear hBm HB H12 H13 H14 H8 H9 H10; have H12 := n12; have H13 := n13; have H14 := n14; have H8 := n8; have H9 := n9; have H10 := n10; have HB := nB; clear nB n12 n13 n14 n8 n9 n10; clear hcA hcB; have hcA := pw_cell_below HB.out HCA.out; have hcB := pw_cell_below HB.out HCB.out) | ((with_reducible refine gate_builtin (b := .append) (xs := #[.tmp 75, .tmp 85]) rfl ?_); at_builtin; refine app_byte (w0 := w1) w1.heap.size rfl (.tmp 75) (.tmp 85) rfl u14 t (gm c bq) [y12, y13, u8, u9, u10] rfl rfl H14.out (Lt.N H12.out (Lt.N H13.out (Lt.N H8.out (Lt.N H9.out (Lt.N H10.out (Lt.nil _)))))) HB.out HB.out.size (by omega) ?_; intro y14 W hN hB hg hat; have n12 := Lib.hid (N_upd (us' := [y13, y14, u8, u9, u10]) H12.out (by simp) hg hat (by simp)); have n13 := Lib.hid (N_upd (us' := [y12, y14, u8, u9, u10]) H13.out (by simp) hg hat (by simp)); have n8 := Lib.hid (N_upd (us' := [y12, y13, y14, u9, u10]) H8.out (by simp) hg hat (by simp)); have n9 := Lib.hid (N_upd (us' := [y12, y13, y14, u8, u10]) H9.out (by simp) hg hat (by simp)); have n10 := Lib.hid (N_upd (us' := [y12, y13, y14, u8, u9]) H10.out (by simp) hg hat (by simp)); clear H12 H13 H14 H8 H9 H10 HB; have HB := Lib.hid hB; have H14 := Lib.hid hN; have H12 := n12; have H13 := n13; have H8 := n8; have H9 := n9; have H10 := n10; clear hg hat hB hN n12 n13 n8 n9 n10; clear hcA hcB; have hcA := pw_cell_below HB.out HCA.out; have hcB := pw_cell_below HB.out HCB.out))
          have hR2 := HSt.out g
          refine ⟨⟨q + 1, o ++ [g], s ++ [g ^^^ bq], t ++ [gm c bq], by go_num, by omega, Lib.hid hR2, by rw [hR2.lo]; omega, by rw [hR2.ls]; omega, by rw [hR2.lt]; omega, H12, H13, H14, H8, H9, H10, HB⟩, by simp [intOf]; omega⟩
        · obtain rfl : q = b.length := by omega
          obtain ⟨A12, c12, rfl, _, _⟩ := V_open (Kd.N_V (base' := 0) H12.out)
          obtain ⟨A13, c13, rfl, _, _⟩ := V_open (Kd.N_V (base' := 0) H13.out)
          obtain ⟨A14, c14, rfl, _, _⟩ := V_open (Kd.N_V (base' := 0) H14.out)
          go_wp2_with (first | ((with_reducible refine gate_builtin (b := .append) (xs := #[.tmp 87, .tmp 89]) rfl ?_); at_builtin; refine app_row (w0 := w1) w1.heap.size rfl (.tmp 87) (.tmp 89) rfl u8 (.slice A12 o.length c12) O o [(.slice A13 s.length c13), (.slice A14 t.length c14), u9, u10] _ rfl rfl (Kd.N_V H12.out) (fun k hk => ⟨fun u hu => hk u (by simp at hu ⊢; grind), hk _ (by simp)⟩) (N_sub H8.out (by simp)) (Lt.N H13.out (Lt.N H14.out (Lt.N H9.out (Lt.N H10.out (Lt.nil _))))) HB.out HB.out.size (by omega) ?_; intro y8 W hN hB hg hat; have n13 := Lib.hid (N_upd (us' := [(.slice A14 t.length c14), y8, u9, u10]) H13.out (by simp) hg hat (by simp)); have n14 := Lib.hid (N_upd (us' := [(.slice A13 s.length c13), y8, u9, u10]) H14.out (by simp) hg hat (by simp)); have n9 := Lib.hid (N_upd (us' := [(.slice A13 s.length c13), (.slice A14 t.length c14), y8, u10]) H9.out (by simp) hg hat (by simp)); have n10 := Lib.hid (N_upd (us' := [(.slice A13 s.length c13), (.slice A14 t.length c14), y8, u9]) H10.out (by simp) hg hat (by simp)); clear H12 H13 H14 H8 H9 H10 HB; have HB := Lib.hid hB; have H8 := Lib.hid hN; have H13 := n13; have H14 := n14; have H9 := n9; have H10 := n10; clear hg hat hB hN n13 n14 n9 n10) | ((with_reducible refine gate_builtin (b := .append) (xs := #[.tmp 91, .tmp 93]) rfl ?_); at_builtin; refine app_row (w0 := w1) w1.heap.size rfl (.tmp 91) (.tmp 93) rfl u9 (.slice A13 s.length c13) S s [(.slice A14 t.length c14), y8, u10] _ rfl rfl (Kd.N_V H13.out) (fun k hk => ⟨fun u hu => hk u (by simp at hu ⊢; grind), hk _ (by simp)⟩) (N_sub H9.out (by simp)) (Lt.N H14.out (Lt.N H8.out (Lt.N H10.out (Lt.nil _)))) HB.out HB.out.size (by omega) ?_; intro y9 W hN hB hg hat; have n14 := Lib.hid (N_upd (us' := [y8, y9, u10]) H14.out (by simp) hg hat (by simp)); have n8 := Lib.hid (N_upd (us' := [(.slice A14 t.length c14), y9, u10]) H8.out (by simp) hg hat (by simp)); have n10 := Lib.hid (N_upd (us' := [(.slice A14 t.length c14), y8, y9]) H10.out (by simp) hg hat (by simp)); clear H13 H14 H8 H9 H10 HB; have HB := Lib.hid hB; have H9 := Lib.hid hN; have H14 := n14; have H8 := n8; have H10 := n10; clear hg hat hB hN n14 n8 n10) | ((with_reducible refine gate_builtin (b := .append) (xs := #[.tmp 95, .tmp 97]) rfl ?_); at_builtin; refine app_row (w0 := w1) w1.heap.size rfl (.tmp 95) (.tmp 97) rfl u10 (.slice A14 t.length c14) T t [y8, y9] _ rfl rfl (Kd.N_V H14.out) (fun k hk => ⟨fun u hu => hk u (by simp at hu ⊢; grind), hk _ (by simp)⟩) (N_sub H10.out (by simp)) (Lt.N H8.out (Lt.N H9.out (Lt.nil _))) HB.out HB.out.size (by omega) ?_; intro y10 W hN hB hg hat; have n8 := Lib.hid (N_upd (us' := [y9, y10]) H8.out (by simp) hg hat (by simp)); have n9 := Lib.hid (N_upd (us' := [y8, y10]) H9.out (by simp) hg hat (by simp)); clear H14 H8 H9 H10 HB; have HB := Lib.hid hB; have H10 := Lib.hid hN; have H8 := n8; have H9 := n9; clear hg hat hB hN n8 n9))
          have hL2 := HXX.out o s t HR.out
          refine ⟨⟨i + 1, O ++ [o], S ++ [s], T ++ [t], by go_num, by omega, Lib.hid hL2, by rw [hL2.lO]; omega, by rw [hL2.lS]; omega, by rw [hL2.lT]; omega, H8, H9, H10, HB⟩, by simp [intOf]; omega⟩
    · obtain rfl : i = bss.length := by omega
      have hlin := HL.out
      obtain ⟨l1, l2, l3⟩ := hlin.long
      have hll : longG bss ≤ 12 := longTo_le bss 12 (fun i _ => small_at HS.out i) _ (Nat.le_refl _)
      have eP := makeErr_ok bss (fewN n) hf4 (by omega) (by omega)
      have eO := makeErr_ok O (fewN n) hf4 (by omega) (by omega)
      have eS := makeErr_ok S (fewN n) hf4 (by omega) (by omega)
      have eT := makeErr_ok T (fewN n) hf4 (by omega) (by omega)
      have EP := Lib.hid (And.intro eP (makeOut_ok _ _ eP))
      have EO := Lib.hid (And.intro eO (makeOut_ok _ _ eO))
      have ES := Lib.hid (And.intro eS (makeOut_ok _ _ eS))
      have ET := Lib.hid (And.intro eT (makeOut_ok _ _ eT))
      obtain ⟨B8, d8, rfl, _, _⟩ := V_open (Kd.N_V (base' := 0) H8.out)
      obtain ⟨B9, d9, rfl, _, _⟩ := V_open (Kd.N_V (base' := 0) H9.out)
      obtain ⟨B10, d10, rfl, _, _⟩ := V_open (Kd.N_V (base' := 0) H10.out)
      have hVP : Vbb wr (fun _ => True) (.slice Ad bss.length cd) bss := Kd.V_mono (Kd.V_below HD.out HB.out) (fun _ _ => trivial)
      have hVO : Vbb wr (fun _ => True) (.slice B8 O.length d8) O := Kd.V_mono (Kd.N_V H8.out) (fun _ _ => trivial)
      have hVS : Vbb wr (fun _ => True) (.slice B9 S.length d9) S := Kd.V_mono (Kd.N_V H9.out) (fun _ _ => trivial)
      have hVT : Vbb wr (fun _ => True) (.slice B10 T.length d10) T := Kd.V_mono (Kd.N_V H10.out) (fun _ _ => trivial)
      have VP := Lib.hid hVP; have VO := Lib.hid hVO; have VS := Lib.hid hVS; have VT := Lib.hid hVT
      have LIN := Lib.hid hlin
      have LL := Lib.hid (And.intro l1 (And.intro l2 l3))
      have HBW := Lib.hid (below_tr HB0.out HB.out)
      clear hVP hVO hVS hVT H8 H9 H10 HD HB HB0 HL hlin l1 l2 l3 eP eO eS eT hi hlt
      go_wp2_with fail
      refine (few_any n _).mono ?_
      rintro e w' ⟨rfl, rfl⟩
      go_wp2_with fail
      refine (make_any bss _ _ _ VP.out).mono ?_
      rintro e wa ⟨vp, rfl, hV, hB⟩
      rw [EP.out.1]; rw [EP.out.2] at hV
      obtain ⟨P, hP⟩ : ∃ l, l = makeG bss (fewN n) := ⟨_, rfl⟩
      rw [← hP] at hV
      have DP := Lib.hid hP
      clear hP
      obtain ⟨Cp, kp, rfl, _, _⟩ := V_open hV
      have MP := Lib.hid (Kd.V_bound hV)
      have VO := Lib.hid (Kd.V_mono (Kd.V_below (Kd.V_bound VO.out) hB) (fun _ _ => (trivial : True)))
      have VS := Lib.hid (Kd.V_mono (Kd.V_below (Kd.V_bound VS.out) hB) (fun _ _ => (trivial : True)))
      have VT := Lib.hid (Kd.V_mono (Kd.V_below (Kd.V_bound VT.out) hB) (fun _ _ => (trivial : True)))
      have HBW := Lib.hid (below_tr HBW.out hB)
      clear hV hB
      go_wp2_with fail
      refine (few_any n _).mono ?_
      rintro e w' ⟨rfl, rfl⟩
      go_wp2_with fail
      refine (make_any O _ _ _ VO.out).mono ?_
      rintro e wb ⟨vq, rfl, hV, hB⟩
      rw [EO.out.1]; rw [EO.out.2] at hV
      obtain ⟨Qs, hQs⟩ : ∃ l, l = makeG O (fewN n) := ⟨_, rfl⟩
      rw [← hQs] at hV
      have DQs := Lib.hid hQs
      clear hQs
      obtain ⟨Cq, kq, rfl, _, _⟩ := V_open hV
      have MO := Lib.hid (Kd.V_bound hV)
      have MP := Lib.hid (Kd.V_bound (Kd.V_below MP.out hB))
      have VS := Lib.hid (Kd.V_mono (Kd.V_below (Kd.V_bound VS.out) hB) (fun _ _ => (trivial : True)))
      have VT := Lib.hid (Kd.V_mono (Kd.V_below (Kd.V_bound VT.out) hB) (fun _ _ => (trivial : True)))
      have HBW := Lib.hid (below_tr HBW.out hB)
      clear hV hB
      go_wp2_with fail
      refine (few_any n _).mono ?_
      rintro e w' ⟨rfl, rfl⟩
      go_wp2_with fail
      refine (make_any S _ _ _ VS.out).mono ?_
      rintro e wc ⟨vr, rfl, hV, hB⟩
      rw [ES.out.1]; rw [ES.out.2] at hV
      obtain ⟨R, hR⟩ : ∃ l, l = makeG S (fewN n) := ⟨_, rfl⟩
      rw [← hR] at hV
      have DR := Lib.hid hR
      clear hR
      obtain ⟨Cr, kr, rfl, _, _⟩ := V_open hV
      have MS := Lib.hid (Kd.V_bound hV)
      have MO := Lib.hid (Kd.V_bound (Kd.V_below MO.out hB))
      have MP := Lib.hid (Kd.V_bound (Kd.V_below MP.out hB))
      have VT := Lib.hid (Kd.V_mono (Kd.V_below (Kd.V_bound VT.out) hB) (fun _ _ => (trivial : True)))
      have HBW := Lib.hid (below_tr HBW.out hB)
      clear hV hB
      go_wp2_with fail
      refine (few_any n _).mono ?_
      rintro e w' ⟨rfl, rfl⟩
      go_wp2_with fail
      refine (make_any T _ _ _ VT.out).mono ?_
      rintro e wd ⟨vu, rfl, hV, hB⟩
      rw [ET.out.1]; rw [ET.out.2] at hV
      obtain ⟨U, hU⟩ : ∃ l, l = makeG T (fewN n) := ⟨_, rfl⟩
      rw [← hU] at hV
      have DU := Lib.hid hU
      clear hU
      obtain ⟨Cu, ku, rfl, _, _⟩ := V_open hV
      have MT := Lib.hid (Kd.V_mono hV (fun _ _ => (trivial : True)))
      have MS := Lib.hid (Kd.V_mono (Kd.V_below MS.out hB) (fun _ _ => (trivial : True)))
      have MO := Lib.hid (Kd.V_mono (Kd.V_below MO.out hB) (fun _ _ => (trivial : True)))
      have MP := Lib.hid (Kd.V_mono (Kd.V_below MP.out hB) (fun _ _ => (trivial : True)))
      have HBW := Lib.hid (below_tr HBW.out hB)
      clear hV hB
      go_wp2_with fail
      refine (few_any n _).mono ?_
      rintro e w' ⟨rfl, rfl⟩
      have lP : P.length = fewN n := by rw [DP.out, makeG_length]
      have lQ : Qs.length = P.length := by rw [DQs.out, makeG_length, lP]
      have lR : R.length = P.length := by rw [DR.out, makeG_length, lP]
      have lU : U.length = P.length := by rw [DU.out, makeG_length, lP]
      have b1 : ((P.length : Int) != (fewN n : Int)) = false := by rw [bne_eq_false_iff_eq]; omega
      have b1' : (P.length != fewN n) = false := by rw [bne_eq_false_iff_eq]; omega
      have b2 : ((Qs.length : Int) != (P.length : Int)) = false := by rw [bne_eq_false_iff_eq]; omega
      have b2' : (Qs.length != P.length) = false := by rw [bne_eq_false_iff_eq]; omega
      have b3 : ((R.length : Int) != (P.length : Int)) = false := by rw [bne_eq_false_iff_eq]; omega
      have b3' : (R.length != P.length) = false := by rw [bne_eq_false_iff_eq]; omega
      have b4 : ((U.length : Int) != (P.length : Int)) = false := by rw [bne_eq_false_iff_eq]; omega
      have b4' : (U.length != P.length) = false := by rw [bne_eq_false_iff_eq]; omega
      have LPQ := Lib.hid (And.intro lP (And.intro lQ (And.intro lR lU)))
      clear lP lQ lR lU
      go_wp2_with fail
      clear b1 b1' b2 b2' b3 b3' b4 b4'
      go_loopw [25] (fun j wr => ∃ k : Nat, j = .int .i64 k ∧ k ≤ P.length ∧ Hid (Below wd.heap.size wd wr)) (fun j _ => P.length - (intOf j).toNat)
      case atStart => exact ⟨0, rfl, Nat.zero_le _, Lib.hid (Below.refl _ _)⟩
      case round =>
        obtain ⟨j, rfl, hj, HBr⟩ := hrel
        by_cases hlj : j < P.length
        · obtain ⟨lP, lQ, lR, lU⟩ := LPQ.out
          have hjP : P.getD j [] = parG bss j := by rw [DP.out]; exact makeG_getD _ _ _ (by omega)
          have hjQ : Qs.getD j [] = parG O j := by rw [DQs.out]; exact makeG_getD _ _ _ (by omega)
          have hjR : R.getD j [] = parG S j := by rw [DR.out]; exact makeG_getD _ _ _ (by omega)
          have hjU : U.getD j [] = parG T j := by rw [DU.out]; exact makeG_getD _ _ _ (by omega)
          have hpar : ∀ p, p < (P.getD j []).length → (R.getD j []).getD p 0 = (P.getD j []).getD p 0 ^^^ (Qs.getD j []).getD p 0 ∧ (U.getD j []).getD p 0 = gm c ((P.getD j []).getD p 0) := by
            intro p hp
            rw [hjP, hjQ, hjR, hjU]
            rw [hjP, parG_length] at hp
            exact LIN.out.par j p hp
          have l1 : (Qs.getD j []).length = (P.getD j []).length := by rw [hjP, hjQ, parG_length, parG_length]; exact LL.out.1
          have l2 : (R.getD j []).length = (P.getD j []).length := by rw [hjP, hjR, parG_length, parG_length]; exact LL.out.2.1
          have l3 : (U.getD j []).length = (P.getD j []).length := by rw [hjP, hjU, parG_length, parG_length]; exact LL.out.2.2
          obtain ⟨ap, Rp, rp, rfl, cP, vP, _⟩ := Vbb_row (Kd.V_below MP.out HBr.out) j hlj
          obtain ⟨aq, Rq, rq, rfl, cQ, vQ, _⟩ := Vbb_row (Kd.V_below MO.out HBr.out) j (by omega)
          obtain ⟨ar, Rr, rr, rfl, cR, vR, _⟩ := Vbb_row (Kd.V_below MS.out HBr.out) j (by omega)
          obtain ⟨au, Ru, ru, rfl, cU, vU, _⟩ := Vbb_row (Kd.V_below MT.out HBr.out) j (by omega)
          have jQ : j < Qs.length := by omega
          have jR : j < R.length := by omega
          have jU : j < U.length := by omega
          have hmp := V_max vP
          clear hjP hjQ hjR hjU
          generalize P.getD j [] = pj at *
          generalize Qs.getD j [] = qj at *
          generalize R.getD j [] = rj at *
          generalize U.getD j [] = uj at *
          have b1 : ((qj.length : Int) != (pj.length : Int)) = false := by rw [bne_eq_false_iff_eq]; omega
          have b1' : (qj.length != pj.length) = false := by rw [bne_eq_false_iff_eq]; omega
          have b2 : ((rj.length : Int) != (pj.length : Int)) = false := by rw [bne_eq_false_iff_eq]; omega
          have b2' : (rj.length != pj.length) = false := by rw [bne_eq_false_iff_eq]; omega
          have b3 : ((uj.length : Int) != (pj.length : Int)) = false := by rw [bne_eq_false_iff_eq]; omega
          have b3' : (uj.length != pj.length) = false := by rw [bne_eq_false_iff_eq]; omega
          have LJ := Lib.hid (And.intro l1 (And.intro l2 l3))
          have HPAR := Lib.hid hpar
          have vP' := Lib.hid vP; have vQ' := Lib.hid vQ; have vR' := Lib.hid vR; have vU' := Lib.hid vU
          clear l1 l2 l3 hpar vP vQ vR vU lP lQ lR lU
          go_wp2_with fail
          go_quiet (fail)
          clear b1 b1' b2 b2' b3 b3'
          go_wp2_with fail
          obtain ⟨wo, rfl⟩ : ∃ wo : World, wo = wr := ⟨_, rfl⟩
          go_loopw [26] (fun q wr => ∃ k : Nat, q = .int .i64 k ∧ k ≤ pj.length ∧ Hid (Below wo.heap.size wo wr)) (fun q _ => pj.length - (intOf q).toNat)
          case atStart => exact ⟨0, rfl, Nat.zero_le _, Lib.hid (below_drewN (Below.refl _ _) _)⟩
          case round =>
            obtain ⟨q, rfl, hq, HBq⟩ := hrel
            have hcP := pw_cell_below HBq.out cP
            have hcQ := pw_cell_below HBq.out cQ
            have hcR := pw_cell_below HBq.out cR
            have hcU := pw_cell_below HBq.out cU
            have CC := Lib.hid (And.intro cP (And.intro cQ (And.intro cR cU)))
            clear cP cQ cR cU
            by_cases hlq : q < pj.length
            · obtain ⟨e1, e2, e3⟩ := LJ.out
              obtain ⟨bp, rfl, dP, _⟩ := Vb_cell (Kd.V_below vP'.out HBq.out) q hlq
              obtain ⟨bq, rfl, dQ, _⟩ := Vb_cell (Kd.V_below vQ'.out HBq.out) q (by omega)
              obtain ⟨br, rfl, dR, _⟩ := Vb_cell (Kd.V_below vR'.out HBq.out) q (by omega)
              obtain ⟨bu, rfl, dU, _⟩ := Vb_cell (Kd.V_below vU'.out HBq.out) q (by omega)
              have qQ : q < qj.length := by omega
              have qR : q < rj.length := by omega
              have qU : q < uj.length := by omega
              obtain ⟨p1, p2⟩ := HPAR.out q hlq
              clear e1 e2 e3
              rw [p1] at dR
              rw [p2] at dU
              clear p1 p2
              have hxor := toI_xor (pj.getD q 0) (qj.getD q 0)
              generalize pj.getD q 0 = xp at *
              generalize qj.getD q 0 = xq at *
              go_wp2_with fail
              go_region_held3 (fun W => W.cell? (ap.add j) = some (.slice (some bp) pj.length rp) ∧ W.cell? (aq.add j) = some (.slice (some bq) qj.length rq) ∧ W.cell? (ar.add j) = some (.slice (some br) rj.length rr) ∧ W.cell? (au.add j) = some (.slice (some bu) uj.length ru) ∧ W.cell? (bp.add q) = some (.int .u8 (toI xp)) ∧ W.cell? (bq.add q) = some (.int .u8 (toI xq)) ∧ W.cell? (br.add q) = some (.int .u8 (toI (xp ^^^ xq))) ∧ W.cell? (bu.add q) = some (.int .u8 (toI (gm c xp)))) (first | exact ⟨hcP, hcQ, hcR, hcU, dP, dQ, dR, dU⟩ | exact ⟨pw_cell_below HBm.out hcP, pw_cell_below HBm.out hcQ, pw_cell_below HBm.out hcR, pw_cell_below HBm.out hcU, pw_cell_below HBm.out dP, pw_cell_below HBm.out dQ, pw_cell_below HBm.out dR, pw_cell_below HBm.out dU⟩) (first | (go_at_call 11; refine (mul_any _ _ _).mono ?_; rintro e W ⟨rfl, hBm⟩; have HBm := Lib.hid hBm; clear hBm))
              all_goals
                go_wp2_with fail
                refine ⟨⟨q + 1, by go_num, by omega, Lib.hid (below_tr (below_drewN HBq.out 1) HBm.out)⟩, by simp [intOf]; omega⟩
            · go_wp2_with fail
              refine ⟨⟨j + 1, by go_num, by omega, Lib.hid (below_tr HBr.out HBq.out)⟩, by simp [intOf]; omega⟩
        · go_wp2_with fail
          refine (lives_any _).mono ?_
          rintro e w' ⟨rfl, hB⟩
          go_wp2_with fail
          go_ret
          exact ⟨rfl, below_tr (below_tr HBW.out HBr.out) hB⟩
end Go.Proofs.Ytiggohkkokalcaa
