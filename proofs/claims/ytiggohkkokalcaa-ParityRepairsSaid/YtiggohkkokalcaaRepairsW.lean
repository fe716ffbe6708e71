/- The walk of the law ParityRepairs. -/
import Derived.Test.YtiggohkkokalcaaRepAns
import Derived.Test.YtiggohkkokalcaaGrp
import Derived.Test.YtiggohkkokalcaaRepairRef
import Derived.Test.YtiggohkkokalcaaLives
import Derived.Test.YtiggohkkokalcaaRest1
import Derived.Deep.CutBlock
import Derived.Deep.DeepCutAuto
namespace Go.Proofs.Ytiggohkkokalcaa
open Go.RowKit Go.Proofs.YtiggohkkokalcaaW.PrintWords Go.Proofs.YtiggohkkokalcaaW.PrintMore
set_option linter.unusedVariables false
set_option linter.unusedSimpArgs false

def eightN (n : Int) : Nat := ((n.tmod 8 + 8) % 8).toNat
theorem eightN_lt (n : Int) : eightN n < 8 := by
  have h1 : 0 ≤ (n.tmod 8 + 8) % 8 := Int.emod_nonneg _ (by decide)
  have h2 : (n.tmod 8 + 8) % 8 < 8 := Int.emod_lt_of_pos _ (by decide)
  unfold eightN; omega
theorem eight_cast (n : Int) : (n.tmod 8 + 8) % 8 = (eightN n : Int) := by
  have h1 : 0 ≤ (n.tmod 8 + 8) % 8 := Int.emod_nonneg _ (by decide)
  unfold eightN; omega

theorem wrap_toI (n : Int) : IntKind.u8.wrap n = toI (BitVec.ofInt 8 n) := by
  rw [IntKind.wrap_u8]
  simp only [toI, BitVec.toNat_ofInt]
  omega
theorem OwnI.at_ {w : World} {base g n cap : Nat} {xs : List Int} (h : OwnI w base (.slice (some ⟨g, 0, none⟩) n cap) xs) (i : Nat) (hi : i < xs.length) :
    w.cell? ⟨g, i, none⟩ = some (.int .i64 (xs.getD i 0)) ∧ w.frozen? ⟨g, i, none⟩ = false := by
  have hn : n = xs.length := by
    rcases h.2 with ⟨h', _⟩ | ⟨g', cap', cur, h', _⟩
    · cases h'
    · injection h'
  subst hn
  have := own_at_of (enc := encI) (d := (0 : Int)) h (i : Int) (by omega) (by omega)
  rw [Int.toNat_natCast] at this
  exact ⟨by rw [this.1]; simp [rdOf, encI], this.2⟩
theorem OwnI.set_ {w : World} {base g n cap : Nat} {xs : List Int} (h : OwnI w base (.slice (some ⟨g, 0, none⟩) n cap) xs) (i : Nat) (x : Int) :
    OwnI (w.setCell ⟨g, i, none⟩ (.int .i64 x)) base (.slice (some ⟨g, 0, none⟩) n cap) (xs.set i x) ∧ w.grownBy (w.setCell ⟨g, i, none⟩ (.int .i64 x)) (some g) := by
  have hn : n = xs.length := by
    rcases h.2 with ⟨h', _⟩ | ⟨g', cap', cur, h', _⟩
    · cases h'
    · injection h'
  subst hn
  have := own_store_of (enc := encI) h (i : Int) x
  rw [Int.toNat_natCast] at this
  refine ⟨?_, this.2⟩
  have h1 := this.1
  unfold OwnI
  rw [List.length_set]
  exact h1
theorem OwnI.form {w : World} {base : Nat} {v : Value} {xs : List Int} (h : OwnI w base v xs) (hl : 0 < xs.length) : ∃ g cap, v = .slice (some ⟨g, 0, none⟩) xs.length cap ∧ base ≤ g ∧ g < w.heap.size :=
  World.ownsRow.form h hl
def nils (n : Nat) : Array Value := (List.replicate n (Value.slice none 0 0)).toArray
def zers (n : Nat) : Array Value := (List.replicate n (Value.int .i64 0)).toArray
theorem nils_V (W : World) (n : Nat) (hn : n ≤ 70000) : Vbb (W.alloc (.cells (nils n) 33)) (fun k => k = W.heap.size) (.slice (some ⟨W.heap.size, 0, none⟩) n n) (List.replicate n []) := by
  have h := V_of_cells (d := KGs) (e := 33) (base := 0) (c := n) (W := W.alloc (.cells (nils n) 33)) (ok := fun k => k = W.heap.size) (ad := ⟨W.heap.size, 0, none⟩) (xs := List.replicate n []) (by simp) (by simp; omega) rfl (fun j x hx => by
    have hj : j < n := by have := (List.getElem?_eq_some_iff.1 hx).1; simpa using this
    have hx2 : x = [] := by rw [List.getElem?_replicate, if_pos hj] at hx; exact (Option.some.inj hx).symm
    subst hx2
    refine ⟨[.slice none 0 0], rfl, Kd.FK_slice_mk (Nat.le_refl _) (Kd.F_nil KG _ _), fun i u hu => ?_⟩
    match i with
    | 0 =>
      simp only [List.getElem?_cons_zero, Option.some.injEq] at hu
      subst hu
      have e : ((⟨W.heap.size, 0, none⟩ : Addr).add (j * KGs.sz + 0)) = ⟨W.heap.size, j, none⟩ := by rw [add_plain]; show (⟨W.heap.size, j * 1 + 0, none⟩ : Addr) = _; simp
      rw [e, World.cell?_alloc_new]
      simp [nils, hj]
    | i + 1 => simp at hu)
  simpa using h
theorem zers_V (W : World) (n : Nat) (hn : n ≤ 70000) : Vi (W.alloc (.cells (zers n) 3)) (fun k => k = W.heap.size) (.slice (some ⟨W.heap.size, 0, none⟩) n n) (List.replicate n 0) := by
  have h := V_of_cells (d := Kd.int .i64) (e := 3) (base := 0) (c := n) (W := W.alloc (.cells (zers n) 3)) (ok := fun k => k = W.heap.size) (ad := ⟨W.heap.size, 0, none⟩) (xs := List.replicate n 0) (by simp) (by simp; omega) rfl (fun j x hx => by
    have hj : j < n := by have := (List.getElem?_eq_some_iff.1 hx).1; simpa using this
    have hx2 : x = 0 := by rw [List.getElem?_replicate, if_pos hj] at hx; exact (Option.some.inj hx).symm
    subst hx2
    refine ⟨[.int .i64 0], rfl, fun _ _ => rfl, fun i u hu => ?_⟩
    match i with
    | 0 =>
      simp only [List.getElem?_cons_zero, Option.some.injEq] at hu
      subst hu
      have e : ((⟨W.heap.size, 0, none⟩ : Addr).add (j * (Kd.int .i64).sz + 0)) = ⟨W.heap.size, j, none⟩ := by rw [add_plain]; show (⟨W.heap.size, j * 1 + 0, none⟩ : Addr) = _; simp
      rw [e, World.cell?_alloc_new]
      simp [zers, hj]
    | i + 1 => simp at hu)
  simpa using h
theorem mk17 (W : World) : (Instr.makeSlice 30 (.int .i64 17) (.int .i64 17)).run Try.prog W = .ok (.slice (some ⟨W.heap.size, 0, none⟩) 17 17) (W.alloc (.cells (nils 17) 33)) := by kernel_rfl
theorem mk5 (W : World) : (Instr.makeSlice 30 (.int .i64 5) (.int .i64 5)).run Try.prog W = .ok (.slice (some ⟨W.heap.size, 0, none⟩) 5 5) (W.alloc (.cells (nils 5) 33)) := by kernel_rfl
theorem mki17 (W : World) : (Instr.makeSlice 29 (.int .i64 17) (.int .i64 17)).run Try.prog W = .ok (.slice (some ⟨W.heap.size, 0, none⟩) 17 17) (W.alloc (.cells (zers 17) 3)) := by kernel_rfl
theorem limit_any {bss pss : List (List G)} {xs : List Int} {vb vp vi : Value} {W : World} {o1 o2 o3 : Nat → Prop} (HV : Vbb W o1 vb bss) (HP : Vbb W o2 vp pss) (HI : Vi W o3 vi xs) (h : 16 < bss.length ∨ 4 < pss.length) :
    Calls Try.prog 29 #[vb, vp, vi] W fun e w' => e = .returned (.tuple #[.slice none 0 0, .slice none 0 0, .int .i64 4]) ∧ Below W.heap.size W w' := by
  refine (repair_any bss pss xs vb vp vi W (Kd.V_mono HV (fun _ _ => trivial)) (Kd.V_mono HP (fun _ _ => trivial)) (Kd.V_mono HI (fun _ _ => trivial))).mono ?_
  rintro e w' ⟨h1, h2, _⟩
  have hc : chkErr bss pss xs = 4 := by unfold chkErr; rw [if_pos h]
  rw [hc] at h2
  exact ⟨h2 (by decide), h1⟩
theorem len_set {D : List (List G)} {i m : Nat} {x : List G} (hi : i < D.length) (h : ∀ j, (D.getD j []).length ≤ 12) (hx : x.length ≤ 13) (hm : m = 13) (j : Nat) : ((D.set i x).getD j []).length ≤ m := by
  have := rat_set D i j x hi
  unfold rat at this
  rw [this]
  split
  · omega
  · have := h j; omega

set_option maxRecDepth 100000 in
set_option maxHeartbeats 8000000 in
theorem repairs_walk (xs ys : List Int) (v v' : Value) (n which at_ by_ : Int) (w : World) (HV : Vi w (fun _ => True) v xs) (HW : Vi w (fun _ => True) v' ys) :
    Calls Try.prog 7 #[v, v', .int .i64 n, .int .i64 which, .int .i64 at_, .int .i64 by_] w fun e w' => e = .returned (.bool true) ∧ Below w.heap.size w w' := by
  obtain ⟨A, c, rfl, hc, hm⟩ := V_open HV
  obtain ⟨A', c', rfl, hc', hm'⟩ := V_open HW
  have HHV := Lib.hid HV
  have HHW := Lib.hid HW
  have hf4 := fewN_le n
  have h8 := eightN_lt which
  have h8a := (tmod_rng which 8 (by decide)).1
  have h8b := (tmod_rng which 8 (by decide)).2
  have h8c := eight_cast which
  clear HV HW
  go_enter Try.func7, Try.ntmps7
  go_wp2_with fail
  refine (blocks_any xs _ w HHV.out).mono ?_
  rintro e w1 ⟨u, data, rfl, hD, hS, hB⟩
  obtain ⟨Ad, cd, rfl, hcd, _⟩ := V_open hD
  have HD := Lib.hid hD
  have HB := Lib.hid hB
  have hl7 := hS.1
  have H12 := Lib.hid hS.2
  have hlong : longG data ≤ 65536 := Nat.le_trans (longTo_le data 12 (fun i hi => hS.2 _ (by rw [List.getD_eq_getElem?_getD, List.getElem?_eq_getElem hi]; exact List.getElem_mem hi)) _ (Nat.le_refl _)) (by decide)
  have HME := Lib.hid (makeErr_ok data (fewN n) hf4 (by omega) hlong)
  have HMO := Lib.hid (makeOut_ok data (fewN n) HME.out)
  clear hD hB hS HHV hlong
  go_wp2_with fail
  refine (few_any n _).mono ?_
  rintro e w' ⟨rfl, rfl⟩
  go_wp2_with fail
  refine (refmake_any data (fewN n) _ w1 HD.out).mono ?_
  rintro e w2 ⟨vp, rfl, hP, hB2⟩
  have hme := HME.out
  rw [HMO.out] at hP
  rw [hme]
  obtain ⟨Ap, cp, hvp, hcp, _⟩ := V_open hP
  rw [makeG_length] at hvp hcp
  subst hvp
  have HP := Lib.hid hP
  have HB2 := Lib.hid hB2
  clear hP hB2 hme
  go_wp2_with fail
  have HD2 := Lib.hid (Kd.V_below HD.out HB2.out)
  refine (sizes_any data _ w2 HD2.out (by omega)).mono ?_
  rintro e w3 ⟨vs, rfl, hV3, hB3⟩
  obtain ⟨As, cs, hvs, _, _⟩ := V_open hV3.V
  rw [sizesG_length] at hvs
  subst hvs
  have HV3 := Lib.hid hV3
  have HB3 := Lib.hid hB3
  clear hV3 hB3
  go_wp2_with fail
  have HB13 := Lib.hid (HB.out.trans ((HB2.out.trans (HB3.out.mono HB2.out.size)).mono HB.out.size))
  refine (lostR_any ys _ ((data.length : Int) + (fewN n : Int)) 6 w3 (Kd.V_below HHW.out HB13.out) (by omega) (by omega)).mono ?_
  rintro e w4 ⟨ug, rfl, ⟨gone, hG, hK⟩, hB4⟩
  obtain ⟨Ag, cg, rfl, hcg, _⟩ := V_open hG.V
  have HG4 := Lib.hid (Kd.V_mono hG.V (fun _ _ => trivial) : Vi w4 (fun _ => True) _ gone)
  have HD4 := Lib.hid (Kd.V_below HD2.out (HB3.out.trans (hB4.mono HB3.out.size)))
  have HP4 := Lib.hid (Kd.V_below HP.out (HB3.out.trans (hB4.mono HB3.out.size)))
  have HS4 := Lib.hid (HV3.out.below hB4)
  have HB24 := Lib.hid (HB3.out.trans (hB4.mono HB3.out.size))
  have HA4 := Lib.hid (HD.out)
  have hD4c : Vbb w4 (fun q => q < w2.heap.size) (.slice Ad data.length cd) data := Kd.V_mono (Kd.V_below (Kd.V_bound HD2.out) HB24.out) (fun q hq => hq.2)
  have hP4c : Vbb w4 (fun q => q < w2.heap.size) (.slice Ap (fewN n) cp) (makeG data (fewN n)) := Kd.V_mono (Kd.V_below (Kd.V_bound HP.out) HB24.out) (fun q hq => hq.2)
  have HD4c := Lib.hid hD4c
  have HP4c := Lib.hid hP4c
  have HB14 := Lib.hid (HB.out.trans ((HB2.out.trans (HB24.out.mono HB2.out.size)).mono HB.out.size))
  have HAW0 := Lib.hid (Nat.le_trans HB.out.size HB2.out.size)
  clear hG hK hB4 HV3 HB13 HA4 hD4c hP4c HHW HME HMO HD HP HD2 HB HB2 HB3 HD4 HP4
  go_wp2_with fail
  refine (withoutL_any data gone 0 _ _ w4 w2.heap.size HD4c.out HB24.out.size HG4.out (by omega) ⟨by omega, by omega⟩).mono ?_
  rintro e w5 ⟨vd, us, rfl, hV5, hB5⟩
  obtain ⟨A5, c5, hvd⟩ := own_slice hV5.own
  subst hvd
  have HV5 := Lib.hid hV5
  have HB5 := Lib.hid hB5
  clear hV5 hB5
  go_wp2_with fail
  have HG5 := Lib.hid (Kd.V_below HG4.out HB5.out)
  have HP5 := Lib.hid (Kd.V_below HP4c.out HB5.out)
  have hsz5 : w2.heap.size ≤ w5.heap.size := Nat.le_trans HB24.out.size HB5.out.size
  refine (withoutL_any (makeG data (fewN n)) gone data.length _ _ w5 w2.heap.size HP5.out hsz5 HG5.out (by rw [makeG_length]; omega) ⟨by omega, by omega⟩).mono ?_
  rintro e w6 ⟨vq, uq, rfl, hV6, hB6⟩
  rw [makeG_length] at hV6
  obtain ⟨A6, c6, hvq⟩ := own_slice hV6.own
  subst hvq
  obtain ⟨a, ha⟩ : ∃ a, a = w2.heap.size := ⟨_, rfl⟩
  obtain ⟨b, hb⟩ : ∃ b, b = w6.heap.size := ⟨_, rfl⟩
  have hab4 := HB24.out.size
  have hab5 := HB5.out.size
  have hab6 := hB6.size
  have hGD : Grp a b w6 data.length (.slice A5 data.length c5) us (withoutG data gone 0) := by
    have h := (HV5.out.grp (a := a) (b := b) (by omega) (by omega) (by omega)).below hB6
    exact h
  have hGQ : Grp a b w6 (fewN n) (.slice A6 (fewN n) c6) uq (withoutG (makeG data (fewN n)) gone data.length) := hV6.grp (by omega) (by omega) (by omega)
  have hSZ : OwnI w6 a (.slice As data.length cs) (sizesG data) := by rw [ha]; exact HS4.out.below (HB5.out.trans (hB6.mono HB5.out.size))
  have hST : ∀ k, (Value.slice As data.length cs).ownBlock = some k → k < b := fun k hk => by
    have := (World.ownsRow.lt HS4.out k hk).2
    omega
  have hDQ : Ap2 (.slice A5 data.length c5) (.slice A6 (fewN n) c6) := Ap2.symm (Ap2_fresh (m := w5.heap.size) (fun k hk => (World.ownsRow.lt hV6.own k hk).1) (fun k hk => (World.ownsRow.lt HV5.out.own k hk).2))
  have hB16 : Below w.heap.size w w6 := HB14.out.trans ((HB5.out.trans (hB6.mono HB5.out.size)).mono HB14.out.size)
  have hDl : ∀ i, ((withoutG data gone 0).getD i []).length ≤ 12 := fun i => by
    by_cases hi : i < data.length
    · rw [withoutG_getD _ _ _ _ hi]
      split
      · exact Nat.zero_le _
      · refine H12.out _ ?_
        rw [List.getD_eq_getElem?_getD, List.getElem?_eq_getElem hi]; exact List.getElem_mem hi
    · rw [getD_over [] _ _ (by rw [withoutG_length]; omega)]; exact Nat.zero_le _
  have hQl : ∀ i, ((withoutG (makeG data (fewN n)) gone data.length).getD i []).length ≤ 12 := fun i => by
    by_cases hi : i < fewN n
    · rw [withoutG_getD _ _ _ _ (by rw [makeG_length]; exact hi)]
      split
      · exact Nat.zero_le _
      · rw [makeG_getD _ _ _ hi, parG_length]
        exact longTo_le data 12 (fun i hi => H12.out _ (by rw [List.getD_eq_getElem?_getD, List.getElem?_eq_getElem hi]; exact List.getElem_mem hi)) _ (Nat.le_refl _)
    · rw [getD_over [] _ _ (by rw [withoutG_length, makeG_length]; omega)]; exact Nat.zero_le _
  have HGD := Lib.hid hGD; have HGQ := Lib.hid hGQ; have HSZ := Lib.hid hSZ; have HST := Lib.hid hST; have HDQ := Lib.hid hDQ; have HB16 := Lib.hid hB16
  have HDL := Lib.hid hDl; have HQL := Lib.hid hQl
  have HSL := Lib.hid (sizesG_length data)
  have HAB := Lib.hid (show a ≤ b by omega)
  have HBW := Lib.hid hb
  have HAW := Lib.hid (show w.heap.size ≤ a by have := HB14.out.size; have h2 : w2.heap.size = a := ha.symm; have h3 := HAW0.out; omega)
  clear hGD hGQ hSZ hST hDQ hB16 hDl hQl hV6 hB6 HV5 HB5 HG4 HG5 HP5 HP4c HD4c HS4 HB14 HB24 H12 ha hb hab4 hab5 hab6 hsz5
  generalize withoutG data gone 0 = D at *
  generalize withoutG (makeG data (fewN n)) gone data.length = Q at *
  generalize sizesG data = S at *
  generalize data.length = nd at *
  generalize fewN n = nq at *
  generalize eightN which = kk at *
  go_upto_region 7 with fail
  obtain ⟨W6, hW6⟩ : ∃ W6 : World, W6 = w6 := ⟨_, rfl⟩
  subst hW6
  go_cut [20] from 65 to 68 (fun v wx => v = .int .i64 (kk : Int) ∧ W6 = wx)
  case first =>
    have h8d : (which.tmod 8) % 8 = (kk : Int) := by omega
    have h8e : (which.tmod 8 + 8).tmod 8 = (kk : Int) := by rw [Int.tmod_eq_emod_of_nonneg (by omega)]; exact h8c
    have HC := Lib.hid (And.intro h8c (And.intro h8d h8e))
    clear h8c h8d h8e
    go_wp2_with fail
    go_meet
    first
      | exact ⟨congrArg (Value.int .i64) HC.out.1, rfl⟩
      | exact ⟨congrArg (Value.int .i64) HC.out.2.1, rfl⟩
      | exact ⟨congrArg (Value.int .i64) HC.out.2.2, rfl⟩
  case rest =>
  obtain ⟨rfl, rfl⟩ := hcut
  clear h8a h8b h8c
  go_upto_region 8 with fail
  go_cut [78] from 69 to 78 (fun v wx => v = .bool (decide (0 < nd + nq ∧ kk < 4)) ∧ W6 = wx)
  case first =>
    by_cases h1 : 0 < nd + nq
    · have h1i : (0 : Int) < (nd : Int) + (nq : Int) := by omega
      by_cases h2 : kk < 4
      · have h2i : (kk : Int) < 4 := by omega
        have hd : decide (0 < nd + nq ∧ kk < 4) = true := decide_eq_true ⟨h1, h2⟩
        go_wp2_with fail
        go_meet
        exact ⟨by rw [hd], rfl⟩
      · have h2i : ¬ (kk : Int) < 4 := by omega
        have hd : decide (0 < nd + nq ∧ kk < 4) = false := decide_eq_false (fun h => h2 h.2)
        go_wp2_with fail
        go_meet
        exact ⟨by rw [hd], rfl⟩
    · have h1i : ¬ (0 : Int) < (nd : Int) + (nq : Int) := by omega
      have hd : decide (0 < nd + nq ∧ kk < 4) = false := decide_eq_false (fun h => h1 h.1)
      go_wp2_with fail
      go_meet
      exact ⟨by rw [hd], rfl⟩
  case rest =>
    obtain ⟨rfl, rfl⟩ := hcut
    go_upto_if 78 with fail
    go_cut [12] from 78 to 172 (fun v wx => v = .bool false ∧ ∃ (us' uq' : List Value) (D' Q' : List (List G)), Hid (Grp a b wx nd (.slice A5 nd c5) us' D') ∧ Hid (Grp a b wx nq (.slice A6 nq c6) uq' Q') ∧ Hid (OwnI wx a (.slice As nd cs) S) ∧ Hid (∀ i, (D'.getD i []).length ≤ 13) ∧ Hid (∀ i, (Q'.getD i []).length ≤ 13) ∧ Hid (Below a W6 wx))
    case first =>
      cases hgo : decide (0 < nd + nq ∧ kk < 4)
      case false =>
        clear hgo
        go_wp2_with fail
        go_meet
        exact ⟨rfl, us, uq, D, Q, HGD, HGQ, HSZ, Lib.hid (fun i => Nat.le_succ_of_le (HDL.out i)), Lib.hid (fun i => Nat.le_succ_of_le (HQL.out i)), Lib.hid (Below.refl _ _)⟩
      case true =>
        obtain ⟨hs0, hk4⟩ := of_decide_eq_true hgo
        clear hgo
        obtain ⟨i, hi, hi1, hi2, hi3, hi4⟩ := idx_at at_ (nd + nq) hs0
        rw [Int.natCast_add] at hi1 hi2 hi3 hi4
        have hzs : ((nd : Int) + (nq : Int) == 0) = false := by rw [beq_eq_false_iff_ne]; omega
        have hia : (at_.tmod ((nd : Int) + (nq : Int)) + (nd : Int) + (nq : Int)) % ((nd : Int) + (nq : Int)) = (i : Int) := by rw [Int.add_assoc]; exact hi2
        have hib : (at_.tmod ((nd : Int) + (nq : Int)) + (nd : Int) + (nq : Int)).tmod ((nd : Int) + (nq : Int)) = (i : Int) := by rw [Int.add_assoc]; exact hi1
        have HI := Lib.hid (And.intro hia hib)
        clear hi1 hi2 hia hib
        go_upto_region 9 with fail
        go_cut [21] from 79 to 97 (fun v wx => v = .int .i64 (i : Int) ∧ W6 = wx)
        case first =>
          go_wp2_with fail
          go_meet
          first
            | exact ⟨congrArg (Value.int .i64) HI.out.1, rfl⟩
            | exact ⟨congrArg (Value.int .i64) HI.out.2, rfl⟩
        case rest =>
          obtain ⟨rfl, rfl⟩ := hcut
          clear HI hi3 hi4 hzs
          go_upto_if 102 with fail
          go_cut [22] from 98 to 117 (fun v wx => ∃ (Ao : Option Addr) (co : Nat) (bs : List G), v = .slice Ao bs.length co ∧ bs.length ≤ 12 ∧ Hid (OwnB wx b v bs) ∧ Hid (Below b W6 wx))
          case first =>
            have hbW : b ≤ W6.heap.size := Nat.le_of_eq HBW.out
            have HN0 := Lib.hid (N_empty KG 5 b W6 hbW)
            have HB0 := Lib.hid (show Below b W6 (W6.alloc (.cells #[] 5)) from (Below.refl _ _).alloc hbW _)
            by_cases hin : i < nd
            · have hini : (i : Int) < (nd : Int) := by omega
              obtain ⟨g, cx, he, hgB, hgW⟩ := HGD.out.form (by omega)
              injection he with he1 _ he2
              subst he1 he2
              have hcell := (HGD.out.cell i hin).1
              have hrow := HGD.out.row i hin
              obtain ⟨Ar, ar, hvr, _, _⟩ := V_open hrow
              rw [hvr] at hcell hrow
              have hrl : (rat D i).length ≤ 12 := HDL.out i
              have HRW := Lib.hid (Kd.V_mono (Kd.V_below (Kd.V_bound hrow) (below_alloc (Below.refl W6.heap.size W6) (.cells #[] 5))) (fun q hq => hq.2) : Vb (W6.alloc (.cells #[] 5)) (fun q => q < W6.heap.size) _ _)
              have HNE : Hid (∀ q, q < W6.heap.size → True ∧ some q ≠ (Value.slice (some ⟨W6.heap.size, 0, none⟩) 0 0).ownBlock) := Lib.hid (fun q hq => ⟨trivial, fun he => by injection he with he; exact absurd (he ▸ hq) (Nat.lt_irrefl _)⟩)
              clear hrow hvr
              generalize rat D i = y at *
              have hcell2 := pw_cell_below (below_alloc (Below.refl W6.heap.size W6) (.cells #[] 5)) hcell
              have HLY := Lib.hid (show (([] : List G).length + y.length) * 1 ≤ 140737488355328 by simp only [List.length_nil]; omega)
              go_wp2_with ((with_reducible refine gate_builtin (b := .append) (xs := #[.tmp 103, .tmp 107]) rfl ?_); at_builtin; refine Kd.N_append_rows KG (w0 := W6) b rfl (.tmp 103) (.tmp 107) 33 5 (.int .u8 0) 1 rfl Try.underlying33 info5 rfl (by decide) (by omega) _ [] y Ar y.length ar (fun _ => True) (fun q => q < W6.heap.size) rfl rfl HN0.out (Kd.V_F HRW.out) HNE.out (fun _ _ => trivial) HB0.out (Nat.le_trans hbW HB0.out.size) HLY.out ?_; intro v3 w3 hN3 hB3 hg hat)
              rw [List.nil_append] at hN3
              have hO3 := own_of_N hN3
              obtain ⟨A3, c3, hv3, _, _⟩ := V_open hO3.V
              subst hv3
              go_wp2_with fail
              go_meet
              exact ⟨A3, c3, y, rfl, hrl, Lib.hid hO3, Lib.hid hB3⟩
            · have hini : ¬ (i : Int) < (nd : Int) := by omega
              have hiq : i - nd < nq := by omega
              have hsub : IntKind.i64.wrap ((i : Int) - (nd : Int)) = ((i - nd : Nat) : Int) := by rw [IntWalk.i64_in _ (by omega)]; omega
              generalize i - nd = j at *
              obtain ⟨g, cx, he, hgB, hgW⟩ := HGQ.out.form (by omega)
              injection he with he1 _ he2
              subst he1 he2
              have hcell := (HGQ.out.cell j hiq).1
              have hrow := HGQ.out.row j hiq
              obtain ⟨Ar, ar, hvr, _, _⟩ := V_open hrow
              rw [hvr] at hcell hrow
              have hrl : (rat Q j).length ≤ 12 := HQL.out j
              have HRW := Lib.hid (Kd.V_mono (Kd.V_below (Kd.V_bound hrow) (below_alloc (Below.refl W6.heap.size W6) (.cells #[] 5))) (fun q hq => hq.2) : Vb (W6.alloc (.cells #[] 5)) (fun q => q < W6.heap.size) _ _)
              have HNE : Hid (∀ q, q < W6.heap.size → True ∧ some q ≠ (Value.slice (some ⟨W6.heap.size, 0, none⟩) 0 0).ownBlock) := Lib.hid (fun q hq => ⟨trivial, fun he => by injection he with he; exact absurd (he ▸ hq) (Nat.lt_irrefl _)⟩)
              clear hrow hvr
              generalize rat Q j = y at *
              have hcell2 := pw_cell_below (below_alloc (Below.refl W6.heap.size W6) (.cells #[] 5)) hcell
              have HLY := Lib.hid (show (([] : List G).length + y.length) * 1 ≤ 140737488355328 by simp only [List.length_nil]; omega)
              go_wp2_with ((with_reducible refine gate_builtin (b := .append) (xs := #[.tmp 109, .tmp 116]) rfl ?_); at_builtin; refine Kd.N_append_rows KG (w0 := W6) b rfl (.tmp 109) (.tmp 116) 33 5 (.int .u8 0) 1 rfl Try.underlying33 info5 rfl (by decide) (by omega) _ [] y Ar y.length ar (fun _ => True) (fun q => q < W6.heap.size) rfl rfl HN0.out (Kd.V_F HRW.out) HNE.out (fun _ _ => trivial) HB0.out (Nat.le_trans hbW HB0.out.size) HLY.out ?_; intro v3 w3 hN3 hB3 hg hat)
              rw [List.nil_append] at hN3
              have hO3 := own_of_N hN3
              obtain ⟨A3, c3, hv3, _, _⟩ := V_open hO3.V
              subst hv3
              go_wp2_with fail
              go_meet
              exact ⟨A3, c3, y, rfl, hrl, Lib.hid hO3, Lib.hid hB3⟩
          case rest =>
            obtain ⟨Ao, co, bs, rfl, hbl, HO, HBO⟩ := hcut
            have hby := wrap_toI by_
            generalize BitVec.ofInt 8 by_ = gb at *
            have HBY := Lib.hid hby
            clear hby
            go_upto_block 0 with fail
            go_cut [22] from 118 to 157 (fun v wx => ∃ (A4 : Option Addr) (c4 : Nat) (bs4 : List G), v = .slice A4 bs4.length c4 ∧ bs4.length ≤ 13 ∧ Hid (Vb wx (fun k => b ≤ k) v bs4) ∧ Hid (Below b W6 wx))
            case first =>
              have same : ∃ (A4 : Option Addr) (c4 : Nat) (bs4 : List G), Value.slice Ao bs.length co = .slice A4 bs4.length c4 ∧ bs4.length ≤ 13 ∧ Hid (Vb wc (fun k => b ≤ k) (.slice Ao bs.length co) bs4) ∧ Hid (Below b W6 wc) := ⟨Ao, co, bs, rfl, by omega, Lib.hid (Kd.V_mono HO.out.V (fun q hq => (HO.out.lt q hq.symm).1)), HBO⟩
              have HSAME := Lib.hid same
              have hbl0 := hbl
              have hbc : b ≤ wc.heap.size := Nat.le_trans (Nat.le_of_eq HBW.out) HBO.out.size
              clear same
              by_cases hk0 : kk = 0
              · have t0 : ((kk : Int) == 0) = true := by rw [beq_iff_eq]; omega
                have t1 : ((kk : Int) == 1) = false := by rw [beq_eq_false_iff_ne]; omega
                have t2 : ((kk : Int) == 2) = false := by rw [beq_eq_false_iff_ne]; omega
                clear hk0
                by_cases hl : 0 < bs.length
                · have hli : (0 : Int) < (bs.length : Int) := by omega
                  obtain ⟨go, cx, he, hgB, hgW⟩ := HO.out.form hl
                  injection he with he1 _ he2
                  subst he1 he2
                  obtain ⟨hcell, hfz⟩ := HO.out.at_ (bs.length - 1) (by omega)
                  have hset := HO.out.set_ (bs.length - 1) (bs.getD (bs.length - 1) 0 ^^^ gb)
                  have hx := toI_xor (bs.getD (bs.length - 1) 0) gb
                  have hwr : IntKind.i64.wrap ((bs.length : Int) - 1) = ((bs.length - 1 : Nat) : Int) := by rw [IntWalk.i64_in _ (by omega)]; omega
                  have hlast : bs.length - 1 < bs.length := by omega
                  have HLS : Hid ((bs.set (bs.length - 1) (bs.getD (bs.length - 1) 0 ^^^ gb)).length = bs.length) := Lib.hid (by rw [List.length_set])
                  have HSET := Lib.hid hset
                  have hby := HBY.out
                  clear hset
                  generalize bs.set (bs.length - 1) (bs.getD (bs.length - 1) 0 ^^^ gb) = bs2 at *
                  generalize bs.getD (bs.length - 1) 0 = x at *
                  generalize bs.length - 1 = j at *
                  generalize hn1 : bs.length = n1 at *
                  clear hn1
                  go_wp2_with fail
                  go_meet
                  refine ⟨some ⟨go, 0, none⟩, co, bs2, by rw [HLS.out], by rw [HLS.out]; omega, Lib.hid (Kd.V_mono HSET.out.1.V (fun q hq => (HSET.out.1.lt q hq.symm).1)), Lib.hid (HBO.out.trans (below_row HSET.out.2 hbc (fun q hq => by injection hq with hq; omega)))⟩
                · have hli : ¬ (0 : Int) < (bs.length : Int) := by omega
                  clear hl
                  go_wp2_with fail
                  go_meet
                  exact HSAME.out
              · by_cases hk1 : kk = 1
                · have t0 : ((kk : Int) == 0) = false := by rw [beq_eq_false_iff_ne]; omega
                  have t1 : ((kk : Int) == 1) = true := by rw [beq_iff_eq]; omega
                  have hbb := hbc
                  have hl7 : bs.length ≤ 70000 := by omega
                  have hby := HBY.out
                  clear hk0 hk1
                  go_wp2_with ((with_reducible refine gate_builtin (b := .append) (xs := #[.tmp 143, .tmp 146]) rfl ?_); at_builtin; refine app_own (w0 := W6) b rfl (.tmp 143) (.tmp 146) rfl _ bs gb rfl rfl HO.out HBO.out hbb hl7 ?_; intro v1 w3 hO1 hB1 hg1 hat1)
                  obtain ⟨A4, c4, hv4, _, _⟩ := V_open hO1.V
                  subst hv4
                  go_wp2_with fail
                  go_meet
                  exact ⟨A4, c4, bs ++ [gb], rfl, by rw [List.length_append]; simp; omega, Lib.hid (Kd.V_mono hO1.V (fun q hq => (hO1.lt q hq.symm).1)), Lib.hid hB1⟩
                · by_cases hk2 : kk = 2
                  · have t0 : ((kk : Int) == 0) = false := by rw [beq_eq_false_iff_ne]; omega
                    have t1 : ((kk : Int) == 1) = false := by rw [beq_eq_false_iff_ne]; omega
                    have t2 : ((kk : Int) == 2) = true := by rw [beq_iff_eq]; omega
                    clear hk0 hk1 hk2
                    by_cases hl : 0 < bs.length
                    · have hli : (0 : Int) < (bs.length : Int) := by omega
                      obtain ⟨A9, c9, hv9, hc9, _⟩ := V_open HO.out.V
                      injection hv9 with e1 _ e2
                      subst e1 e2
                      obtain ⟨A5', hrun, hV⟩ := run_drop Ao bs.length co 1 (by omega) hc9
                      have hVd := hV wc _ bs (Kd.V_mono HO.out.V (fun q hq => (HO.out.lt q hq.symm).1) : Vb wc (fun k => b ≤ k) _ bs)
                      have HVD := Lib.hid hVd
                      have HDL2 : Hid ((bs.drop 1).length = bs.length - 1) := Lib.hid (by rw [List.length_drop])
                      have hrun1 : ∀ W : World, (Instr.slice 33 (.slice Ao bs.length co) (some (.int .i64 1)) none none).run Try.prog W = .ok (.slice A5' (bs.length - 1) (co - 1)) W := hrun
                      have hm12 : bs.length - 1 ≤ 12 := by omega
                      clear hV hVd hrun
                      generalize bs.drop 1 = bs2 at *
                      generalize bs.length - 1 = m1 at *
                      generalize co - 1 = c1 at *
                      go_wp2_with fail
                      go_meet
                      exact ⟨A5', c1, bs2, by rw [HDL2.out], by have := HDL2.out; omega, HVD, HBO⟩
                    · have hli : ¬ (0 : Int) < (bs.length : Int) := by omega
                      clear hl
                      go_wp2_with fail
                      go_meet
                      exact HSAME.out
                  · have t0 : ((kk : Int) == 0) = false := by rw [beq_eq_false_iff_ne]; omega
                    have t1 : ((kk : Int) == 1) = false := by rw [beq_eq_false_iff_ne]; omega
                    have t2 : ((kk : Int) == 2) = false := by rw [beq_eq_false_iff_ne]; omega
                    clear hk0 hk1 hk2
                    go_wp2_with fail
                    go_meet
                    exact HSAME.out
            case rest =>
              obtain ⟨A4, c4, bs4, rfl, hb4, HV4, HB4⟩ := hcut
              have hBb : Below W6.heap.size W6 wc := by rw [← HBW.out]; exact HB4.out
              have hgd := HGD.out.below hBb
              have hgq := HGQ.out.below hBb
              have hsz := HSZ.out.below hBb
              have hac : a ≤ wc.heap.size := Nat.le_trans HAB.out (Nat.le_trans (Nat.le_of_eq HBW.out) hBb.size)
              have hBa : Below a W6 wc := HB4.out.mono HAB.out
              have HGDc := Lib.hid hgd; have HGQc := Lib.hid hgq; have HSZc := Lib.hid hsz; have HBa := Lib.hid hBa
              have hsd : Ap2 (.slice As nd cs) (.slice A5 nd c5) := own_type_ne hsz hgd.own (by decide)
              have hsq : Ap2 (.slice As nd cs) (.slice A6 nq c6) := own_type_ne hsz hgq.own (by decide)
              have HSD := Lib.hid (And.intro hsd hsq)
              have HV4b := Lib.hid (Kd.V_mono HV4.out (fun q hq => .inr hq) : Vb wc (fun k => k < a ∨ b ≤ k) _ bs4)
              clear hBb hgd hgq hsz hBa hsd hsq HV4 HB4 HGD HGQ HSZ HO HBO HBY
              by_cases hin : i < nd
              · have hini : (i : Int) < (nd : Int) := by omega
                obtain ⟨g, cx, he, hgB, hgW⟩ := HGDc.out.form (by omega)
                injection he with he1 _ he2
                subst he1 he2
                obtain ⟨hcell, hfz⟩ := HGDc.out.cell i hin
                have hst := HGDc.out.stored hin HV4b.out
                have hgb : g < b := HGDc.out.top g rfl
                have HST2 := Lib.hid hst
                clear hst
                go_wp2_with fail
                go_meet
                refine ⟨rfl, us.set i (.slice A4 bs4.length c4), uq, D.set i bs4, Q, Lib.hid HST2.out.1, Lib.hid (HGQc.out.grown HST2.out.2 (Ap2.symm HDQ.out) (fun k hk => by injection hk with hk; omega)), Lib.hid (HSZc.out.grown HST2.out.2 HSD.out.1), Lib.hid (len_set (by rw [HGDc.out.lr]; exact hin) (fun j => HDL.out j) hb4 rfl), Lib.hid (fun j => Nat.le_succ_of_le (HQL.out j)), Lib.hid (HBa.out.trans (below_row HST2.out.2 hac (fun k hk => by injection hk with hk; omega)))⟩
              · have hini : ¬ (i : Int) < (nd : Int) := by omega
                have hiq : i - nd < nq := by omega
                have hsub : IntKind.i64.wrap ((i : Int) - (nd : Int)) = ((i - nd : Nat) : Int) := by rw [IntWalk.i64_in _ (by omega)]; omega
                generalize i - nd = j at *
                obtain ⟨g, cx, he, hgB, hgW⟩ := HGQc.out.form (by omega)
                injection he with he1 _ he2
                subst he1 he2
                obtain ⟨hcell, hfz⟩ := HGQc.out.cell j hiq
                have hst := HGQc.out.stored hiq HV4b.out
                have hgb : g < b := HGQc.out.top g rfl
                have HST2 := Lib.hid hst
                clear hst
                go_wp2_with fail
                go_meet
                refine ⟨rfl, us, uq.set j (.slice A4 bs4.length c4), D, Q.set j bs4, Lib.hid (HGDc.out.grown HST2.out.2 HDQ.out (fun k hk => by injection hk with hk; omega)), Lib.hid HST2.out.1, Lib.hid (HSZc.out.grown HST2.out.2 HSD.out.2), Lib.hid (fun j => Nat.le_succ_of_le (HDL.out j)), Lib.hid (len_set (by rw [HGQc.out.lr]; exact hiq) (fun j => HQL.out j) hb4 rfl), Lib.hid (HBa.out.trans (below_row HST2.out.2 hac (fun k hk => by injection hk with hk; omega)))⟩
    case rest =>
      obtain ⟨rfl, us', uq', D', Q', HGD1, HGQ1, HSZ1, HDL1, HQL1, HB61⟩ := hcut
      clear HGD HGQ HSZ HDL HQL
      have hHSL := HSL.out
      go_upto_region 23 with fail
      go_cut [179] from 173 to 179 (fun v wx => v = .bool (decide (kk = 4 ∧ 0 < nd)) ∧ wc = wx)
      case first =>
        clear hHSL
        by_cases h1 : kk = 4
        · have t1 : ((kk : Int) == 4) = true := by rw [beq_iff_eq]; omega
          by_cases h2 : 0 < nd
          · have h2i : (0 : Int) < (nd : Int) := by omega
            have hd : decide (kk = 4 ∧ 0 < nd) = true := decide_eq_true ⟨h1, h2⟩
            have HD1 := Lib.hid hd
            clear h1 hd
            go_wp2_with fail
            go_meet
            exact ⟨by rw [HD1.out], rfl⟩
          · have h2i : ¬ (0 : Int) < (nd : Int) := by omega
            have hd : decide (kk = 4 ∧ 0 < nd) = false := decide_eq_false (fun h => h2 h.2)
            have HD1 := Lib.hid hd
            clear h1 hd
            go_wp2_with fail
            go_meet
            exact ⟨by rw [HD1.out], rfl⟩
        · have t1 : ((kk : Int) == 4) = false := by rw [beq_eq_false_iff_ne]; omega
          have hd : decide (kk = 4 ∧ 0 < nd) = false := decide_eq_false (fun h => h1 h.1)
          have HD1 := Lib.hid hd
          clear h1 hd
          go_wp2_with fail
          go_meet
          exact ⟨by rw [HD1.out], rfl⟩
      case rest =>
        obtain ⟨rfl, rfl⟩ := hcut
        clear hHSL
        go_upto_if 179 with fail
        go_cut [12] from 179 to 192 (fun v wx => v = .bool false ∧ ∃ S' : List Int, Hid (S'.length = nd) ∧ Hid (OwnI wx a (.slice As nd cs) S') ∧ Hid (Grp a b wx nd (.slice A5 nd c5) us' D') ∧ Hid (Grp a b wx nq (.slice A6 nq c6) uq' Q') ∧ Hid (Below a W6 wx))
        case first =>
          cases hgo : decide (kk = 4 ∧ 0 < nd)
          case false =>
            clear hgo
            go_wp2_with fail
            go_meet
            exact ⟨rfl, S, HSL, HSZ1, HGD1, HGQ1, HB61⟩
          case true =>
            have hnd : 0 < nd := (of_decide_eq_true hgo).2
            clear hgo
            obtain ⟨i, hi, hi1, hi2, hi3, hi4⟩ := idx_at at_ nd hnd
            have hzs : ((nd : Int) == 0) = false := by rw [beq_eq_false_iff_ne]; omega
            obtain ⟨g, cx, he, hgB, hgW⟩ := HSZ1.out.form (by rw [HSL.out]; exact hnd)
            rw [HSL.out] at he
            injection he with he1 _ he2
            subst he1 he2
            obtain ⟨hcell, hfz⟩ := HSZ1.out.at_ i (by rw [HSL.out]; exact hi)
            have hset := HSZ1.out.set_ i by_
            have HSET := Lib.hid hset
            have hsd : Ap2 (.slice (some ⟨g, 0, none⟩) nd cs) (.slice A5 nd c5) := own_type_ne HSZ1.out HGD1.out.own (by decide)
            have hsq : Ap2 (.slice (some ⟨g, 0, none⟩) nd cs) (.slice A6 nq c6) := own_type_ne HSZ1.out HGQ1.out.own (by decide)
            have HSD := Lib.hid (And.intro hsd hsq)
            have hgb : g < b := HST.out g rfl
            have hac : a ≤ wc.heap.size := Nat.le_trans hgB (Nat.le_of_lt hgW)
            clear hset hsd hsq
            go_wp2_with fail
            go_meet
            refine ⟨rfl, S.set i by_, Lib.hid (by rw [List.length_set]; exact HSL.out), Lib.hid HSET.out.1, Lib.hid (HGD1.out.grown HSET.out.2 (Ap2.symm HSD.out.1) (fun k hk => by injection hk with hk; omega)), Lib.hid (HGQ1.out.grown HSET.out.2 (Ap2.symm HSD.out.2) (fun k hk => by injection hk with hk; omega)), Lib.hid (HB61.out.trans (below_row HSET.out.2 hac (fun k hk => by injection hk with hk; omega)))⟩
        case rest =>
          obtain ⟨rfl, S', HSL2, HSZ2, HGD2, HGQ2, HB62⟩ := hcut
          clear HSL HSZ1 HGD1 HGQ1 HB61
          go_upto_if 194 with fail
          go_cut [16] from 193 to 198 (fun v wx => ∃ (A7 : Option Addr) (c7 : Nat) (S2 : List Int), v = .slice A7 S2.length c7 ∧ S2.length ≤ 8 ∧ Hid (Vi wx (fun _ => True) v S2) ∧ Hid (Vbb wx (fun _ => True) (.slice A5 nd c5) D') ∧ Hid (Vbb wx (fun _ => True) (.slice A6 nq c6) Q') ∧ Hid (Below a W6 wx))
          case first =>
            by_cases h5 : kk = 5
            · have t5 : ((kk : Int) == 5) = true := by rw [beq_iff_eq]; omega
              have hl7 : S'.length ≤ 70000 := by rw [HSL2.out]; omega
              have haw : a ≤ wc.heap.size := Nat.le_trans HAB.out (Nat.le_trans (Nat.le_of_eq HBW.out) HB62.out.size)
              have HSD := Lib.hid (And.intro (own_type_ne HSZ2.out HGD2.out.own (by decide) : Ap2 (.slice As nd cs) (.slice A5 nd c5)) (own_type_ne HSZ2.out HGQ2.out.own (by decide) : Ap2 (.slice As nd cs) (.slice A6 nq c6)))
              have HGR : Hid (∀ k, (Value.slice As nd cs).ownBlock = some k → a ≤ k ∧ k < b) := Lib.hid (fun k hk => ⟨(HSZ2.out.lt k hk).1, HST.out k hk⟩)
              have HL7 := Lib.hid hl7
              clear h5 hl7
              go_wp2_with ((with_reducible refine gate_builtin (b := .append) (xs := #[.tmp 195, .tmp 197]) rfl ?_); at_builtin; refine app_int (w0 := W6) a rfl (.tmp 195) (.tmp 197) rfl _ S' by_ rfl rfl HSZ2.out HB62.out haw HL7.out ?_; intro v1 w1' hO1 hB1 hg1 hat1)
              have hgd := HGD2.out.grown hg1 (Ap2.symm HSD.out.1) HGR.out
              have hgq := HGQ2.out.grown hg1 (Ap2.symm HSD.out.2) HGR.out
              obtain ⟨A7, c7, hv7, _, _⟩ := V_open hO1.V
              subst hv7
              go_wp2_with fail
              go_meet
              exact ⟨A7, c7, S' ++ [by_], rfl, by rw [List.length_append, HSL2.out]; simp; omega, Lib.hid (Kd.V_mono hO1.V (fun _ _ => trivial)), Lib.hid (hgd.outs.V (by omega)), Lib.hid (hgq.outs.V (by omega)), Lib.hid hB1⟩
            · have t5 : ((kk : Int) == 5) = false := by rw [beq_eq_false_iff_ne]; omega
              clear h5
              go_wp2_with fail
              go_meet
              exact ⟨As, cs, S', by rw [HSL2.out], by rw [HSL2.out]; omega, Lib.hid (Kd.V_mono HSZ2.out.V (fun _ _ => trivial)), Lib.hid (HGD2.out.outs.V (by omega)), Lib.hid (HGQ2.out.outs.V (by omega)), HB62⟩
          case rest =>
            obtain ⟨A7, c7, S2, rfl, hS8, HVS, HVD, HVQ, HB7⟩ := hcut
            have HlD := Lib.hid HGD2.out.lr
            have HlQ := Lib.hid HGQ2.out.lr
            clear HSL2 HSZ2 HGD2 HGQ2 HB62 HST HDQ
            go_wp2_with fail
            obtain ⟨wo, rfl⟩ : ∃ wo : World, wo = wc := ⟨_, rfl⟩
            go_loopw [23, 25] (fun vo i wr => ∃ k : Nat, i = .int .i64 k ∧ k ≤ nd ∧ Hid (Kd.N KGs 33 wr wo.heap.size (fun _ => True) vo (D'.take k)) ∧ Hid (Below wo.heap.size wo wr)) (fun _ i _ => nd - (intOf i).toNat)
            case atStart => exact ⟨0, rfl, Nat.zero_le _, Lib.hid (by rw [List.take_zero]; exact Kd.N_nil _ _ _ _ _), Lib.hid (Below.refl _ _)⟩
            case round =>
              obtain ⟨k, rfl, hk, HN, HB⟩ := hrel
              by_cases hlt : k < nd
              · have hkD : k < D'.length := by rw [HlD.out]; exact hlt
                obtain ⟨ad, A1, c1, rfl, hcell, HV2, _⟩ := Vbb_row (Kd.V_below HVD.out HB.out) k hkD
                have hcell2 := pw_cell_below (below_alloc (Below.refl wr.heap.size wr) (.cells #[] 5)) hcell
                have hy13 : (D'.getD k []).length ≤ 13 := HDL1.out k
                have HT := Lib.hid (takeL_succ D' k hkD)
                have HRW := Lib.hid (Kd.V_mono (Kd.V_below (Kd.V_bound HV2) (below_alloc (Below.refl wr.heap.size wr) (.cells #[] 5))) (fun q hq => hq.2) : Vb (wr.alloc (.cells #[] 5)) (fun q => q < wr.heap.size) _ _)
                have HTL : Hid ((D'.take k).length = k) := Lib.hid (by rw [List.length_take]; omega)
                clear HV2 hkD
                generalize D'.getD k [] = y at *
                have HNE : Hid (∀ q, q < wr.heap.size → True ∧ some q ≠ (Value.slice (some ⟨wr.heap.size, 0, none⟩) 0 0).ownBlock) := Lib.hid (fun q hq => ⟨trivial, fun he => by injection he with he; exact absurd (he ▸ hq) (Nat.lt_irrefl _)⟩)
                have HLY := Lib.hid (show (([] : List G).length + y.length) * 1 ≤ 140737488355328 by simp only [List.length_nil]; omega)
                have HN0 := Lib.hid (N_empty KG 5 wr.heap.size wr (Nat.le_refl _))
                have HB0 := Lib.hid (below_alloc (Below.refl wr.heap.size wr) (.cells #[] 5))
                have HL24 := Lib.hid (show ((D'.take k).length + 1) * 24 ≤ 140737488355328 by rw [HTL.out]; omega)
                have hwo := HB.out.size
                go_wp2_with (first | ((with_reducible refine gate_builtin (b := .append) (xs := #[.tmp 206, .tmp 210]) rfl ?_); at_builtin; refine Kd.N_append_rows KG (w0 := wr) wr.heap.size rfl (.tmp 206) (.tmp 210) 33 5 (.int .u8 0) 1 rfl Try.underlying33 info5 rfl (by decide) (by omega) _ [] y A1 y.length c1 (fun _ => True) (fun q => q < wr.heap.size) rfl rfl HN0.out (Kd.V_F HRW.out) HNE.out (fun _ _ => trivial) HB0.out HB0.out.size HLY.out ?_; intro v3 w3 hN3 hB3 hg hat; rw [List.nil_append] at hN3; have hO3 := own_of_N hN3; obtain ⟨A3, c3, rfl, _, _⟩ := V_open hO3.V; have HO3 := Lib.hid hO3; have HB3 := Lib.hid (HB.out.trans (hB3.mono hwo)); have HN3 := Lib.hid (Kd.N_below HN.out hB3); have HNE3 : Hid (∀ q, some q = (Value.slice A3 y.length c3).ownBlock → True ∧ some q ≠ u23.ownBlock) := Lib.hid (fun q hq => ⟨trivial, fun he => by have h1 := (World.ownsRow.lt HO3.out q hq.symm).1; have h2 := Kd.N_lt HN.out q he.symm; omega⟩); clear hN3 hO3 hB3 hg hat) | ((with_reducible refine gate_builtin (b := .append) (xs := #[.tmp 205, .tmp 212]) rfl ?_); at_builtin; refine Kd.N_append KGs (w0 := wo) wo.heap.size rfl (.tmp 205) (.tmp 212) 30 33 (.slice none 0 0) 24 rfl Try.underlying30 info33 rfl (by decide) (by omega) u23 (D'.take k) y [.slice A3 y.length c3] (fun _ => True) (fun q => some q = (Value.slice A3 y.length c3).ownBlock) rfl rfl (Kd.FK_of_M ⟨_, rfl, HO3.out.R⟩) HNE3.out (fun _ _ => trivial) HN3.out HB3.out HB3.out.size HL24.out ?_; intro v4 w4 hN4 hB4 _ _))
                rw [← HT.out] at hN4
                exact ⟨⟨k + 1, by go_num, by omega, Lib.hid hN4, Lib.hid hB4⟩, by simp [intOf]; omega⟩
              · obtain rfl : nd = k := by omega
                have HNB := HN
                rw [show D'.take nd = D' from by rw [← HlD.out]; exact List.take_length] at HNB
                have HVB := Lib.hid (Kd.N_V (base' := 0) HNB.out)
                obtain ⟨A8, c8, hv8, _, _⟩ := V_open HVB.out
                subst hv8
                have HVD8 := Lib.hid (Kd.V_below HVD.out HB.out)
                have HVQ8 := Lib.hid (Kd.V_below HVQ.out HB.out)
                have HVS8 := Lib.hid (Kd.V_below HVS.out HB.out)
                have HB8 := Lib.hid (HB7.out.trans (HB.out.mono (Nat.le_trans HAB.out (Nat.le_trans (Nat.le_of_eq HBW.out) HB7.out.size))))
                clear HN HNB HB HVD HVQ HVS HB7
                go_wp2_with fail
                obtain ⟨wp, rfl⟩ : ∃ wp : World, wp = wr := ⟨_, rfl⟩
                go_loopw [24, 26] (fun vo i wr => ∃ k : Nat, i = .int .i64 k ∧ k ≤ nq ∧ Hid (Kd.N KGs 33 wr wp.heap.size (fun _ => True) vo (Q'.take k)) ∧ Hid (Below wp.heap.size wp wr)) (fun _ i _ => nq - (intOf i).toNat)
                case atStart => exact ⟨0, rfl, Nat.zero_le _, Lib.hid (by rw [List.take_zero]; exact Kd.N_nil _ _ _ _ _), Lib.hid (Below.refl _ _)⟩
                case round =>
                  obtain ⟨k, rfl, hk, HN, HB⟩ := hrel
                  by_cases hlt : k < nq
                  · have hkQ : k < Q'.length := by rw [HlQ.out]; exact hlt
                    obtain ⟨ad, A1, c1, rfl, hcell, HV2, _⟩ := Vbb_row (Kd.V_below HVQ8.out HB.out) k hkQ
                    have hcell2 := pw_cell_below (below_alloc (Below.refl wr.heap.size wr) (.cells #[] 5)) hcell
                    have hy13 : (Q'.getD k []).length ≤ 13 := HQL1.out k
                    have HT := Lib.hid (takeL_succ Q' k hkQ)
                    have HRW := Lib.hid (Kd.V_mono (Kd.V_below (Kd.V_bound HV2) (below_alloc (Below.refl wr.heap.size wr) (.cells #[] 5))) (fun q hq => hq.2) : Vb (wr.alloc (.cells #[] 5)) (fun q => q < wr.heap.size) _ _)
                    have HTL : Hid ((Q'.take k).length = k) := Lib.hid (by rw [List.length_take]; omega)
                    clear HV2 hkQ
                    generalize Q'.getD k [] = y at *
                    have HNE : Hid (∀ q, q < wr.heap.size → True ∧ some q ≠ (Value.slice (some ⟨wr.heap.size, 0, none⟩) 0 0).ownBlock) := Lib.hid (fun q hq => ⟨trivial, fun he => by injection he with he; exact absurd (he ▸ hq) (Nat.lt_irrefl _)⟩)
                    have HLY := Lib.hid (show (([] : List G).length + y.length) * 1 ≤ 140737488355328 by simp only [List.length_nil]; omega)
                    have HN0 := Lib.hid (N_empty KG 5 wr.heap.size wr (Nat.le_refl _))
                    have HB0 := Lib.hid (below_alloc (Below.refl wr.heap.size wr) (.cells #[] 5))
                    have HL24 := Lib.hid (show ((Q'.take k).length + 1) * 24 ≤ 140737488355328 by rw [HTL.out]; omega)
                    have hwo := HB.out.size
                    go_wp2_with (first | ((with_reducible refine gate_builtin (b := .append) (xs := #[.tmp 221, .tmp 225]) rfl ?_); at_builtin; refine Kd.N_append_rows KG (w0 := wr) wr.heap.size rfl (.tmp 221) (.tmp 225) 33 5 (.int .u8 0) 1 rfl Try.underlying33 info5 rfl (by decide) (by omega) _ [] y A1 y.length c1 (fun _ => True) (fun q => q < wr.heap.size) rfl rfl HN0.out (Kd.V_F HRW.out) HNE.out (fun _ _ => trivial) HB0.out HB0.out.size HLY.out ?_; intro v3 w3 hN3 hB3 hg hat; rw [List.nil_append] at hN3; have hO3 := own_of_N hN3; obtain ⟨A3, c3, rfl, _, _⟩ := V_open hO3.V; have HO3 := Lib.hid hO3; have HB3 := Lib.hid (HB.out.trans (hB3.mono hwo)); have HN3 := Lib.hid (Kd.N_below HN.out hB3); have HNE3 : Hid (∀ q, some q = (Value.slice A3 y.length c3).ownBlock → True ∧ some q ≠ u24.ownBlock) := Lib.hid (fun q hq => ⟨trivial, fun he => by have h1 := (World.ownsRow.lt HO3.out q hq.symm).1; have h2 := Kd.N_lt HN.out q he.symm; omega⟩); clear hN3 hO3 hB3 hg hat) | ((with_reducible refine gate_builtin (b := .append) (xs := #[.tmp 220, .tmp 227]) rfl ?_); at_builtin; refine Kd.N_append KGs (w0 := wp) wp.heap.size rfl (.tmp 220) (.tmp 227) 30 33 (.slice none 0 0) 24 rfl Try.underlying30 info33 rfl (by decide) (by omega) u24 (Q'.take k) y [.slice A3 y.length c3] (fun _ => True) (fun q => some q = (Value.slice A3 y.length c3).ownBlock) rfl rfl (Kd.FK_of_M ⟨_, rfl, HO3.out.R⟩) HNE3.out (fun _ _ => trivial) HN3.out HB3.out HB3.out.size HL24.out ?_; intro v4 w4 hN4 hB4 _ _))
                    rw [← HT.out] at hN4
                    exact ⟨⟨k + 1, by go_num, by omega, Lib.hid hN4, Lib.hid hB4⟩, by simp [intOf]; omega⟩
                  · obtain rfl : nq = k := by omega
                    have HNK := HN
                    rw [show Q'.take nq = Q' from by rw [← HlQ.out]; exact List.take_length] at HNK
                    have HVK := Lib.hid (Kd.N_V (base' := 0) HNK.out)
                    obtain ⟨A9, c9, hv9, _, _⟩ := V_open HVK.out
                    subst hv9
                    have HVB9 := Lib.hid (Kd.V_below HVB.out HB.out)
                    have HVD9 := Lib.hid (Kd.V_below HVD8.out HB.out)
                    have HVQ9 := Lib.hid (Kd.V_below HVQ8.out HB.out)
                    have HVS9 := Lib.hid (Kd.V_below HVS8.out HB.out)
                    have haw := Nat.le_trans HAB.out (Nat.le_trans (Nat.le_of_eq HBW.out) HB8.out.size)
                    have HB9 := Lib.hid (HB8.out.trans (HB.out.mono haw))
                    clear HN HNK HB HVB HVD8 HVQ8 HVS8 HB8
                    go_wp2_with fail
                    refine (repair_any D' Q' S2 _ _ _ _ HVD9.out HVQ9.out HVS9.out).mono ?_
                    rintro e w10 hrep
                    obtain ⟨X, hX, va, vb, rfl, hva, hvb, hB10⟩ := hrep.ans
                    have HX := Lib.hid hX
                    have HVA := Lib.hid hva; have HVBB := Lib.hid hvb; have HB10 := Lib.hid hB10
                    clear hX hva hvb hB10 hrep
                    go_wp2_with fail
                    refine (refrepair_any D' Q' S2 X HX.out _ _ _ w10 (Kd.V_below HVD9.out HB10.out) (Kd.V_below HVQ9.out HB10.out) (Kd.V_below HVS9.out HB10.out)).mono ?_
                    rintro e w11 hrep
                    obtain ⟨vx, vy, rfl, hvx, hvy, hB11⟩ := hrep.ans
                    have HVX := Lib.hid hvx; have HVY := Lib.hid hvy; have HB11 := Lib.hid hB11
                    clear hvx hvy hB11 hrep
                    generalize ansE D' Q' S2 X = er at *
                    go_wp2_with fail
                    have hmk17 := mk17
                    have hmki17 := mki17
                    have hl1 := limit_any (Kd.V_below (nils_V w11 17 (by omega)) (below_drew (below_alloc (Below.refl _ _) (.cells (zers 17) 3)))) (Kd.V_nil KGs 33 ((w11.alloc (.cells (nils 17) 33)).alloc (.cells (zers 17) 3)).drew 0 (fun _ => True)) (Kd.V_drew (zers_V (w11.alloc (.cells (nils 17) 33)) 17 (by omega))) (.inl (by simp))
                    have hl2 := limit_any (Kd.V_drew (nils_V (w11.alloc (.cells (zers 17) 3)) 17 (by omega))) (Kd.V_nil KGs 33 ((w11.alloc (.cells (zers 17) 3)).alloc (.cells (nils 17) 33)).drew 0 (fun _ => True)) (Kd.V_below (zers_V w11 17 (by omega)) (below_drew (below_alloc (Below.refl _ _) (.cells (nils 17) 33)))) (.inl (by simp))
                    rw [World.size_alloc] at hl1 hl2
                    have HL1 := Lib.hid hl1
                    have HL2 := Lib.hid hl2
                    clear hl1 hl2
                    go_region_held3 (fun _ => True) (trivial) (first | ((with_reducible go_at_call 29); (with_reducible refine (Hid.out HL1).mono ?_); rintro e w12 ⟨rfl, hB12⟩; have HB12 := Lib.hid ((below_drew (below_alloc (below_alloc (Below.refl w11.heap.size w11) _) _)).trans (hB12.mono (by simp only [World.size_drew, World.size_alloc]; omega))); clear hB12) | ((with_reducible go_at_call 29); (with_reducible refine (Hid.out HL2).mono ?_); rintro e w12 ⟨rfl, hB12⟩; have HB12 := Lib.hid ((below_drew (below_alloc (below_alloc (Below.refl w11.heap.size w11) _) _)).trans (hB12.mono (by simp only [World.size_drew, World.size_alloc]; omega))); clear hB12))
                    all_goals
                      clear HL1 HL2 hmk17 hmki17
                      have hmk5 := mk5
                      have HL3 := Lib.hid (limit_any (Kd.V_nil KGs 33 (w12.alloc (.cells (nils 5) 33)) 0 (fun _ => True)) (nils_V w12 5 (by omega)) (Kd.V_nil (Kd.int .i64) 3 (w12.alloc (.cells (nils 5) 33)) 0 (fun _ => True)) (.inr (by simp)))
                      go_wp2_with (go_at_call 29; refine HL3.out.mono ?_; rintro e w13 ⟨rfl, hB13⟩; have HB13 := Lib.hid (below_tr (below_alloc (Below.refl w12.heap.size w12) (.cells (nils 5) 33)) hB13); clear hB13)
                      have hB1113 := HB12.out.trans (HB13.out.mono HB12.out.size)
                      have hB1013 := HB11.out.trans (hB1113.mono HB11.out.size)
                      have hB913 := HB10.out.trans (hB1013.mono HB10.out.size)
                      have hSZ9 := Nat.le_trans HAW.out (Nat.le_trans HAB.out (Nat.le_trans (Nat.le_of_eq HBW.out) HB9.out.size))
                      have HBALL := Lib.hid (HB16.out.trans ((HB9.out.mono HAW.out).trans (hB913.mono hSZ9)))
                      have HVA3 := Lib.hid (Kd.V_below HVA.out hB1013)
                      have HVB3 := Lib.hid (Kd.V_below HVBB.out hB1013)
                      have HVX3 := Lib.hid (Kd.V_below HVX.out hB1113)
                      have HVY3 := Lib.hid (Kd.V_below HVY.out hB1113)
                      have HB93 := Lib.hid (Kd.V_below HVB9.out hB913)
                      have HK93 := Lib.hid (Kd.V_below HVK.out hB913)
                      have HD93 := Lib.hid (Kd.V_below HVD9.out hB913)
                      have HQ93 := Lib.hid (Kd.V_below HVQ9.out hB913)
                      clear hB1113 hB1013 hB913 hSZ9 hmk5 HL3
                      go_wp2_with fail
                      refine (same_any (ansA D' Q' S2 X) (ansA D' Q' S2 X) _ _ w13 HVA3.out HVX3.out).mono ?_
                      rintro e w' ⟨rfl, n1, rfl⟩
                      rw [show decide (ansA D' Q' S2 X = ansA D' Q' S2 X) = true from decide_eq_true rfl]
                      go_wp2_with fail
                      refine (same_any (ansB D' Q' S2 X) (ansB D' Q' S2 X) _ _ (w13.drewN n1) (Kd.V_drewN HVB3.out n1) (Kd.V_drewN HVY3.out n1)).mono ?_
                      rintro e w' ⟨rfl, n2, rfl⟩
                      rw [show decide (ansB D' Q' S2 X = ansB D' Q' S2 X) = true from decide_eq_true rfl]
                      go_wp2_with fail
                      refine (same_any D' D' _ _ (w13.drewN (n1 + n2)) (Kd.V_drewN HB93.out (n1 + n2)) (Kd.V_drewN HD93.out (n1 + n2))).mono ?_
                      rintro e w' ⟨rfl, n3, rfl⟩
                      rw [show decide (D' = D') = true from decide_eq_true rfl]
                      go_wp2_with fail
                      refine (same_any Q' Q' _ _ (w13.drewN (n1 + n2 + n3)) (Kd.V_drewN HK93.out (n1 + n2 + n3)) (Kd.V_drewN HQ93.out (n1 + n2 + n3))).mono ?_
                      rintro e w' ⟨rfl, n4, rfl⟩
                      rw [show decide (Q' = Q') = true from decide_eq_true rfl]
                      go_wp2_with fail
                      refine (lives_any _).mono ?_
                      rintro e w14 ⟨rfl, hB14⟩
                      have HB14 := Lib.hid hB14
                      clear hB14
                      go_wp2_with fail
                      go_ret
                      refine ⟨rfl, ?_⟩
                      have h1 := below_drewN HBALL.out (n1 + n2 + n3 + n4)
                      exact h1.trans (HB14.out.mono h1.size)
end Go.Proofs.Ytiggohkkokalcaa
