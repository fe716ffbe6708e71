/- The walk of the law of Scrub. -/
import Derived.Test.YtiggohkkokalcaaRefScrubAll
import Derived.Test.YtiggohkkokalcaaRefMake
import Derived.Test.YtiggohkkokalcaaRepAns
import Derived.Test.YtiggohkkokalcaaU64
import Derived.Deep.RegionHeld3
import Derived.Deep.QuietTactic
import Derived.BigQuiet
import Derived.Deep.CutBlock
import Derived.Deep.DeepCutAuto
namespace Go.Proofs.Ytiggohkkokalcaa
open Go.RowKit Go.Shelf Go.Proofs.YtiggohkkokalcaaW.PrintWords Go.Proofs.YtiggohkkokalcaaW.PrintMore
set_option linter.unusedVariables false
set_option linter.unusedSimpArgs false
attribute [local go_sem] min_one_len

theorem hashesG_getD (ds ps : List (List G)) (i : Nat) (h : i < ds.length) : (hashesG ds ps).getD i 0 = hashG (ds.getD i []) := by
  unfold hashesG
  rw [List.getD_eq_getElem?_getD, List.getElem?_map, List.getElem?_append_left h, List.getD_eq_getElem?_getD, List.getElem?_eq_getElem h, Option.map_some, Option.getD_some, Option.getD_some]
theorem hashesG_length (ds ps : List (List G)) : (hashesG ds ps).length = ds.length + ps.length := by
  unfold hashesG
  rw [List.length_map, List.length_append]
theorem par_short {data : List (List G)} (f : Nat) (h12 : ∀ b ∈ data, b.length ≤ 12) (b : List G) (h : b ∈ data ++ makeG data f) : b.length ≤ 12 := by
  rw [List.mem_append] at h
  rcases h with h | h
  · exact h12 b h
  · obtain ⟨j, hj, rfl⟩ := List.mem_iff_getElem.1 h
    have hj2 : j < f := by rw [makeG_length] at hj; exact hj
    have e : (makeG data f)[j] = (makeG data f).getD j [] := by rw [List.getD_eq_getElem?_getD, List.getElem?_eq_getElem hj]; rfl
    rw [e, makeG_getD _ _ _ hj2, parG_length]
    exact longTo_le data 12 (fun i hi => h12 _ (by rw [List.getD_eq_getElem?_getD, List.getElem?_eq_getElem hi]; exact List.getElem_mem hi)) _ (Nat.le_refl _)

set_option maxRecDepth 100000 in
set_option maxHeartbeats 8000000 in
theorem scrubs_walk (xs : List Int) (v : Value) (n at_ : Int) (by_ : Nat) (w : World) (HV : Vi w (fun _ => True) v xs) :
    Calls Try.prog 6 #[v, .int .i64 n, .int .i64 at_, .int .u64 (by_ : Int)] w fun e w' => e = .returned (.bool true) ∧ Below w.heap.size w w' := by
  obtain ⟨A, c, rfl, hc, hm⟩ := V_open HV
  have HHV := Lib.hid HV
  have hf4 := fewN_le n
  clear HV
  go_enter Try.func6, Try.ntmps6
  go_wp2_with fail
  refine (blocks_any xs _ w HHV.out).mono ?_
  rintro e w1 ⟨u, data, rfl, hD, hS, hB⟩
  obtain ⟨Ad, cd, rfl, hcd, _⟩ := V_open hD
  have HD := Lib.hid hD
  have HB := Lib.hid hB
  have hl7 := hS.1
  have H12 := Lib.hid hS.2
  have hlong : longG data ≤ 65536 := Nat.le_trans (longTo_le data 12 (fun i hi => hS.2 _ (by rw [List.getD_eq_getElem?_getD, List.getElem?_eq_getElem hi]; exact List.getElem_mem hi)) _ (Nat.le_refl _)) (by decide)
  have HME := Lib.hid (makeErr_ok data (fewN n) hf4 (by omega) hlong)
  have HMO := Lib.hid (makeOut_ok data (fewN n) HME.out)
  clear hD hB hS HHV hlong
  go_wp2_with fail
  refine (few_any n _).mono ?_
  rintro e w' ⟨rfl, rfl⟩
  go_wp2_with fail
  refine (refmake_any data (fewN n) _ w1 HD.out).mono ?_
  rintro e w2 ⟨vp, rfl, hP, hB2⟩
  have hme := HME.out
  rw [HMO.out] at hP
  rw [hme]
  obtain ⟨Ap, cp, hvp, hcp, _⟩ := V_open hP
  subst hvp
  have hpl : (makeG data (fewN n)).length ≤ 4 := by rw [makeG_length]; omega
  have HBL : Hid (∀ b ∈ data ++ makeG data (fewN n), b.length ≤ 70000) := Lib.hid (fun b hb => Nat.le_trans (par_short (fewN n) H12.out b hb) (by decide))
  have HP := Lib.hid hP
  have HB12 := Lib.hid (HB.out.trans (hB2.mono HB.out.size))
  have HD2 := Lib.hid (Kd.V_below HD.out hB2)
  clear hP hB2 hme HME HMO HD HB
  generalize makeG data (fewN n) = par at *
  go_wp2_with fail
  refine (hashes_any data par _ _ _ _ (by omega) (by omega) HBL.out w2 HD2.out HP.out).mono ?_
  rintro e w3 ⟨vh, rfl, hH, hB3⟩
  obtain ⟨Ah, ch, rfl, hch⟩ := hH.len
  have HH := Lib.hid hH
  have HB3 := Lib.hid hB3
  have HD3 := Lib.hid (Kd.V_below HD2.out hB3)
  have HP3 := Lib.hid (Kd.V_below HP.out hB3)
  clear hH hB3
  go_wp2_with fail
  refine (refhashes_any data par _ _ _ _ (by omega) (by omega) HBL.out w3 HD3.out HP3.out).mono ?_
  rintro e w4 ⟨vw, rfl, hW, hB4⟩
  obtain ⟨Aw, cw, rfl, hcw⟩ := hW.len
  have HW := Lib.hid (Kd.V_bound (Kd.V_mono hW.V (fun _ _ => trivial)) : Vu w4 (fun k => True ∧ k < w4.heap.size) _ _)
  have HH4 := Lib.hid (Kd.V_bound (Kd.V_mono (HH.out.below hB4).V (fun _ _ => trivial)) : Vu w4 (fun k => True ∧ k < w4.heap.size) _ _)
  have HD4 := Lib.hid (Kd.V_bound (Kd.V_below HD3.out hB4))
  have HP4 := Lib.hid (Kd.V_bound (Kd.V_below HP3.out hB4))
  have HB14 := Lib.hid (HB12.out.trans ((HB3.out.trans (hB4.mono HB3.out.size)).mono HB12.out.size))
  have HHG := Lib.hid (hashesG_getD data par)
  have hhl := hashesG_length data par
  clear hW hB4 HH HB3 HD3 HP3 HP HD2 HB12
  have HGB := HBL
  have HSC := Lib.hid (fun (want : List Nat) A3 c3 W (h1 : Below w4.heap.size w4 W) hw => scrub_any data par want Ad Ap A3 cd cp c3 (by omega) (by omega) HGB.out W (Kd.V_mono (lowX HD4.out h1) (fun _ _ => trivial)) (Kd.V_mono (lowX HP4.out h1) (fun _ _ => trivial)) hw)
  have HRC := Lib.hid (fun (want : List Nat) A3 c3 W (h1 : Below w4.heap.size w4 W) hw => refscrub_any data par want Ad Ap A3 cd cp c3 (by omega) (by omega) HGB.out W (Kd.V_mono (lowX HD4.out h1) (fun _ _ => trivial)) (Kd.V_mono (lowX HP4.out h1) (fun _ _ => trivial)) hw)
  have hh11 : (hashesG data par).length ≤ 11 := by omega
  generalize hashesG data par = h at *
  have HHL := Lib.hid hhl
  have hne : ((h.length : Int) != (h.length : Int)) = false := by rw [bne_eq_false_iff_eq]
  have hdl : data.length ≤ h.length := by omega
  clear hhl HGB HP4
  go_wp2_with fail
  go_loopw [14] (fun i wr => ∃ k : Nat, i = .int .i64 k ∧ k ≤ h.length ∧ Hid (Below w4.heap.size w4 wr)) (fun i _ => h.length - (intOf i).toNat)
  case atStart => exact ⟨0, rfl, Nat.zero_le _, Lib.hid (Below.refl _ _)⟩
  case round =>
    obtain ⟨k, rfl, hk, HB⟩ := hrel
    by_cases hlt : k < h.length
    · have hk0 : (0 : Int) ≤ (k : Int) := by omega
      have hki : (k : Int) < (h.length : Int) := by omega
      obtain ⟨ah, rfl, hcell, _⟩ := V_scalar (lowX HH4.out HB.out) 0 k hlt
      obtain ⟨aw, rfl, hcell2, _⟩ := V_scalar (lowX HW.out HB.out) 0 k hlt
      unfold encN at hcell hcell2
      by_cases hkd : k < data.length
      · have hkdi : (k : Int) < (data.length : Int) := by omega
        have hkdb : decide ((k : Int) < (data.length : Int)) = true := decide_eq_true hkdi
        obtain ⟨ad, A3, c3, rfl, hcell3, HR, _⟩ := Vbb_row (lowX HD4.out HB.out) k hkd
        have HH1 := Lib.hid (hash_any (data.getD k []) A3 c3 (HBL.out _ (List.mem_append_left _ (by rw [List.getD_eq_getElem?_getD, List.getElem?_eq_getElem hkd]; exact List.getElem_mem hkd))) wr.drew (Kd.V_drew (Kd.V_mono HR (fun _ _ => trivial))))
        rw [← HHG.out k hkd] at HH1
        clear HR
        generalize data.getD k [] = b at *
        generalize h.getD k 0 = x at *
        have hxx : ((x : Int) != (x : Int)) = false := by rw [bne_eq_false_iff_eq]
        go_wp2_with fail
        go_region_held3 (fun W => W.cell? (ah.add k) = some (.int .u64 (x : Int)) ∧ W.cell? (aw.add k) = some (.int .u64 (x : Int)) ∧ W.cell? (ad.add k) = some (.slice A3 b.length c3))
          (first | exact ⟨hcell, hcell2, hcell3⟩ | exact ⟨pw_cell_below HB5.out hcell, pw_cell_below HB5.out hcell2, pw_cell_below HB5.out hcell3⟩)
          (first
            | (go_at_call 23; refine HH1.out.mono ?_; rintro e w5 ⟨rfl, hB5⟩; have HB5 : Hid (Below wr.heap.size wr w5) := Lib.hid ((below_drew (Below.refl _ _)).trans hB5); clear hB5))
        go_wp2_with fail
        exact ⟨⟨k + 1, by go_num, by omega, Lib.hid (HB.out.trans (HB5.out.mono HB.out.size))⟩, by simp [intOf]; omega⟩
      · have hkdi : ¬ (k : Int) < (data.length : Int) := by omega
        have hkdb : decide ((k : Int) < (data.length : Int)) = false := decide_eq_false hkdi
        generalize h.getD k 0 = x at *
        have hxx : ((x : Int) != (x : Int)) = false := by rw [bne_eq_false_iff_eq]
        go_wp2_with fail
        go_quiet (fail)
        go_wp2_with fail
        exact ⟨⟨k + 1, by go_num, by omega, Lib.hid (pw_below_drewN HB.out _)⟩, by simp [intOf]; omega⟩
    · obtain rfl : k = h.length := by omega
      have HWr := Lib.hid (lowX HW.out HB.out)
      have HN0 := Lib.hid (N_empty KU 40 wr.heap.size wr (Nat.le_refl _))
      have HB0 : Hid (Below wr.heap.size wr (wr.alloc (.cells #[] 40))) := Lib.hid (below_alloc (Below.refl _ _) _)
      have hsz := HB.out.size
      go_upto_if 82 with ((with_reducible refine gate_builtin (b := .append) (xs := #[.tmp 77, .tmp 78]) rfl ?_); at_builtin; refine Kd.N_append_rows KU (w0 := wr) wr.heap.size rfl (.tmp 77) (.tmp 78) 41 40 (.int .u64 0) 8 rfl Try.underlying41 info40 rfl (by decide) (by omega) _ [] h Aw h.length cw (fun _ => True) (fun q => True ∧ q < w4.heap.size) rfl rfl HN0.out (Kd.V_F (Kd.V_alloc HWr.out _)) (fun q hq => ⟨trivial, fun he => by injection he with he; have h2 := hq.2; change q = wr.heap.size at he; omega⟩) (fun _ _ => trivial) HB0.out HB0.out.size (by simp only [List.length_nil]; omega) ?_; intro v5 w5 hN5 hB5 hg5 hat5; rw [List.nil_append] at hN5; have HO5 := Lib.hid (ownU_of_N hN5); obtain ⟨A5, c5, rfl, hc5⟩ := HO5.out.len; have HB5 := Lib.hid hB5; clear hN5 hB5 hg5 hat5)
      obtain ⟨W5, hW5⟩ : ∃ W5 : World, W5 = w5 := ⟨_, rfl⟩
      subst hW5
      go_cut [15] from 82 to 104 (fun v wx => ∃ (A6 : Option Addr) (c6 : Nat) (bent : List Nat), v = .slice A6 bent.length c6 ∧ bent.length = h.length ∧ Hid (OwnU wx wr.heap.size v bent) ∧ Hid (Below wr.heap.size wr wx))
      case first =>
        by_cases h0 : 0 < h.length
        · have h0i : (0 : Int) < (h.length : Int) := by omega
          have hz : ((h.length : Int) == 0) = false := by rw [beq_eq_false_iff_ne]; omega
          obtain ⟨i, hi, hi1, hi2, hi3, hi4⟩ := idx_at at_ h.length h0
          obtain ⟨g, cx, he, hgB, hgW⟩ := HO5.out.form h0
          injection he with he1 _ he2
          subst he1 he2
          obtain ⟨hcA, hfA⟩ := HO5.out.at_ i hi
          have hset := HO5.out.set_ i by_
          obtain ⟨hcB, hfB⟩ := hset.1.at_ 0 (by rw [List.length_set]; exact h0)
          have hlen : (h.set i by_).length = h.length := List.length_set
          have HL := Lib.hid hlen
          have HCB := Lib.hid hcB
          have HFB := Lib.hid hfB
          have HSET := Lib.hid hset
          clear hset hcB hfB hlen
          generalize h.set i by_ = h6 at *
          go_upto_region 16 with fail
          generalize W5.setCell ⟨g, i, none⟩ (Value.int IntKind.u64 ↑by_) = W6 at *
          have hcB := HCB.out
          have hfB := HFB.out
          clear hcA hfA HCB HFB hi1 hi2 hi3 hi4
          generalize h6.getD 0 0 = x0 at *
          have hx := fun (y : Nat) => HSET.out.1.set_ 0 y
          have HX := Lib.hid hx
          clear hx
          go_wp2_with fail
          have hxx := HX.out (uN ((x0 : Int) + (by_ : Int) % 2))
          rw [← uN_val] at hxx
          go_meet
          refine ⟨some ⟨g, 0, none⟩, c5, h6.set 0 (uN ((x0 : Int) + (by_ : Int) % 2)), ?_, ?_, ?_, Lib.hid (HB5.out.trans (below_row (grown_tr HSET.out.2 hxx.2) HB5.out.size (fun q hq => by injection hq with hq; omega)))⟩
          · rw [List.length_set, HL.out]
          · rw [List.length_set, HL.out]
          · exact Lib.hid hxx.1
        · have h0i : ¬ (0 : Int) < (h.length : Int) := by omega
          go_wp2_with fail
          go_meet
          exact ⟨_, c5, h, rfl, rfl, HO5, HB5⟩
      case rest =>
        obtain ⟨A6, c6, bent, rfl, hbl, HO6, HB6⟩ := hcut
        have HBLN := Lib.hid hbl
        clear HN0 HB0 HO5 HB5 hbl
        obtain ⟨W6, hW6⟩ : ∃ W6 : World, W6 = wc := ⟨_, rfl⟩
        subst hW6
        have HWc := Lib.hid (Kd.V_below HWr.out HB6.out)
        have hszc := HB6.out.size
        have HE0 := Lib.hid (N_empty KU 40 W6.heap.size W6 (Nat.le_refl _))
        have HLY := Lib.hid (show ([] : List Nat).length + h.length ≤ 140000 by simp only [List.length_nil]; omega)
        have HLZ := Lib.hid (show ([] ++ h : List Nat).length + 1 ≤ 140000 by simp only [List.nil_append]; omega)
        have HOK := Lib.hid (fun (u : Nat) (hu : W6.heap.size ≤ u) => (fun q hq he => by injection he with he; have h2 := hq.2; change q = u at he; omega : ∀ q : Nat, (True ∧ q < w4.heap.size) → some q ≠ (Value.slice (some ⟨u, 0, none⟩) 0 0).ownBlock))
        have HBa : Hid (∀ o, Below W6.heap.size W6 (W6.alloc o).drew) := Lib.hid (fun o => below_drew (below_alloc (Below.refl _ _) _))
        have HBb : Hid (∀ o o', Below W6.heap.size W6 ((W6.alloc o).alloc o').drew) := Lib.hid (fun o o' => below_drew (below_alloc (below_alloc (Below.refl _ _) _) _))
        have HE1 : Hid (∀ o, Kd.N KU 40 ((W6.alloc (.cells #[] 40)).alloc o).drew W6.heap.size (fun _ => True) (.slice (some ⟨W6.heap.size, 0, none⟩) 0 0) []) := Lib.hid (fun o => Kd.N_drew (Kd.N_alloc HE0.out o))
        have HE2 : Hid (∀ o, Kd.N KU 40 ((W6.alloc o).alloc (.cells #[] 40)).drew W6.heap.size (fun _ => True) (.slice (some ⟨W6.heap.size + 1, 0, none⟩) 0 0) []) := Lib.hid (fun o => by
          have := Kd.N_drew (N_empty KU 40 W6.heap.size (W6.alloc o) (by rw [World.size_alloc]; omega))
          rw [World.size_alloc] at this
          exact this)
        have HX1 : Hid (Vu ((W6.alloc (.cells #[] 40)).alloc (.cells #[.int .u64 (by_ : Int)] 40)).drew (fun k => k = W6.heap.size + 1) (.slice (some ⟨W6.heap.size + 1, 0, none⟩) 1 1) [by_]) := Lib.hid (by
          have := Kd.V_drew (V_u1 (W6.alloc (.cells #[] 40)) by_)
          rw [World.size_alloc] at this
          exact this)
        have HX2 : Hid (Vu ((W6.alloc (.cells #[.int .u64 (by_ : Int)] 40)).alloc (.cells #[] 40)).drew (fun k => k = W6.heap.size) (.slice (some ⟨W6.heap.size, 0, none⟩) 1 1) [by_]) := Lib.hid (Kd.V_drew (Kd.V_alloc (V_u1 W6 by_) _))
        have HSZ : Hid (∀ o o', ((W6.alloc o).alloc o').drew.heap.size = W6.heap.size + 2) := Lib.hid (fun o o' => by rw [World.size_drew, World.size_alloc, World.size_alloc])
        go_wp2_with fail
        obtain ⟨m, hm⟩ : ∃ m, m = h.length - minOne h.length := ⟨_, rfl⟩
        have hmo : minOne h.length ≤ 1 := by unfold minOne; omega
        have hmo2 : minOne h.length ≤ h.length := by unfold minOne; omega
        have hm1 : m ≤ h.length := by omega
        have hmi0 : (0 : Int) ≤ (m : Int) := by omega
        have hmi1 : (m : Int) ≤ (h.length : Int) := by omega
        have hmi2 : (m : Int) ≤ (cw : Int) := by omega
        have hmw : IntKind.i64.wrap ((h.length : Int) - (minOne h.length : Int)) = (m : Int) := by rw [IntWalk.i64_in _ (by omega)]; omega
        clear hm hmo hmo2
        go_cut [17] from 105 to 121 (fun v wx => ∃ g : Nat, v = .slice (some ⟨g, 0, none⟩) 4 4 ∧ Hid (Kd.V KUs 41 wx 0 (fun _ => True) (.slice (some ⟨g, 0, none⟩) 4 4) [h, bent, [] ++ h ++ [by_], h.take m]) ∧ Hid (Below W6.heap.size W6 wx))
        case first =>
          go_region_held3 (fun _ => True) (trivial)
            (first
              | ((with_reducible refine step_at 109 rfl ?_); have hq := Kd.V_drew (Kd.V_alloc HWc.out (.cells #[] 40)); refine app_urows_step (w0 := W6) W6.heap.size (by rfl) (.tmp 107) (.tmp 108) (by rfl) (.slice (some ⟨W6.heap.size, 0, none⟩) 0 0) [] h Aw h.length cw (fun _ => True) _ (by rfl) (by rfl) (Kd.N_drew HE0.out) hq (HOK.out _ (Nat.le_refl _)) (HBa.out _) (HBa.out _).size HLY.out ?_; intro v7 w7 hO7 hB7 hg7 hat7; have HO7 := Lib.hid hO7; have HB7 := Lib.hid hB7; clear hq hO7 hB7 hg7 hat7)
              | ((with_reducible refine step_at 109 rfl ?_); have hq := Kd.V_drew (Kd.V_alloc (Kd.V_alloc HWc.out (.cells #[] 40)) (.cells #[.int .u64 (by_ : Int)] 40)); refine app_urows_step (w0 := W6) W6.heap.size (by rfl) (.tmp 107) (.tmp 108) (by rfl) (.slice (some ⟨W6.heap.size, 0, none⟩) 0 0) [] h Aw h.length cw (fun _ => True) _ (by rfl) (by rfl) (HE1.out _) hq (HOK.out _ (Nat.le_refl _)) (HBb.out _ _) (HBb.out _ _).size HLY.out ?_; intro v7 w7 hO7 hB7 hg7 hat7; have HO7 := Lib.hid hO7; have HB7 := Lib.hid hB7; have HX7 := Lib.hid (u1_apart (u := W6.heap.size) rfl HX1.out (by omega) (by rw [HSZ.out]; omega) hg7 hat7); clear hq hO7 hB7 hg7 hat7)
              | ((with_reducible refine step_at 109 rfl ?_); have hq := Kd.V_drew (Kd.V_alloc (Kd.V_alloc HWc.out (.cells #[.int .u64 (by_ : Int)] 40)) (.cells #[] 40)); refine app_urows_step (w0 := W6) W6.heap.size (by rfl) (.tmp 107) (.tmp 108) (by rfl) (.slice (some ⟨W6.heap.size + 1, 0, none⟩) 0 0) [] h Aw h.length cw (fun _ => True) _ (by rfl) (by rfl) (HE2.out _) hq (HOK.out _ (Nat.le_succ _)) (HBb.out _ _) (HBb.out _ _).size HLY.out ?_; intro v7 w7 hO7 hB7 hg7 hat7; have HO7 := Lib.hid hO7; have HB7 := Lib.hid hB7; have HX7 := Lib.hid (u1_apart (u := W6.heap.size + 1) rfl HX2.out (by omega) (by rw [HSZ.out]; omega) hg7 hat7); clear hq hO7 hB7 hg7 hat7)
              | ((with_reducible refine step_at 112 rfl ?_); have hl1 := HLZ.out; have hX := HX7.out; have hB2 := HB7.out.size; refine app_urows_step (w0 := W6) W6.heap.size (by rfl) (.tmp 109) (.tmp 111) (by rfl) v7 ([] ++ h) [by_] _ 1 1 (fun _ => True) _ (by rfl) (by rfl) HO7.out.N hX (fun _ hk => hk) HB7.out hB2 hl1 ?_; intro v8 w8 hO8 hB8 hg8 hat8; have HO8 := Lib.hid hO8; obtain ⟨A8, c8, rfl, hc8⟩ := HO8.out.len; have HB8 := Lib.hid hB8; clear hl1 hX hB2 hO8 hB8 hg8 hat8)
              | ((with_reducible refine step_at 112 rfl ?_); have hl1 := HLZ.out; have hB2 := (below_alloc HB7.out (.cells #[.int .u64 (by_ : Int)] 40)); have hB3 := hB2.size; refine app_urows_step (w0 := W6) W6.heap.size (by rfl) (.tmp 109) (.tmp 111) (by rfl) v7 ([] ++ h) [by_] (some ⟨w7.heap.size, 0, none⟩) 1 1 (fun _ => True) _ (by rfl) (by rfl) (HO7.out.below (below_alloc (Below.refl _ _) _)).N (u1_new w7 by_ v7 HO7.out) (fun _ hk => hk) hB2 hB3 hl1 ?_; intro v8 w8 hO8 hB8 hg8 hat8; have HO8 := Lib.hid hO8; obtain ⟨A8, c8, rfl, hc8⟩ := HO8.out.len; have HB8 := Lib.hid hB8; clear hl1 hB2 hO8 hB8 hg8 hat8))
          all_goals
            clear hmw
            have hb8 : Below W6.heap.size W6 w8 := HB8.out
            have hV8 := Vu_four w8 (fun _ => True) _ _ _ _ h bent ([] ++ h ++ [by_]) (h.take m) (Kd.V_mono (Kd.V_below HWc.out hb8) (fun _ _ => trivial)) (Kd.V_mono (HO6.out.below hb8).V (fun _ _ => trivial)) (Kd.V_mono HO8.out.V (fun _ _ => trivial)) (V_take (Kd.V_mono (Kd.V_below HWc.out hb8) (fun _ _ => trivial)) hm1) trivial
            have hlen : ([] ++ h ++ [by_]).length = h.length + 1 := by simp
            rw [hlen] at hV8
            go_wp2_with fail
            go_meet
            exact ⟨w8.heap.size, rfl, Lib.hid hV8, Lib.hid (below_alloc hb8 _)⟩
        case rest =>
          obtain ⟨g, rfl, HV8, HBX⟩ := hcut
          have HBWX := Lib.hid (HB.out.trans ((HB6.out.trans (HBX.out.mono HB6.out.size)).mono HB.out.size))
          have HV9 := Lib.hid (Kd.V_bound HV8.out)
          clear HE0 HLY HLZ HOK HBa HBb HE1 HE2 HX1 HX2 HSZ HWc HV8 HBX HO6 HB6 HWr HBLN HB hmw hmi0 hmi1 hmi2
          have h4 : ([h, bent, [] ++ h ++ [by_], h.take m] : List (List Nat)).length = 4 := rfl
          generalize ([h, bent, [] ++ h ++ [by_], h.take m] : List (List Nat)) = all at *
          have H4 := Lib.hid h4
          clear h4
          obtain ⟨W7, hW7⟩ : ∃ W7 : World, W7 = wc := ⟨_, rfl⟩
          subst hW7
          go_wp2_with fail
          go_loopw [18] (fun i wr => ∃ k : Nat, i = .int .i64 k ∧ k ≤ 4 ∧ Hid (Below W7.heap.size W7 wr)) (fun i _ => 4 - (intOf i).toNat)
          case atStart => exact ⟨0, rfl, Nat.zero_le _, Lib.hid (Below.refl _ _)⟩
          case round =>
            obtain ⟨k, rfl, hk, HBR⟩ := hrel
            by_cases hlt : k < 4
            · have hk0 : (0 : Int) ≤ (k : Int) := by omega
              have hki : (k : Int) < 4 := by omega
              obtain ⟨ad, A9, c9, he, hcell, HR, _⟩ := V_rows (lowX HV9.out HBR.out) k (by rw [H4.out]; exact hlt)
              injection he with he
              subst he
              rw [add_plain] at hcell
              have HBR4 := Lib.hid (HBWX.out.trans (HBR.out.mono HBWX.out.size))
              have HS1 := Lib.hid (HSC.out (all.getD k []) A9 c9 _ HBR4.out (Kd.V_mono HR (fun _ _ => trivial)))
              have HVA := Lib.hid (Kd.V_bound (Kd.V_mono (ok' := fun _ => True) HR (fun _ _ => trivial)))
              clear HR
              generalize all.getD k [] = want at *
              go_wp2_with fail
              refine HS1.out.mono ?_
              rintro e w9 ⟨va, rfl, hOa, hB9⟩
              obtain ⟨Aa, ca, rfl, hca, _⟩ := V_open hOa.V
              have hcell9 := pw_cell_below hB9 hcell
              have HB9 := Lib.hid hB9
              have HOa := Lib.hid hOa
              have HB49 := Lib.hid (HBR4.out.trans (hB9.mono HBR4.out.size))
              have HS2 := Lib.hid (HRC.out want A9 c9 _ HB49.out (Kd.V_mono (lowX HVA.out hB9) (fun _ _ => trivial)))
              clear hOa hB9
              go_wp2_with fail
              refine HS2.out.mono ?_
              rintro e w10 ⟨vb, rfl, hOb, hB10⟩
              obtain ⟨Ab, cb, rfl, hcb, _⟩ := V_open hOb.V
              have HVb := Lib.hid (Kd.V_bound (Kd.V_mono (ok' := fun _ => True) hOb.V (fun _ _ => trivial)))
              have HVa := Lib.hid (Kd.V_bound (Kd.V_mono (ok' := fun _ => True) (HOa.out.below hB10).V (fun _ _ => trivial)))
              have HBT := Lib.hid (HBR.out.trans ((HB9.out.trans (hB10.mono HB9.out.size)).mono HBR.out.size))
              clear hOb hB10 HOa HS1 HS2 HVA HB9 HBR4 HB49
              generalize scrubE h want = e0 at *
              generalize scrubL h want = L at *
              have hee : ((e0 : Int) != (e0 : Int)) = false := by rw [bne_eq_false_iff_eq]
              have hll : ((L.length : Int) != (L.length : Int)) = false := by rw [bne_eq_false_iff_eq]
              have hLm := (V_open HVa.out).choose_spec.choose_spec.2.2
              go_wp2_with fail
              go_loopw [23] (fun i wq => ∃ j : Nat, i = .int .i64 j ∧ j ≤ L.length ∧ Hid (Below w10.heap.size w10 wq)) (fun i _ => L.length - (intOf i).toNat)
              case atStart => exact ⟨0, rfl, Nat.zero_le _, Lib.hid (Below.refl _ _)⟩
              case round =>
                obtain ⟨j, rfl, hj, HBQ⟩ := hrel
                by_cases hlt2 : j < L.length
                · have hj0 : (0 : Int) ≤ (j : Int) := by omega
                  have hji : (j : Int) < (L.length : Int) := by omega
                  obtain ⟨ada, rfl, hcella, _⟩ := V_scalar (lowX HVa.out HBQ.out) 0 j hlt2
                  obtain ⟨adb, rfl, hcellb, _⟩ := V_scalar (lowX HVb.out HBQ.out) 0 j hlt2
                  generalize L.getD j 0 = x at *
                  have hxx : ((x : Int) != (x : Int)) = false := by rw [bne_eq_false_iff_eq]
                  go_wp2_with fail
                  go_quiet (fail)
                  go_wp2_with fail
                  exact ⟨⟨j + 1, by go_num, by omega, Lib.hid (pw_below_drewN HBQ.out _)⟩, by simp [intOf]; omega⟩
                · obtain rfl : j = L.length := by omega
                  go_wp2_with fail
                  exact ⟨⟨k + 1, by go_num, by omega, Lib.hid (HBT.out.trans (HBQ.out.mono HBT.out.size))⟩, by simp [intOf]; omega⟩
            · obtain rfl : k = 4 := by omega
              go_wp2_with fail
              refine (lives_any _).mono ?_
              rintro e w11 ⟨rfl, hB11⟩
              have HB11 := Lib.hid hB11
              clear hB11
              go_wp2_with fail
              go_ret
              refine ⟨rfl, ?_⟩
              have h1 := HB14.out.trans ((HBWX.out.trans (HBR.out.mono HBWX.out.size)).mono HB14.out.size)
              exact h1.trans (HB11.out.mono h1.size)
end Go.Proofs.Ytiggohkkokalcaa
