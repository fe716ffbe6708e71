/- The walk of the law ParityDisks. -/
import Derived.Test.YtiggohkkokalcaaHealsW
import Derived.Test.YtiggohkkokalcaaMakesW
import Derived.Test.YtiggohkkokalcaaDiskAll
namespace Go.Proofs.Ytiggohkkokalcaa
open Go.RowKit Go.Proofs.YtiggohkkokalcaaW.PrintWords Go.Proofs.YtiggohkkokalcaaW.PrintMore
set_option linter.unusedVariables false
set_option linter.unusedSimpArgs false

theorem bsTo_zero (all : List (List G)) : bsTo all 0 = fun _ => [] := by
  funext x; unfold bsTo; rw [if_neg (by omega)]
theorem bsTo_succ (all : List (List G)) (k : Nat) : updB (bsTo all k) (k : Int) (all.getD k []) = bsTo all (k + 1) := by
  funext x
  unfold updB bsTo
  by_cases h : x = (k : Int)
  · subst h
    rw [if_pos rfl, if_pos (by omega)]; rfl
  · rw [if_neg h]
    by_cases h2 : 0 ≤ x ∧ x < (k : Int)
    · rw [if_pos h2, if_pos (by omega)]
    · rw [if_neg h2, if_neg (by omega)]
theorem bsTo_small {all : List (List G)} (h : ∀ k, (all.getD k []).length ≤ 12) (k : Nat) (x : Int) : (bsTo all k x).length ≤ 12 := by
  unfold bsTo
  split
  · exact h _
  · exact Nat.zero_le _
/-- a file is there where bytes are -/
def Sh (f : Int → Option FE) (bs : Int → List G) : Prop := ∀ x, f x = none ↔ bs x = []
theorem Sh.set {f : Int → Option FE} {bs : Int → List G} (h : Sh f bs) (x : Int) (A : Option Addr) (y : List G) (c : Nat) (d : Int) : Sh (setF f x ⟨A, y.length, c, d⟩) (updB bs x y) := fun z => by
  unfold setF updB delF updF
  by_cases hy : y.length = 0
  · have hy2 : y = [] := List.length_eq_zero_iff.1 hy
    rw [if_pos hy]
    show (if z = x then none else f z) = none ↔ _
    by_cases hz : z = x
    · rw [if_pos hz, if_pos hz]; exact ⟨fun _ => hy2, fun _ => rfl⟩
    · rw [if_neg hz, if_neg hz]; exact h z
  · rw [if_neg hy]
    show (if z = x then some _ else f z) = none ↔ _
    by_cases hz : z = x
    · rw [if_pos hz, if_pos hz]
      exact ⟨fun h => (by cases h), fun h => absurd (List.length_eq_zero_iff.2 h) hy⟩
    · rw [if_neg hz, if_neg hz]; exact h z

theorem OwnT.fr {w w1 : World} {dp bm base : Nat} {v : Value} {xs : List Bool} (h : OwnT w base v xs) (hf : Fr dp bm w w1) (hne : ∀ k, v.ownBlock = some k → k ≠ dp ∧ k ≠ bm) : OwnT w1 base v xs := by
  obtain ⟨h0, h | ⟨g, cap, cur, h1, h2, h3, h4⟩⟩ := h
  · exact ⟨h0, .inl h⟩
  · have := hne g (by rw [h1]; rfl)
    exact ⟨h0, .inr ⟨g, cap, cur, h1, h2, hf.blk h3 this.1 this.2, h4⟩⟩
theorem Fr.cell {w w1 : World} {dp bm : Nat} (h : Fr dp bm w w1) {p : Addr} {v : Value} (hc : w.cell? p = some v) (h1 : p.block ≠ dp) (h2 : p.block ≠ bm) : w1.cell? p = some v := by
  have hlt : p.block < w.heap.size := by
    refine Nat.lt_of_not_le (fun hle => ?_)
    rw [World.cell?, Array.getElem?_eq_none hle] at hc
    cases hc
  rw [World.cell?, h.block p.block hlt h1 h2]
  exact hc
theorem idx_bit (bit : Int) (m : Nat) (hm : 0 < m) (hm2 : m ≤ 12) : ∃ (r : Int) (b : Nat), bit.tmod (8 * (m : Int)) = r ∧ IntKind.i64.wrap (r + 8 * (m : Int)) = r + 8 * (m : Int) ∧ (r + 8 * (m : Int)).tmod (8 * (m : Int)) = (b : Int) ∧ b < 8 * m := by
  have h1 : bit.tmod (8 * (m : Int)) < 8 * (m : Int) := Int.tmod_lt_of_pos _ (by omega)
  have h2 : -(8 * (m : Int)) < bit.tmod (8 * (m : Int)) := by
    have := Int.lt_tmod_of_pos bit (show (0 : Int) < 8 * (m : Int) by omega)
    omega
  generalize bit.tmod (8 * (m : Int)) = r at *
  have h3 := Int.emod_nonneg (r + 8 * (m : Int)) (show 8 * (m : Int) ≠ 0 by omega)
  have h4 := Int.emod_lt_of_pos (r + 8 * (m : Int)) (show (0 : Int) < 8 * (m : Int) by omega)
  refine ⟨r, ((r + 8 * (m : Int)) % (8 * (m : Int))).toNat, rfl, IntWalk.i64_in _ (by omega), ?_, by omega⟩
  rw [Int.tmod_eq_emod_of_nonneg (by omega)]
  omega
theorem N_empty2 {α : Type} (d : Kd α) (e base : Nat) (W : World) (ok : Nat → Prop) (hok : ok W.heap.size) (hb : base ≤ W.heap.size) : Kd.N d e (W.alloc (.cells #[] e)) base ok (.slice (some ⟨W.heap.size, 0, none⟩) 0 0) [] := by
  refine Kd.R_N ⟨fun k hk => by injection hk with hk; change W.heap.size = k at hk; exact hk ▸ hok, [], ?_, Reps.none _ _⟩
  have := World.ownsRow_lit (base := base) (e := e) (size := d.sz) W #[] 0 hb (by decide) (by simp)
  exact this
set_option maxRecDepth 100000 in
set_option maxHeartbeats 8000000 in
theorem disks_walk (xs ys : List Int) (v v' : Value) (n bit : Int) (w : World) (HV : Vi w (fun _ => True) v xs) (HW : Vi w (fun _ => True) v' ys) :
    Calls Try.prog 10 #[v, v', .int .i64 n, .int .i64 bit] w fun e w' => e = .returned (.bool true) ∧ Below w.heap.size w w' := by
  obtain ⟨A, c, rfl, hc, hm⟩ := V_open HV
  obtain ⟨A', c', rfl, hc', hm'⟩ := V_open HW
  have HHV := Lib.hid HV
  have HHW := Lib.hid HW
  have hf4 := fewN_le n
  clear HV HW
  go_enter Try.func10, Try.ntmps10
  go_wp2_with fail
  refine (blocks_any xs _ w HHV.out).mono ?_
  rintro e w1 ⟨u, data, rfl, hD, hS, hB⟩
  obtain ⟨Ad, cd, rfl, hcd, _⟩ := V_open hD
  have HD := Lib.hid hD
  have HB := Lib.hid hB
  have hl7 := hS.1
  have H12 := Lib.hid hS.2
  have hlong : longG data ≤ 65536 := Nat.le_trans (longTo_le data 12 (fun i hi => hS.2 _ (by rw [List.getD_eq_getElem?_getD, List.getElem?_eq_getElem hi]; exact List.getElem_mem hi)) _ (Nat.le_refl _)) (by decide)
  have HLO := Lib.hid hlong
  have HME := Lib.hid (makeErr_ok data (fewN n) hf4 (by omega) hlong)
  have HMO := Lib.hid (makeOut_ok data (fewN n) HME.out)
  clear hD hB hS HHV hlong
  go_wp2_with fail
  refine (few_any n _).mono ?_
  rintro e w' ⟨rfl, rfl⟩
  go_wp2_with fail
  refine (make_any data (fewN n) _ w1 HD.out).mono ?_
  rintro e w3 ⟨vp, rfl, hP, hB3⟩
  have hme := HME.out
  rw [HMO.out] at hP
  rw [hme]
  obtain ⟨Ap, cp, hvp, hcp, _⟩ := V_open hP
  rw [makeG_length] at hvp hcp
  subst hvp
  have HP := Lib.hid (Kd.V_bound hP)
  have HB3 := Lib.hid (HB.out.trans (hB3.mono HB.out.size))
  have HD3 := Lib.hid (Kd.V_bound (Kd.V_below HD.out hB3))
  clear hP hB3 hme HD HB
  go_wp2_with fail
  refine (new_any _).mono ?_
  rintro e w4 ⟨dp, bm, rfl, hdp, hbm, hDK, hB4⟩
  have HDK := Lib.hid hDK
  have HD4 := Lib.hid (Kd.V_mono (Kd.V_below HD3.out hB4) (fun k hk => ⟨hk.2, by omega, by omega⟩) : Vbb w4 (fun k => k < w3.heap.size ∧ k ≠ dp ∧ k ≠ bm) _ _)
  have HP4 := Lib.hid (Kd.V_mono (Kd.V_below HP.out hB4) (fun k hk => ⟨hk.2, by omega, by omega⟩) : Vbb w4 (fun k => k < w3.heap.size ∧ k ≠ dp ∧ k ≠ bm) _ _)
  have HB4 := Lib.hid hB4
  have hdw := hDK.lt
  clear hDK hB4 HD3 HP
  have hfn : ((fewN n : Int) != (fewN n : Int)) = false := by rw [bne_eq_false_iff_eq]
  go_wp2_with fail
  refine (few_any n _).mono ?_
  rintro e w' ⟨rfl, rfl⟩
  have HDS := Lib.hid (small_getD H12.out)
  have HPS := Lib.hid (par_getD (f := fewN n) H12.out)
  have HPLn := Lib.hid (makeG_length data (fewN n))
  go_upto_region 6 with fail
  have HN0 : Hid (Kd.N KGs 33 (w4.alloc (.cells #[] 33)) w4.heap.size (fun q => q ≠ dp ∧ q ≠ bm) (.slice (some ⟨w4.heap.size, 0, none⟩) 0 0) []) := Lib.hid (N_empty2 KGs 33 w4.heap.size w4 _ (by omega) (Nat.le_refl _))
  have HQ0 : Hid (∀ q, (q < w3.heap.size ∧ q ≠ dp ∧ q ≠ bm) → (q ≠ dp ∧ q ≠ bm) ∧ some q ≠ (Value.slice (some (⟨w4.heap.size, 0, none⟩ : Addr)) 0 0).ownBlock) := Lib.hid (fun q hq => ⟨hq.2, fun he => by injection he with he; have := HB4.out.size; change q = w4.heap.size at he; omega⟩)
  go_wp2_with (first
    | ((with_reducible refine gate_builtin (b := .append) (xs := #[.tmp 62, .tmp 63]) rfl ?_); at_builtin; refine Kd.N_append_rows KGs (w0 := w4) w4.heap.size rfl (.tmp 62) (.tmp 63) 30 33 (.slice none 0 0) 24 rfl Try.underlying30 info33 rfl (by decide) (by omega) _ [] data Ad data.length cd (fun q => q ≠ dp ∧ q ≠ bm) (fun q => q < w3.heap.size ∧ q ≠ dp ∧ q ≠ bm) rfl rfl HN0.out (Kd.V_F (Kd.V_alloc HD4.out _)) HQ0.out (fun k hk => by rw [World.size_alloc] at hk; omega) (below_alloc (Below.refl _ _) _) (by rw [World.size_alloc]; omega) (by simp only [List.length_nil]; omega) ?_; intro v5 w5 hN5 hB5 hg5 hat5; have HN5 := Lib.hid hN5; have HB5 := Lib.hid hB5; have HP5 := Lib.hid (Kd.V_below HP4.out hB5); have HQ5 : Hid (∀ q, (q < w3.heap.size ∧ q ≠ dp ∧ q ≠ bm) → (q ≠ dp ∧ q ≠ bm) ∧ some q ≠ v5.ownBlock) := Lib.hid (fun q hq => ⟨hq.2, fun he => by have h3 := Kd.N_base HN5.out q he.symm; have h4 := HB4.out.size; omega⟩); clear hN5 hB5 hg5 hat5)
    | ((with_reducible refine gate_builtin (b := .append) (xs := #[.tmp 64, .tmp 65]) rfl ?_); at_builtin; refine Kd.N_append_rows KGs (w0 := w4) w4.heap.size rfl (.tmp 64) (.tmp 65) 30 33 (.slice none 0 0) 24 rfl Try.underlying30 info33 rfl (by decide) (by omega) _ _ (makeG data (fewN n)) Ap (fewN n) cp (fun q => q ≠ dp ∧ q ≠ bm) (fun q => q < w3.heap.size ∧ q ≠ dp ∧ q ≠ bm) rfl rfl HN5.out (Kd.V_F HP5.out) HQ5.out (fun k hk => by have := HB5.out.size; omega) HB5.out HB5.out.size (by simp only [List.nil_append]; omega) ?_; intro v6 w6 hN6 hB6 hg6 hat6; have HN6 := Lib.hid hN6; have HB6 := Lib.hid hB6; clear hN6 hB6 hg6 hat6))
  have hN6 := HN6.out
  rw [List.nil_append] at hN6
  have HLA : Hid ((data ++ makeG data (fewN n)).length = data.length + fewN n) := Lib.hid (by rw [List.length_append, makeG_length])
  have HAD : Hid (∀ i, i < data.length → (data ++ makeG data (fewN n)).getD i [] = data.getD i []) := Lib.hid (fun i hi => by rw [List.getD_eq_getElem?_getD, List.getElem?_append_left hi, List.getD_eq_getElem?_getD])
  have HAP : Hid (∀ j, (data ++ makeG data (fewN n)).getD (data.length + j) [] = (makeG data (fewN n)).getD j []) := Lib.hid (fun j => by rw [List.getD_eq_getElem?_getD, List.getElem?_append_right (by omega), List.getD_eq_getElem?_getD, Nat.add_sub_cancel_left])
  have HA12 : Hid (∀ k, ((data ++ makeG data (fewN n)).getD k []).length ≤ 12) := Lib.hid (fun k => by
    by_cases hk : k < data.length
    · rw [HAD.out k hk]; exact HDS.out k
    · obtain ⟨j, rfl⟩ : ∃ j, k = data.length + j := ⟨k - data.length, by omega⟩
      rw [HAP.out]; exact HPS.out j)
  obtain ⟨A6, c6, rfl, hc6, _⟩ := V_open (Kd.N_V (base' := 0) hN6)
  have HA6 := Lib.hid (Kd.V_bound (Kd.N_V (base' := 0) hN6))
  have hla : (data ++ makeG data (fewN n)).length ≤ 11 := by have := HLA.out; omega
  have HB36 := Lib.hid (HB4.out.trans (HB6.out.mono HB4.out.size))
  have HDK6 := Lib.hid (HDK.out.below HB6.out)
  have HD6 := Lib.hid (Kd.V_below HD4.out HB6.out)
  have HP6 := Lib.hid (Kd.V_below HP4.out HB6.out)
  have hs36 : w3.heap.size ≤ w6.heap.size := HB36.out.size
  clear hN6 HN6 HN5 HB5 HP5 HQ5 HB6 HD4 HP4 HB4 HN0 HQ0 HDK hfn hdw
  generalize data ++ makeG data (fewN n) = all at *
  go_loopw [15] (fun i wr => ∃ (k : Nat) (f : Int → Option FE), i = .int .i64 k ∧ k ≤ all.length ∧ Hid (Disk wr dp bm k f (bsTo all k)) ∧ Hid (Sh f (bsTo all k)) ∧ Hid (Fr dp bm w6 wr)) (fun i _ => all.length - (intOf i).toNat)
  case atStart => exact ⟨0, _, rfl, Nat.zero_le _, Lib.hid (by rw [bsTo_zero]; exact HDK6.out), Lib.hid (fun x => by rw [bsTo_zero]; exact ⟨fun _ => rfl, fun _ => rfl⟩), Lib.hid (Fr.refl _)⟩
  case round =>
    clear HDK6
    obtain ⟨k, f, rfl, hk, HDK, HSH, HF⟩ := hrel
    by_cases hlt : k < all.length
    · have hki : (k : Int) < (all.length : Int) := by omega
      obtain ⟨ad, A7, c7, rfl, hcell7, HR7, _⟩ := Vbb_row (HF.out.V HA6.out (fun q hq => hq.1)) k hlt
      have HAP7 := Lib.hid (append_any (k : Int) A7 c7 (all.getD k []) HDK.out (by omega) (by omega) (by omega) (fun x e he => by rw [(HDK.out.rd x e he).1]; exact bsTo_small HA12.out k x) ((HSH.out _).2 (by unfold bsTo; rw [if_neg (by omega)])) (HA12.out k) (Kd.V_mono HR7 (fun q hq => hq.1)))
      have HSH8 : Hid (∀ A c, Sh (setF f (k : Int) ⟨A, (all.getD k []).length, c, 0⟩) (bsTo all (k + 1))) := Lib.hid (fun A c => by rw [← bsTo_succ]; exact HSH.out.set _ _ _ _ _)
      rw [bsTo_succ] at HAP7
      clear HR7
      generalize all.getD k [] = y at *
      go_wp2_with (go_at_call 33; refine HAP7.out.mono ?_; rintro e w7 ⟨rfl, ⟨A8, c8, hD7⟩, hF7⟩; have HD7 := Lib.hid hD7; have HF7 := Lib.hid hF7; clear hD7 hF7)
      exact ⟨⟨k + 1, _, by go_num, by omega, HD7, Lib.hid (HSH8.out _ _), Lib.hid (HF.out.trans HF7.out)⟩, by simp [intOf]; omega⟩
    · obtain rfl : k = all.length := by omega
      have hki : ¬ (all.length : Int) < (all.length : Int) := by omega
      have HSY := Lib.hid (sync_any HDK.out (by omega) (fun x e he => by rw [(HDK.out.rd x e he).1]; exact Nat.le_trans (bsTo_small HA12.out _ x) (by decide)))
      go_wp2_with (go_at_call 34; refine HSY.out.mono ?_; rintro e w7 ⟨rfl, hD7, hF7⟩; have HD7 := Lib.hid hD7; have HF7 := Lib.hid (HF.out.trans hF7); clear hD7 hF7)
      have HSH7 : Hid (Sh (hardF f) (bsTo all all.length)) := Lib.hid (fun x => by
        cases hx : f x with
        | none => rw [hardF_none hx]; exact ⟨fun _ => (HSH.out x).1 hx, fun _ => rfl⟩
        | some e => rw [hardF_some hx]; exact ⟨fun h => (by cases h), fun h => by rw [(HSH.out x).2 h] at hx; cases hx⟩)
      have HFD7 : Hid (∀ x e, hardF f x = some e → e.d = (e.n : Int)) := Lib.hid (fun x e he => by
        cases hx : f x with
        | none => rw [hardF_none hx] at he; cases he
        | some e0 => rw [hardF_some hx] at he; cases he; rfl)
      clear HSY HSH HDK HF
      generalize hardF f = f7 at *
      have HB7 : Hid (Below w3.heap.size w3 w7) := Lib.hid (HF7.out.toBelow HB36.out hdp hbm hs36)
      have HGS : Hid (∀ b ∈ data ++ makeG data (fewN n), b.length ≤ 70000) := Lib.hid (fun b hb => by
        rw [List.mem_append] at hb
        rcases hb with hb | hb
        · exact Nat.le_trans (H12.out b hb) (by decide)
        · exact mem_small (fun j => Nat.le_trans (par_getD H12.out j) (by decide)) b hb)
      have HD7b := Lib.hid (HF7.out.V HD6.out (fun q hq => hq.2))
      have HP7b := Lib.hid (HF7.out.V HP6.out (fun q hq => hq.2))
      have HHC := Lib.hid (hashes_any data (makeG data (fewN n)) Ad Ap cd cp (by omega) (by rw [makeG_length]; omega) HGS.out w7 (Kd.V_mono HD7b.out (fun _ _ => trivial)) (by rw [makeG_length]; exact Kd.V_mono HP7b.out (fun _ _ => trivial)))
      rw [makeG_length] at HHC
      go_wp2_with (go_at_call 21; refine HHC.out.mono ?_; rintro e w8 ⟨vh, rfl, hH, hB8⟩; obtain ⟨Ah, ch, rfl, hch⟩ := hH.len; have HH8 := Lib.hid hH; have HB8 := Lib.hid (HB7.out.trans (hB8.mono HB7.out.size)); have HD8 := Lib.hid (HD7.out.below hB8); have HF8 := Lib.hid (HF7.out.below hB8); clear hH hB8 HHC)
      refine (lostR_any ys _ (all.length : Int) (fewN n : Int) w8 (Kd.V_below HHW.out (HB3.out.trans (HB8.out.mono HB3.out.size))) (by omega) (by omega)).mono ?_
      rintro e w9 ⟨ug, rfl, ⟨gone, hG, hK⟩, hB9⟩
      obtain ⟨Ag, cg, rfl, hcg, _⟩ := V_open hG.V
      have HG9 := Lib.hid (Kd.V_mono (Kd.V_bound hG.V) (fun k hk => ⟨by have h1 := HD8.out.lt; have h2 := World.ownsRow.lt hG k hk.1.symm; exact (by omega : k ≠ dp ∧ k ≠ bm), hk.2⟩) : Vi w9 (fun k => (k ≠ dp ∧ k ≠ bm) ∧ k < w9.heap.size) _ gone)
      have HH9 := Lib.hid (Kd.V_bound (Kd.V_mono (HH8.out.below hB9).V (fun k hk => by have h1 := HD7.out.lt; have h2 := World.ownsRow.lt HH8.out k hk.symm; exact (by omega : k ≠ dp ∧ k ≠ bm))) : Vu w9 (fun k => (k ≠ dp ∧ k ≠ bm) ∧ k < w9.heap.size) _ _)
      have HD9 := Lib.hid (HD8.out.below hB9)
      have HB9 := Lib.hid (HB8.out.trans (hB9.mono HB8.out.size))
      have HF9 := Lib.hid (HF8.out.below hB9)
      have HK := Lib.hid hK
      have hgl : gone.length ≤ 4 := by have := hK.few; omega
      clear hG hK hB9 HD7 HF7 HB7 HD7b HP7b HD8 HF8 HB8 HH8 HGS HHW hki hlt hk
      go_wp2_with ((with_reducible refine gate_dst (N := 95) rfl ?_); refine Kd.R_make KT _ 4 rfl (N := 95) rfl 55 _ _ rfl (all.length : Int) rfl rfl Try.underlying55 (.bool false) 1 info4 rfl (by decide) (by omega) false (ok := fun _ => True) (okp := fun _ => True) rfl (fun _ hk => hk) trivial (by omega) (by omega) (Below.refl _ _) (Nat.le_refl _) ?_; intro vt w10 ho hb hg hnew)
      have hOT0 := Kd.own_of_R ho
      have hto : ((all.length : Int)).toNat = all.length := Int.toNat_natCast _
      rw [hto] at hOT0
      have hOT : OwnT w10 w9.heap.size vt (List.replicate all.length false) := hOT0
      obtain ⟨At, ct, hvt, hct, _⟩ := V_open hOT.V
      rw [List.length_replicate] at hvt hct
      subst hvt
      have HTB : Hid (∀ k, (Value.slice At all.length ct).ownBlock = some k → w9.heap.size ≤ k ∧ k ≠ dp ∧ k ≠ bm) := Lib.hid (fun k hk => by have h1 := World.ownsRow.lt hOT k hk; have h2 := HD9.out.lt; omega)
      have HOT := Lib.hid hOT
      have HD10 := Lib.hid (HD9.out.below hb)
      have HRD : Hid (∀ x e, f7 x = some e → Vb w10 (fun q => (q ≠ dp ∧ q ≠ bm) ∧ some q ≠ (Value.slice At all.length ct).ownBlock) (.slice e.A e.n e.c) (bsTo all all.length x)) := Lib.hid (fun x e he => Kd.V_mono (Kd.V_below (Kd.V_bound (HD9.out.rd x e he).2) hb) (fun q hq => ⟨hq.1, fun h3 => by have h4 := (HTB.out q h3.symm).1; have h5 := hq.2; omega⟩))
      have HF910 : Hid (Fr dp bm w9 w10) := Lib.hid (Fr.of_below hb)
      have HA9 := Lib.hid (HF9.out.V HA6.out (fun q hq => hq.1))
      have HDA9 := Lib.hid (HF9.out.V HD6.out (fun q hq => hq.2))
      have HPA9 := Lib.hid (HF9.out.V HP6.out (fun q hq => hq.2))
      have hdw := HD10.out.lt
      have hB39 := HB9.out.size
      have hs910 := hb.size
      have hdw9 := HD9.out.lt
      have HIN : Hid (DInv data (fewN n) all (bsTo all all.length) data (makeG data (fewN n)) (List.replicate all.length false) 0 gone) := Lib.hid (by
        have h1 := HK.out.rng
        have h2 := HLA.out
        rw [h2] at h1 ⊢
        exact DInv.start HAD.out HAP.out HA12.out gone (fun x hx => by have := h1 x hx; omega))
      clear hOT0 hto hOT ho hb hg hnew HF9 HA6 HD6 HP6 HD9
      generalize hfe : fewN n = F at *
      clear hfe
      go_loopw [19, 20] (fun cn i wr => ∃ (k cnt nn : Nat) (f : Int → Option FE) (bs : Int → List G) (D Q : List (List G)) (dm : List Bool), cn = .int .i64 cnt ∧ i = .int .i64 k ∧ k ≤ gone.length ∧ cnt ≤ k ∧ nn ≤ all.length + k ∧ Hid (Disk wr dp bm nn f bs) ∧ Hid (Sh f bs) ∧ Hid (∀ x e, f x = some e → e.d = (e.n : Int)) ∧ Hid (∀ x e, f x = some e → Vb wr (fun q => (q ≠ dp ∧ q ≠ bm) ∧ some q ≠ (Value.slice At all.length ct).ownBlock) (.slice e.A e.n e.c) (bs x)) ∧ Hid (OwnT wr w9.heap.size (.slice At all.length ct) dm) ∧ Hid (DInv data F all bs D Q dm cnt (gone.drop k)) ∧ Hid (Fr dp bm w9 wr)) (fun _ i _ => gone.length - (intOf i).toNat)
      case atStart => exact ⟨0, 0, all.length, f7, _, _, _, _, rfl, rfl, Nat.zero_le _, Nat.le_refl _, Nat.le_refl _, HD10, HSH7, HFD7, HRD, HOT, HIN, HF910⟩
      case round =>
        clear HD10 HSH7 HFD7 HRD HOT HIN HF910
        obtain ⟨k, cnt, nn, f, bs, D, Q, dm, rfl, rfl, hk, hck, hnn, HD, HSH, HFD, HRD, HOT, HIN, HF⟩ := hrel
        by_cases hlt : k < gone.length
        · have hki : (k : Int) < (gone.length : Int) := by omega
          obtain ⟨adg, rfl, hcell, _⟩ := Vi_cell (HF.out.V HG9.out (fun q hq => hq.1)) k hlt
          have hxm : gone.getD k 0 ∈ gone := by rw [List.getD_eq_getElem?_getD, List.getElem?_eq_getElem hlt]; exact List.getElem_mem hlt
          obtain ⟨hr0, hr1⟩ := HK.out.rng _ hxm
          have hdr : gone.drop k = gone.getD k 0 :: gone.drop (k + 1) := by
            rw [List.drop_eq_getElem_cons hlt, List.getD_eq_getElem?_getD, List.getElem?_eq_getElem hlt]; rfl
          have hnd : (gone.drop k).Nodup := HK.out.nodup.sublist (List.drop_sublist _ _)
          rw [hdr] at HIN hnd
          have HND := Lib.hid (List.nodup_cons.1 hnd).1
          clear hxm hdr hnd
          generalize gone.getD k 0 = x at *
          obtain ⟨kx, rfl⟩ := Int.eq_ofNat_of_zero_le hr0
          have hkx : kx < all.length := by omega
          obtain ⟨ada, A7, c7, rfl, hcell7, HR7, hadb⟩ := Vbb_row (HF.out.V HA9.out (fun q hq => hq.1)) kx hkx
          have hyl := HA12.out kx
          by_cases hy : (all.getD kx []).length = 0
          · rw [hy] at hcell7
            clear HR7 hy hyl
            go_wp2_with fail
            exact ⟨⟨k + 1, cnt, nn, f, bs, D, Q, dm, rfl, by go_num, by omega, by omega, by omega, HD, HSH, HFD, HRD, HOT, Lib.hid HIN.out.skip, HF⟩, by simp [intOf]; omega⟩
          · have HIK : Hid (∀ bitn, bitn < 8 * (all.getD kx []).length → ∃ D' Q', DInv data F all (updB bs (kx : Int) (flipB (all.getD kx []) bitn)) D' Q' (dm.set kx true) (cnt + 1) (gone.drop (k + 1))) := Lib.hid (fun bitn hb => DInv.hit HAD.out HAP.out HA12.out HIN.out (by have := HLA.out; omega) HND.out hb)
            have HBX : Hid (bs (kx : Int) = all.getD kx []) := Lib.hid (HIN.out.un _ (by simp))
            generalize all.getD kx [] = y at *
            have hz : ((y.length : Int) == 0) = false := by rw [beq_eq_false_iff_ne]; omega
            go_upto_region 23 with fail
            have hM : IntKind.i64.wrap (8 * (y.length : Int)) = 8 * (y.length : Int) := IntWalk.i64_in _ (by omega)
            have hM0 : ¬ 8 * (y.length : Int) = 0 := by omega
            obtain ⟨r, b, hr, hrw, hrb, hb⟩ := idx_bit bit y.length (by omega) (by omega)
            obtain ⟨e, hfe⟩ : ∃ e, f (kx : Int) = some e := by
              cases hfx : f (kx : Int) with
              | none =>
                have h9 := (HSH.out (kx : Int)).1 hfx
                rw [HBX.out] at h9
                rw [h9] at hy; exact absurd rfl hy
              | some e => exact ⟨e, rfl⟩
            have hrot := rot_any (kx : Int) b e (HD.out.below (below_drew (Below.refl _ _))) (by omega) (by omega) (by omega) hfe (by rw [HBX.out]; exact hyl) (by rw [HBX.out]; exact hb)
            rw [HBX.out] at hrot
            have HRT := Lib.hid hrot
            have HFE := Lib.hid hfe
            clear HR7 hrot hfe
            go_region_held3 (fun W => W.cell? (ada.add kx) = some (.slice A7 y.length c7))
              (first | exact hcell7 | exact HF6.out.cell (by simpa using hcell7) (by rw [add_block]; exact hadb.1.1) (by rw [add_block]; exact hadb.1.2))
              (first | (go_at_call 35; refine HRT.out.mono ?_; rintro e1 w6' ⟨rfl, ⟨A8, c8, hD6, hV6⟩, hF6⟩; have HD6 := Lib.hid hD6; have HV6 := Lib.hid hV6; have HF6 := Lib.hid hF6; clear hD6 hV6 hF6))
            have hOT6 : OwnT w6' w9.heap.size (.slice At all.length ct) dm := (HOT.out.below (below_drew (Below.refl _ _))).fr HF6.out (fun k hk => (HTB.out k hk).2)
            have HRD6 : Hid (∀ x' e', updF f (kx : Int) ⟨A8, y.length, c8, e.d⟩ x' = some e' → Vb w6' (fun q => (q ≠ dp ∧ q ≠ bm) ∧ some q ≠ (Value.slice At all.length ct).ownBlock) (.slice e'.A e'.n e'.c) (updB bs (kx : Int) (flipB y b) x')) := Lib.hid (fun x' e' he' => by
              have hlt6 := HD.out.lt
              have hot := World.ownsRow.lt HOT.out
              unfold updF at he'
              unfold updB
              by_cases hz2 : x' = (kx : Int)
              · rw [if_pos hz2] at he' ⊢
                cases he'
                exact Kd.V_mono HV6.out (fun q hq => by
                  have hq2 : wr.heap.size ≤ q := hq
                  refine ⟨by omega, fun h3 => ?_⟩
                  have := hot q h3.symm
                  omega)
              · rw [if_neg hz2] at he' ⊢
                exact HF6.out.V (Kd.V_below (HRD.out x' e' he') (below_drew (Below.refl _ _))) (fun q hq => hq.1))
            have HSH6 : Hid (Sh (updF f (kx : Int) ⟨A8, y.length, c8, e.d⟩) (updB bs (kx : Int) (flipB y b))) := Lib.hid (by
              have h9 := HSH.out.set (kx : Int) A8 (flipB y b) c8 e.d
              unfold setF at h9
              rw [if_neg (show ¬ (flipB y b).length = 0 by rw [flip_len]; omega), flip_len] at h9
              exact h9)
            have HFD6 : Hid (∀ x' e', updF f (kx : Int) ⟨A8, y.length, c8, e.d⟩ x' = some e' → e'.d = (e'.n : Int)) := Lib.hid (fun x' e' he' => by
              unfold updF at he'
              by_cases hz2 : x' = (kx : Int)
              · rw [if_pos hz2] at he'
                cases he'
                have h8 := HFD.out _ e HFE.out
                rw [(HD.out.rd _ e HFE.out).1, HBX.out] at h8
                exact h8
              · rw [if_neg hz2] at he'
                exact HFD.out x' e' he')
            have HF9 : Hid (Fr dp bm w9 w6') := Lib.hid ((HF.out.below (below_drew (Below.refl _ _))).trans HF6.out)
            have hdl : dm.length = all.length := by rw [HIN.out.di.lm, HLA.out]
            obtain ⟨gt, cc2, he, hgtB, hgtW⟩ := hOT6.form (by omega)
            rw [hdl] at he
            injection he with he1 _ he2
            subst he1 he2
            obtain ⟨hc2, hfz2⟩ := hOT6.at_ kx (by omega)
            obtain ⟨hOT7, hg7⟩ := hOT6.set_ kx true
            have hgne := (HTB.out gt rfl).2
            have HOT7 := Lib.hid hOT7
            have HD7 := Lib.hid (HD6.out.grown hg7 (fun e => hgne.1 (Option.some.inj e).symm) (fun e => hgne.2 (Option.some.inj e).symm) (fun x' e' he' k' hk' => Kd.V_mono (HRD6.out x' e' he') (fun q hq => hq)))
            have HRD7 := Lib.hid (fun x' e' he' => Kd.V_grown (HRD6.out x' e' he') hg7 (fun q hq => hq.2))
            have HF7 := Lib.hid (HF9.out.grown hg7 (fun i hi => .inr (.inr (by have := Option.some.inj hi; omega))))
            obtain ⟨D', Q', hIN7⟩ := HIK.out b hb
            have HIN7 := Lib.hid hIN7
            clear hIN7 hOT7 hg7 hOT6 hr hrw hrb hM hM0 hz hcell hcell7 HD6 HRD6 HF9 HF6 HV6 HSH HFD HRD HOT HIN HIK HD HRT HFE
            have hkx0 : (0 : Int) ≤ (kx : Int) := by omega
            have hkxi : (kx : Int) < (all.length : Int) := by omega
            go_wp2_with fail
            exact ⟨⟨k + 1, cnt + 1, nn + 1, _, _, D', Q', _, by go_num, by go_num, by omega, by omega, by omega, HD7, HSH6, HFD6, HRD7, HOT7, HIN7, HF7⟩, by simp [intOf]; omega⟩
        · obtain rfl : k = gone.length := by omega
          have hki : ¬ (gone.length : Int) < (gone.length : Int) := by omega
          have hcF : cnt ≤ F := by have := HK.out.few; omega
          have hfin := HIN.out.fin (by omega) (by omega) HLO.out hcF
          have HFIN := Lib.hid hfin
          have hcr := crash_any HD.out (by omega) (fun x e he => by
            have h1 := (HD.out.rd x e he).1
            have h2 := HFD.out x e he
            have h3 := HIN.out.sm x
            have hne0 : bs x ≠ [] := fun h4 => by rw [(HSH.out x).2 h4] at he; cases he
            have h5 : 0 < (bs x).length := List.length_pos_iff.2 hne0
            have h6 : 0 ≤ x ∧ x < (data.length : Int) + (F : Int) := Classical.byContradiction (fun h7 => hne0 (HIN.out.tO x h7))
            exact ⟨by omega, h2, by omega, by omega⟩)
          have HCR := Lib.hid hcr
          clear hcr hfin
          go_wp2_with (go_at_call 36; refine HCR.out.mono ?_; rintro e wc ⟨rfl, ⟨f', nn', hDc, hlk⟩, hFc⟩; have HDc := Lib.hid hDc; have HLK := Lib.hid hlk; have HFc := Lib.hid (HF.out.trans hFc); have HOTc := Lib.hid (HOT.out.fr hFc (fun k hk => (HTB.out k hk).2)); clear hDc hlk hFc)
          have HRB : Hid (∀ x, f' x = none → bs x = []) := Lib.hid (fun x hx => by
            cases hfx : f x with
            | none => exact (HSH.out x).1 hfx
            | some e =>
              obtain ⟨e', h1, _⟩ := (HLK.out x).2 e hfx
              rw [hx] at h1; cases h1)
          have HDAc := Lib.hid (Kd.V_bound (HFc.out.V HDA9.out (fun q hq => hq.2)))
          have HPAc := Lib.hid (Kd.V_bound (HFc.out.V HPA9.out (fun q hq => hq.2)))
          have HHc := Lib.hid (Kd.V_bound (HFc.out.V HH9.out (fun q hq => hq.1)))
          have HBc : Hid (Below w3.heap.size w3 wc) := Lib.hid (HFc.out.toBelow HB9.out hdp hbm hB39)
          have HQL : Hid (Q.length = F) := Lib.hid HIN.out.di.lq
          have HDL : Hid (D.length = data.length) := Lib.hid HIN.out.di.ld
          clear HCR HSH HFD HRD HF HOT HD HLK HG9 HA9 HDA9 HPA9 HH9 HB9 HFc
          generalize all.length = N at *
          go_loopw [22, 23, 24] (fun va vb i wr2 => ∃ k : Nat, i = .int .i64 k ∧ k ≤ N ∧ Hid (Below wc.heap.size wc wr2) ∧ ((k ≤ data.length ∧ vb = .slice none 0 0 ∧ Hid (Kd.N KGs 33 wr2 wc.heap.size (fun _ => True) va (D.take k))) ∨ (data.length ≤ k ∧ ∃ wm : World, wc.heap.size ≤ wm.heap.size ∧ Hid (Below wc.heap.size wc wm) ∧ Hid (Below wm.heap.size wm wr2) ∧ Hid (Vbb wm (fun q => True ∧ q < wm.heap.size) va D) ∧ Hid (Kd.N KGs 33 wr2 wm.heap.size (fun _ => True) vb (Q.take (k - data.length)))))) (fun _ _ i _ => N - (intOf i).toNat)
          case atStart => exact ⟨0, rfl, Nat.zero_le _, Lib.hid (Below.refl _ _), .inl ⟨Nat.zero_le _, rfl, Lib.hid (Kd.N_nil _ _ _ _ _)⟩⟩
          case round =>
            obtain ⟨k, rfl, hk2, HBr, hor⟩ := hrel
            by_cases hlt2 : k < N
            · have hkN : (k : Int) < (N : Int) := by omega
              have HRE := Lib.hid (read_any (k : Int) (HDc.out.below HBr.out) (by omega) (by omega) (HRB.out _) (Nat.le_trans (HIN.out.sm _) (by decide)))
              by_cases hkd : k < data.length
              · have hkdi : (k : Int) < (data.length : Int) := by omega
                rcases hor with ⟨_, rfl, HN⟩ | ⟨h9, _⟩
                · have htd := HIN.out.tD k hkd
                  have HTK : Hid (D.take (k + 1) = D.take k ++ [bs (k : Int)]) := Lib.hid (by
                    rw [htd, List.take_add_one, List.getD_eq_getElem?_getD, List.getElem?_eq_getElem (by have := HDL.out; omega)]; rfl)
                  have HTL : Hid ((D.take k).length ≤ 12) := Lib.hid (by rw [List.length_take]; omega)
                  clear htd
                  generalize bs (k : Int) = y at *
                  go_wp2_with (first
                    | (go_at_call 37; refine HRE.out.mono ?_; rintro e w2 ⟨v2, rfl, hO, hB⟩; obtain ⟨A8, c8, rfl⟩ := own_slice hO; have HV8 := Lib.hid (Kd.V_mono hO.V (fun q hq => (World.ownsRow.lt hO q hq.symm).1) : Vb w2 (fun q => wr.heap.size ≤ q) _ y); have HN2 := Lib.hid (Kd.N_below HN.out hB); have HB2 := Lib.hid (HBr.out.trans (hB.mono HBr.out.size)); have HNE := Lib.hid (fun q hq => ⟨trivial, fun he => by have h4 := Kd.N_lt HN.out q he.symm; omega⟩ : ∀ q, wr.heap.size ≤ q → True ∧ some q ≠ u22.ownBlock); clear hO hB)
                    | ((with_reducible refine gate_builtin (b := .append) (xs := #[.tmp 163, .tmp 165]) rfl ?_); at_builtin; refine Kd.N_append KGs (w0 := wc) wc.heap.size rfl (.tmp 163) (.tmp 165) 30 33 (.slice none 0 0) 24 rfl Try.underlying30 info33 rfl (by decide) (by omega) _ (D.take k) y [.slice A8 y.length c8] (fun _ => True) (fun q => wr.heap.size ≤ q) rfl rfl (Kd.FK_slice_mk (Kd.V_at HV8.out).2.1 (Kd.V_F HV8.out)) HNE.out (fun _ _ => trivial) HN2.out HB2.out HB2.out.size (by have := HTL.out; omega) ?_; intro v3 w3' hN3 hB3 _ _; have HN3 := Lib.hid hN3; have HB3b := Lib.hid hB3; clear hN3 hB3))
                  exact ⟨⟨k + 1, by go_num, by omega, HB3b, .inl ⟨by omega, rfl, Lib.hid (by rw [HTK.out]; exact HN3.out)⟩⟩, by simp [intOf]; omega⟩
                · omega
              · have hkdi : ¬ (k : Int) < (data.length : Int) := by omega
                have hR : (∃ wm : World, wc.heap.size ≤ wm.heap.size ∧ Hid (Below wc.heap.size wc wm) ∧ Hid (Below wm.heap.size wm wr) ∧ Hid (Vbb wm (fun q => True ∧ q < wm.heap.size) u22 D) ∧ Hid (Kd.N KGs 33 wr wm.heap.size (fun _ => True) u23 (Q.take (k - data.length)))) := by
                  rcases hor with ⟨h8, rfl, HN⟩ | ⟨_, h⟩
                  · obtain rfl : k = data.length := by omega
                    refine ⟨wr, HBr.out.size, HBr, Lib.hid (Below.refl _ _), Lib.hid ?_, Lib.hid ?_⟩
                    · have h9 := Kd.V_bound (Kd.N_V (base' := 0) HN.out)
                      rw [List.take_of_length_le (by have := HDL.out; omega)] at h9
                      exact h9
                    · rw [Nat.sub_self, List.take_zero]; exact Kd.N_nil _ _ _ _ _
                  · exact h
                clear hor
                obtain ⟨wm, hwm, HBcm, HBm, HVD, HN⟩ := hR
                obtain ⟨j, rfl⟩ : ∃ j, k = data.length + j := ⟨k - data.length, by omega⟩
                have hjF : j < F := by have := HLA.out; omega
                have htp := HIN.out.tP j hjF
                rw [Nat.add_sub_cancel_left] at HN
                have hcast : ((data.length + j : Nat) : Int) = (data.length : Int) + (j : Int) := by omega
                rw [← hcast] at htp
                have HTK : Hid (Q.take (data.length + j + 1 - data.length) = Q.take j ++ [bs ((data.length + j : Nat) : Int)]) := Lib.hid (by
                  rw [htp, show data.length + j + 1 - data.length = j + 1 by omega, List.take_add_one, List.getD_eq_getElem?_getD, List.getElem?_eq_getElem (by have := HQL.out; omega)]; rfl)
                have HTL : Hid ((Q.take j).length ≤ 12) := Lib.hid (by rw [List.length_take]; omega)
                clear htp hcast
                generalize bs ((data.length + j : Nat) : Int) = y at *
                generalize hkk : data.length + j = k at *
                go_wp2_with (first
                  | (go_at_call 37; refine HRE.out.mono ?_; rintro e w2 ⟨v2, rfl, hO, hB⟩; obtain ⟨A8, c8, rfl⟩ := own_slice hO; have HV8 := Lib.hid (Kd.V_mono hO.V (fun q hq => (World.ownsRow.lt hO q hq.symm).1) : Vb w2 (fun q => wr.heap.size ≤ q) _ y); have HN2 := Lib.hid (Kd.N_below HN.out hB); have HB2 := Lib.hid (HBr.out.trans (hB.mono HBr.out.size)); have HB2m := Lib.hid (HBm.out.trans (hB.mono HBm.out.size)); have HNE := Lib.hid (fun q hq => ⟨trivial, fun he => by have h4 := Kd.N_lt HN.out q he.symm; omega⟩ : ∀ q, wr.heap.size ≤ q → True ∧ some q ≠ u23.ownBlock); clear hO hB)
                  | ((with_reducible refine gate_builtin (b := .append) (xs := #[.tmp 167, .tmp 169]) rfl ?_); at_builtin; refine Kd.N_append KGs (w0 := wm) wm.heap.size rfl (.tmp 167) (.tmp 169) 30 33 (.slice none 0 0) 24 rfl Try.underlying30 info33 rfl (by decide) (by omega) _ (Q.take j) y [.slice A8 y.length c8] (fun _ => True) (fun q => wr.heap.size ≤ q) rfl rfl (Kd.FK_slice_mk (Kd.V_at HV8.out).2.1 (Kd.V_F HV8.out)) HNE.out (fun _ _ => trivial) HN2.out HB2m.out HB2m.out.size (by have := HTL.out; omega) ?_; intro v3 w3' hN3 hB3 _ _; have HN3 := Lib.hid hN3; have HB3b := Lib.hid hB3; clear hN3 hB3))
                exact ⟨⟨k + 1, by go_num, by omega, Lib.hid (HBcm.out.trans (HB3b.out.mono hwm)), .inr ⟨by omega, wm, hwm, HBcm, HB3b, HVD, Lib.hid (by rw [HTK.out]; exact HN3.out)⟩⟩, by simp [intOf]; omega⟩
            · obtain rfl : k = N := by omega
              have hR : (∃ wm : World, wc.heap.size ≤ wm.heap.size ∧ Hid (Below wc.heap.size wc wm) ∧ Hid (Below wm.heap.size wm wr) ∧ Hid (Vbb wm (fun q => True ∧ q < wm.heap.size) u22 D) ∧ Hid (Kd.N KGs 33 wr wm.heap.size (fun _ => True) u23 (Q.take (k - data.length)))) := by
                rcases hor with ⟨h8, rfl, HN⟩ | ⟨_, h⟩
                · obtain rfl : k = data.length := by have := HLA.out; omega
                  refine ⟨wr, HBr.out.size, HBr, Lib.hid (Below.refl _ _), Lib.hid ?_, Lib.hid ?_⟩
                  · have h9 := Kd.V_bound (Kd.N_V (base' := 0) HN.out)
                    rw [List.take_of_length_le (by have := HDL.out; omega)] at h9
                    exact h9
                  · rw [Nat.sub_self, List.take_zero]; exact Kd.N_nil _ _ _ _ _
                · exact h
              clear hor
              obtain ⟨wm, hwm, HBcm, HBm, HVD, HN⟩ := hR
              rw [List.take_of_length_le (by have := HQL.out; have := HLA.out; omega)] at HN
              obtain ⟨Aa, ca, rfl, hca, _⟩ := V_open HVD.out
              obtain ⟨Ab, cb, rfl, hcb, _⟩ := V_open (Kd.N_V (base' := 0) HN.out)
              have HVa := Lib.hid (Kd.V_below HVD.out HBm.out)
              have HVb := Lib.hid (Kd.N_V (base' := 0) HN.out)
              have hkN : ¬ (k : Int) < (k : Int) := by omega
              have HSZ := Lib.hid (sizes_any data _ wr (Kd.V_mono (Kd.V_below HDAc.out (HBr.out)) (fun _ _ => trivial)) (by omega))
              go_wp2_with (go_at_call 26; refine HSZ.out.mono ?_; rintro e w2 ⟨vs, rfl, hV5, hB5⟩; obtain ⟨As, cs, rfl, _, _⟩ := V_open hV5.V; have HS5 := Lib.hid hV5; have HB5 := Lib.hid (HBr.out.trans (hB5.mono HBr.out.size)); have HHL := Lib.hid (heal_at HFIN.out.1 rfl rfl rfl rfl (Kd.V_mono (Kd.V_below HVa.out hB5) (fun _ _ => trivial)) (Kd.V_mono (Kd.V_below HVb.out hB5) (fun _ _ => trivial)) (Kd.V_mono hV5.V (fun _ _ => trivial)) (Kd.V_mono (Kd.V_below HHc.out (HBr.out.trans (hB5.mono HBr.out.size))) (fun _ _ => trivial))); clear hV5 hB5)
              have HLE := Lib.hid HFIN.out.2.2.2
              have HBL := Lib.hid HFIN.out.2.1
              have HMEM := Lib.hid HFIN.out.2.2.1
              clear HFIN
              generalize badG data F D Q = bad at *
              have hcb2 := HBL.out
              subst hcb2
              have HR := Lib.hid (HHL.out.mono (fun e w' h => ⟨h.2.2 (by have := HLE.out; omega), h.1⟩ : ∀ e w', HealPost data F bad w2 e w' → (∃ va vp vb, e = .returned (.tuple #[va, vp, vb, .int .i64 0]) ∧ Vbb w' (fun _ => True) va data ∧ Vbb w' (fun _ => True) vp (makeG data F) ∧ Vi w' (fun _ => True) vb bad) ∧ Below w2.heap.size w2 w'))
              clear HHL HLE HBL
              go_wp2_with fail
              refine HR.out.mono ?_
              rintro e w10' ⟨⟨va, vp, vb, rfl, hva, hvp, hvb⟩, hB10⟩
              obtain ⟨Ax, cx, rfl, hcx, _⟩ := V_open hvb
              have HVA := Lib.hid (Kd.V_bound hva)
              have HVP := Lib.hid (Kd.V_bound hvp)
              have HVB := Lib.hid (Kd.V_bound hvb)
              have HB10 := Lib.hid (HB5.out.trans (hB10.mono HB5.out.size))
              clear hva hvp hvb hB10 HR
              have hbb : ((bad.length : Int) != (bad.length : Int)) = false := by rw [bne_eq_false_iff_eq]
              go_wp2_with fail
              go_loopw [31] (fun i wq => ∃ j : Nat, i = .int .i64 j ∧ j ≤ bad.length ∧ Hid (Below w10'.heap.size w10' wq)) (fun i _ => bad.length - (intOf i).toNat)
              case atStart => exact ⟨0, rfl, Nat.zero_le _, Lib.hid (Below.refl _ _)⟩
              case round =>
                obtain ⟨j, rfl, hj, HBJ⟩ := hrel
                have HBT := Lib.hid (HB10.out.trans (HBJ.out.mono HB10.out.size))
                by_cases hlt2 : j < bad.length
                · have hj0 : (0 : Int) ≤ (j : Int) := by omega
                  have hji : (j : Int) < (bad.length : Int) := by omega
                  obtain ⟨ada, rfl, hcella, _⟩ := Vi_cell (Kd.V_below HVB.out HBJ.out) j hlt2
                  obtain ⟨q, hxq, hqN, hqd⟩ := HMEM.out (bad.getD j 0) (by rw [List.getD_eq_getElem?_getD, List.getElem?_eq_getElem hlt2]; exact List.getElem_mem hlt2)
                  generalize bad.getD j 0 = x at *
                  subst hxq
                  have hqk : q < k := by have := HLA.out; omega
                  have hOTj := HOTc.out.below HBT.out
                  have hdl : dm.length = k := by rw [HIN.out.di.lm, HLA.out]
                  obtain ⟨gt, cc2, he, hgtB, hgtW⟩ := hOTj.form (by omega)
                  rw [hdl] at he
                  injection he with he1 _ he2
                  subst he1 he2
                  obtain ⟨hc2, _⟩ := hOTj.at_ q (by omega)
                  rw [hqd] at hc2
                  have hq0 : (0 : Int) ≤ (q : Int) := by omega
                  have hqi : (q : Int) < (k : Int) := by omega
                  clear hqN hdl hOTj
                  go_wp2_with fail
                  exact ⟨⟨j + 1, by go_num, by omega, HBJ⟩, by simp [intOf]; omega⟩
                · obtain rfl : j = bad.length := by omega
                  have hji : ¬ (bad.length : Int) < (bad.length : Int) := by omega
                  have HVA2 := Lib.hid (Kd.V_mono (Kd.V_below HVA.out HBJ.out) (fun _ _ => trivial) : Vbb _ (fun _ => True) va data)
                  have HVP2 := Lib.hid (Kd.V_mono (Kd.V_below HVP.out HBJ.out) (fun _ _ => trivial) : Vbb _ (fun _ => True) vp (makeG data F))
                  have HD9 := Lib.hid (Kd.V_mono (Kd.V_below HDAc.out HBT.out) (fun _ _ => trivial) : Vbb _ (fun _ => True) _ data)
                  have HP9 := Lib.hid (Kd.V_mono (Kd.V_below HPAc.out HBT.out) (fun _ _ => trivial) : Vbb _ (fun _ => True) _ (makeG data F))
                  have HSM := Lib.hid (fun W v1 v2 h1 h2 => (same_any data data v1 v2 W h1 h2).mono (fun e W' h => ⟨by rw [h.1, decide_eq_true rfl], h.2⟩) : ∀ W v1 v2, Vbb W (fun _ => True) v1 data → Vbb W (fun _ => True) v2 data → Calls Try.prog 20 #[v1, v2] W fun e w' => e = .returned (.bool true) ∧ ∃ n, w' = W.drewN n)
                  have HSP := Lib.hid (fun W v1 v2 h1 h2 => (same_any (makeG data F) (makeG data F) v1 v2 W h1 h2).mono (fun e W' h => ⟨by rw [h.1, decide_eq_true rfl], h.2⟩) : ∀ W v1 v2, Vbb W (fun _ => True) v1 (makeG data F) → Vbb W (fun _ => True) v2 (makeG data F) → Calls Try.prog 20 #[v1, v2] W fun e w' => e = .returned (.bool true) ∧ ∃ n, w' = W.drewN n)
                  go_wp2_with fail
                  refine (HSM.out _ _ _ HVA2.out HD9.out).mono ?_
                  rintro e w' ⟨rfl, n8, rfl⟩
                  go_wp2_with fail
                  refine (HSP.out _ _ _ (Kd.V_drewN HVP2.out n8) (Kd.V_drewN HP9.out n8)).mono ?_
                  rintro e w' ⟨rfl, n9, rfl⟩
                  go_wp2_with fail
                  refine (lives_any _).mono ?_
                  rintro e w11 ⟨rfl, hB11⟩
                  have HB11 := Lib.hid hB11
                  clear hB11
                  go_wp2_with fail
                  go_ret
                  refine ⟨rfl, ?_⟩
                  have h0 := HB3.out.trans (HBc.out.mono HB3.out.size)
                  have h1 := h0.trans (HBT.out.mono h0.size)
                  have h2 := below_drewN h1 (n8 + n9)
                  exact h2.trans (HB11.out.mono h2.size)
end Go.Proofs.Ytiggohkkokalcaa
