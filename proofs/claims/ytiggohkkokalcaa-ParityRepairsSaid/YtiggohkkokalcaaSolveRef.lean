/- The walk of the reference's Solve: it gives the solution of a system that has exactly one. -/
import Derived.Test.YtiggohkkokalcaaAug
import Derived.Test.YtiggohkkokalcaaRepPlain
import Derived.BigRegion
import Derived.Deep.RegionHeld3
import Derived.Test.YtiggohkkokalcaaWLast
import Derived.Deep.Cut
import Derived.Deep.CutBlock
namespace Go.Proofs.Ytiggohkkokalcaa
open Go.RowKit Go.Proofs.YtiggohkkokalcaaW.PrintWords Go.Proofs.YtiggohkkokalcaaW.PrintMore Go.Proofs.YtiggohkkokalcaaW.PrintLast
set_option linter.unusedVariables false
set_option linter.unusedSimpArgs false

/-- append(v, ys...): bytes, at a step of a region that draws its order -/
theorem app_rows_step {ops : Array Oper} {o : Oper} {a : Act} {K : Act → World → Prop} {Q : Exit → Act → World → Prop} {E : Prop} {w0 W : World} (B : Nat) (hgd : o.guard = none) (s x : Operand)
    (ho : o.op = .call { callee := .builtin .append, args := #[s, x], argTypes := #[33, 33] }) (v : Value) (xs ys : List G) (A : Option Addr) (m c : Nat) (hs : a.eval s = v) (hx : a.eval x = .slice A m c)
    (HO : OwnB W B v xs) (HV : Vb W (fun k => some k ≠ v.ownBlock) (.slice A m c) ys) (HB : Below B w0 W) (hbase : B ≤ W.heap.size) (hl : xs.length + m ≤ 140000)
    (h : ∀ v1 w1, OwnB w1 B v1 (xs ++ ys) → Below B w0 w1 → W.grownBy w1 v.ownBlock → (v1.ownBlock = v.ownBlock ∨ ∃ b, v1.ownBlock = some b ∧ W.heap.size ≤ b) → K (a.put o.dst v1) w1) :
    if Region.wanted o (yielded ops a.tmps) = true then Oper.wp Try.prog o a W K Q else E := by
  have hw : Region.wanted o (yielded ops a.tmps) = true := by simp [Region.wanted, hgd]
  rw [if_pos hw]
  have h1 := Kd.N_append_rows_step (P := Try.prog) (ops := ops) (o := o) (a := a) (Q := Q) (Kc := K) KG (w0 := w0) B hw s x 33 5 (.int .u8 0) 1 ho Try.underlying33 info5 rfl (by decide) (by omega) v xs ys A m c (fun _ => True) (fun k => some k ≠ v.ownBlock) hs hx (Kd.R_N (Kd.R_mono HO.R (fun _ _ => trivial))) (Kd.V_F HV) (fun k hk => ⟨trivial, hk⟩) (fun _ _ => trivial) HB hbase (by omega) (fun v1 w1 hN hB hg hat => h v1 w1 (own_of_N hN) hB hg hat)
  rwa [if_pos hw] at h1
/-- a row of one byte that was just made -/
theorem V_byte1 (W : World) (g : G) : Vb (W.alloc (.cells #[.int .u8 (toI g)] 5)) (fun k => k = W.heap.size) (.slice (some ⟨W.heap.size, 0, none⟩) 1 1) [g] := by
  refine V_of_cells (d := KG) (e := 5) (xs := [g]) (Nat.le_refl _) (by simp) rfl (fun j x hx => ?_)
  match j with
  | 0 =>
    simp only [List.getElem?_cons_zero, Option.some.injEq] at hx
    subst hx
    refine ⟨[.int .u8 (toI g)], rfl, fun _ _ => rfl, fun i y hy => ?_⟩
    match i with
    | 0 =>
      simp only [List.getElem?_cons_zero, Option.some.injEq] at hy
      subst hy
      exact World.cell?_alloc_new _ _ _ _
    | i + 1 => simp at hy
  | j + 1 => simp at hx
theorem byte1_apart (wr : World) (x : G) (w1 : World) (v1 : Value) (hg : ((wr.alloc (.cells #[.int .u8 (toI x)] 5)).drew).grownBy w1 (Value.slice none 0 0).ownBlock)
    (hat : v1.ownBlock = (Value.slice none 0 0).ownBlock ∨ ∃ b, v1.ownBlock = some b ∧ ((wr.alloc (.cells #[.int .u8 (toI x)] 5)).drew).heap.size ≤ b) :
    Vb w1 (fun k => some k ≠ v1.ownBlock) (.slice (some ⟨wr.heap.size, 0, none⟩) 1 1) [x] := by
  refine Kd.V_mono (Kd.V_grown (Kd.V_drew (V_byte1 wr x)) hg (fun q _ => by simp [Value.ownBlock])) (fun q hq he => ?_)
  subst hq
  rcases hat with h | ⟨b, hb, hl⟩
  · rw [h] at he; simp [Value.ownBlock] at he
  · rw [hb] at he
    injection he with he
    have : ((wr.alloc (.cells #[.int .u8 (toI x)] 5)).drew).heap.size = wr.heap.size + 1 := World.size_alloc _ _
    omega
theorem byte1_new (w1 : World) (x : G) (v1 : Value) {B : Nat} {xs : List G} (h : OwnB w1 B v1 xs) : Vb (w1.alloc (.cells #[.int .u8 (toI x)] 5)) (fun k => some k ≠ v1.ownBlock) (.slice (some ⟨w1.heap.size, 0, none⟩) 1 1) [x] :=
  Kd.V_mono (V_byte1 w1 x) (fun q hq he => by subst hq; exact absurd (World.ownsRow.lt h _ he.symm).2 (Nat.lt_irrefl _))
def colTo (M : List (List G)) (n k : Nat) : List G := (List.range k).map fun r => at2 M r n
theorem colTo_succ (M : List (List G)) (n k : Nat) : colTo M n (k + 1) = colTo M n k ++ [at2 M k n] := by simp [colTo, List.range_succ]
theorem colTo_length (M : List (List G)) (n k : Nat) : (colTo M n k).length = k := by simp [colTo]
theorem colTo_getD (M : List (List G)) (n k c : Nat) (h : c < k) : (colTo M n k).getD c 0 = at2 M c n := by simp [colTo, h]
theorem set_rat (M : List (List G)) (i : Nat) : M.set i (rat M i) = M := by
  apply List.ext_getElem (by simp)
  intro j h1 h2
  rw [List.getElem_set]
  split
  · rename_i h; subst h; unfold rat; rw [List.getD_eq_getElem?_getD, List.getElem?_eq_getElem h2]; rfl
  · rfl

theorem first_pivot (f : Nat → G) (i n : Nat) (h : ∃ p, i ≤ p ∧ p < n ∧ f p ≠ 0) : ∃ p, i ≤ p ∧ p < n ∧ f p ≠ 0 ∧ ∀ q, i ≤ q → q < p → f q = 0 := by
  obtain ⟨p, h1, h2, h3⟩ := h
  induction p using Nat.strongRecOn with
  | _ p ih =>
    by_cases hq : ∃ q, i ≤ q ∧ q < p ∧ f q ≠ 0
    · obtain ⟨q, a, b, c⟩ := hq
      exact ih q b a (by omega) c
    · exact ⟨p, h1, h2, h3, fun q a b => Classical.byContradiction fun c => hq ⟨q, a, b, c⟩⟩
/-- row i, as a row of the call's own in a block of its own -/
theorem Mat.rowForm {w : World} {B n i m : Nat} {v : Value} {vs : List Value} {R : List (List G)} (h : Mat w B n v vs R) (hi : i < n) (hm : (rat R i).length = m) (h0 : 0 < m) :
    ∃ g c, vat vs i = .slice (some ⟨g, 0, none⟩) m c ∧ B ≤ g ∧ g < w.heap.size := by
  obtain ⟨g, c, h1, h2, h3⟩ := (h.row i hi).form (by omega)
  exact ⟨g, c, by rw [h1, hm], h2, h3⟩

set_option maxRecDepth 100000 in
set_option maxHeartbeats 8000000 in
theorem refsolve_any (n : Nat) (R : List (List G)) (bs : List G) (vr vx : Value) (w : World) (hn : R.length = n) (hn4 : n ≤ 4) (hwr : ∀ r, r < n → (R.getD r []).length = n) (hb : bs.length = n) (hI : Inj n (at2 R))
    (HV : Vbb w (fun _ => True) vr R) (HX : Vb w (fun _ => True) vx bs) :
    Calls Try.prog 57 #[vr, vx] w fun e w' => ∃ u xs, e = .returned u ∧ OwnB w' w.heap.size u xs ∧ xs.length = n ∧ Sol n (at2 R) (fun r => bs.getD r 0) (fun c => xs.getD c 0) ∧ Below w.heap.size w w' := by
  obtain ⟨A, ca, rfl, hca, _⟩ := V_open HV
  obtain ⟨X, cx, rfl, hcx, _⟩ := V_open HX
  rw [hn] at HV hca ⊢
  rw [hb] at HX hcx ⊢
  have HHV := Lib.hid (Kd.V_bound HV); have HHX := Lib.hid (Kd.V_bound HX)
  have HA0 := Lib.hid (aug_start (n := n) (bs := bs) hwr)
  have HWR := Lib.hid hwr; have HN := Lib.hid hn; have HBL := Lib.hid hb; have HI := Lib.hid hI
  clear HV HX hwr hn hb hI
  go_enter Try.func57, Try.ntmps57
  go_wp2_with fail
  go_loopw [6, 7] (fun vm i wr => ∃ (k : Nat) (vs : List Value), i = .int .i64 k ∧ k ≤ n ∧ Hid (Mat wr w.heap.size k vm vs (augTo R bs k)) ∧ Hid (Below w.heap.size w wr)) (fun _ i _ => n - (intOf i).toNat)
  case atStart => exact ⟨0, [], rfl, Nat.zero_le _, Lib.hid (Mat.nil _ _), Lib.hid (Below.refl _ _)⟩
  case round =>
    obtain ⟨k, vs, rfl, hk, HM, HB⟩ := hrel
    obtain ⟨Am, cm, rfl⟩ := HM.out.slice
    by_cases hlt : k < n
    · obtain ⟨ad, A1, c1, rfl, hcell, HV2, _⟩ := Vbb_row (Kd.V_below HHV.out HB.out) k (by rw [HN.out]; exact hlt)
      obtain ⟨bd, rfl, hcb, _⟩ := Vb_cell (Kd.V_below HHX.out HB.out) k (by rw [HBL.out]; exact hlt)
      have hrl := HWR.out k hlt
      rw [hrl] at hcell HV2
      have HRL := Lib.hid hrl
      have HAT := Lib.hid (augTo_succ R bs k)
      have HVB := Lib.hid (Kd.V_bound HV2)
      clear HV2 hrl
      generalize R.getD k [] = rk at *
      generalize bs.getD k 0 = x at *
      have hws := HB.out.size
      have HBD := Lib.hid (below_drew HB.out)
      go_wp2_with fail
      have HPK := Lib.hid (fun (W : World) (hb : Below wr.heap.size wr W) => (show Vb W (fun k => some k ≠ (Value.slice none 0 0).ownBlock) (.slice A1 n c1) rk ∧ Below wr.heap.size wr W ∧ wr.heap.size ≤ W.heap.size from ⟨Kd.V_mono (Kd.V_below HVB.out hb) (fun k _ => by simp [Value.ownBlock]), hb, hb.size⟩))
      have HPL := Lib.hid (show ([] ++ rk).length + 1 ≤ 140000 by rw [List.nil_append, HRL.out]; omega)
      go_region_held3 (fun W => W.cell? (ad.add k) = some (.slice A1 n c1) ∧ W.cell? (bd.add k) = some (.int .u8 (toI x)))
        (first
          | exact ⟨hcell, hcb⟩
          | exact ⟨pw_cell_below (below_alloc (W := wr) (Below.refl _ _) _) hcell, pw_cell_below (below_alloc (W := wr) (Below.refl _ _) _) hcb⟩
          | exact ⟨pw_cell_below HB1.out hcell, pw_cell_below HB1.out hcb⟩
          | exact ⟨pw_cell_below (below_alloc HB1.out _) hcell, pw_cell_below (below_alloc HB1.out _) hcb⟩
          | exact ⟨pw_cell_below HB2.out hcell, pw_cell_below HB2.out hcb⟩)
        (first
          | (have hq := HPK.out wr.drew (below_drew (Below.refl _ _)); refine app_rows_step (w0 := wr) wr.heap.size (by rfl) (.tmp 26) (.tmp 30) (by rfl) (.slice none 0 0) [] rk A1 n c1 (by rfl) (by rfl) (World.ownsRow_nil _ _ _ _) hq.1 hq.2.1 hq.2.2 (by simp only [List.length_nil]; omega) ?_; intro v1 w1 hO1 hB1 hg1 hat1; have HO1 := Lib.hid hO1; have HB1 := Lib.hid hB1; clear hq hO1 hB1 hg1 hat1)
          | (have hq := HPK.out (wr.alloc (.cells #[.int .u8 (toI x)] 5)).drew (below_drew (below_alloc (Below.refl _ _) _)); refine app_rows_step (w0 := wr) wr.heap.size (by rfl) (.tmp 26) (.tmp 30) (by rfl) (.slice none 0 0) [] rk A1 n c1 (by rfl) (by rfl) (World.ownsRow_nil _ _ _ _) hq.1 hq.2.1 hq.2.2 (by simp only [List.length_nil]; omega) ?_; intro v1 w1 hO1 hB1 hg1 hat1; have HO1 := Lib.hid hO1; have HB1 := Lib.hid hB1; have HX1 := Lib.hid (byte1_apart wr x w1 v1 hg1 hat1); clear hq hO1 hB1 hg1 hat1)
          | (have hl1 := HPL.out; have hX := HX1.out; have hB2 := HB1.out.size; refine app_rows_step (w0 := wr) wr.heap.size (by rfl) (.tmp 31) (.tmp 36) (by rfl) v1 ([] ++ rk) [x] (some ⟨wr.heap.size, 0, none⟩) 1 1 (by rfl) (by rfl) HO1.out hX HB1.out hB2 hl1 ?_; intro v2 w2 hO2 hB2 hg2 hat2; have HO2 := Lib.hid hO2; have HB2 := Lib.hid hB2; clear hl1 hX hO2 hB2 hg2 hat2)
          | (have hl1 := HPL.out; have hB2 := (below_alloc HB1.out (.cells #[.int .u8 (toI x)] 5)); have hB3 := hB2.size; refine app_rows_step (w0 := wr) wr.heap.size (by rfl) (.tmp 31) (.tmp 36) (by rfl) v1 ([] ++ rk) [x] (some ⟨w1.heap.size, 0, none⟩) 1 1 (by rfl) (by rfl) (HO1.out.below (below_alloc (Below.refl _ _) _)) (byte1_new w1 x v1 HO1.out) hB2 hB3 hl1 ?_; intro v2 w2 hO2 hB2 hg2 hat2; have HO2 := Lib.hid hO2; have HB2 := Lib.hid hB2; clear hl1 hO2 hB2 hg2 hat2))
      all_goals
        obtain ⟨y, hy⟩ : ∃ y, y = [] ++ rk ++ [x] := ⟨_, rfl⟩
        rw [← hy] at HO2
        have HY := Lib.hid hy
        clear hy
        obtain ⟨A2, c2, rfl, _, _⟩ := V_open HO2.out.V
        have HB02 := Lib.hid (HB.out.trans (HB2.out.mono hws))
        have HM2 := Lib.hid (HM.out.below HB2.out)
        have HAP := Lib.hid (fun r hr => Ap2.symm (Ap2_fresh (fun q hq => (World.ownsRow.lt HO2.out q hq).1) (fun q hq => (World.ownsRow.lt (HM.out.row r hr) q hq).2)) : ∀ r, r < k → Ap2 (vat vs r) (.slice A2 y.length c2))
        have HU : Hid (OwnB w2 w.heap.size (.slice A2 y.length c2) y) := Lib.hid (own_less HO2.out hws)
        have hk7 : k ≤ 70000 := by omega
        go_wp2_with ((with_reducible refine gate_builtin (b := .append) (xs := #[.tmp 38, .tmp 40]) rfl ?_); at_builtin; refine app_mat (w0 := w) w.heap.size k rfl (.tmp 38) (.tmp 40) rfl _ (.slice A2 y.length c2) vs (augTo R bs k) y rfl rfl HM2.out HU.out HAP.out HB02.out HB02.out.size hk7 ?_; intro v3 w3 hM3 hB3 hg3 hat3)
        refine ⟨⟨k + 1, vs ++ [.slice A2 y.length c2], by go_num, by omega, Lib.hid ?_, Lib.hid hB3⟩, by simp [intOf]; omega⟩
        rw [HAT.out, show rk ++ [x] = y by rw [HY.out, List.nil_append]]
        exact hM3
    · obtain rfl : n = k := by omega
      obtain ⟨L, hL⟩ : ∃ L, L = n + 1 := ⟨_, rfl⟩
      have hL0 : 0 < L := by omega
      have hLn : n < L := by omega
      have hLm : L ≤ n + 1 := by omega
      clear hL
      have HLL := Lib.hid (show n + 1 = L by omega)
      have HA := HA0
      clear HA0 HHV HHX HN HBL HWR
      rw [show (fun r => bs.getD r 0) = (fun r => bs.getD r 0) from rfl] at HA
      generalize augTo R bs n = M0 at *
      go_wp2_with fail
      go_loopw [9] (fun i wq => ∃ (i' : Nat) (us : List Value) (M : List (List G)), i = .int .i64 i' ∧ i' ≤ n ∧ Hid (Mat wq w.heap.size n (.slice Am n cm) us M) ∧ Hid (Aug n (at2 R) (fun r => bs.getD r 0) M) ∧ Hid (UnitTo n i' M) ∧ Hid (Below w.heap.size w wq)) (fun i _ => n - (intOf i).toNat)
      case atStart => exact ⟨0, vs, M0, rfl, Nat.zero_le _, HM, HA, Lib.hid (fun c hc => by omega), HB⟩
      case round =>
        clear HM HB HA
        obtain ⟨i, us, M, rfl, hi, HM, HA, HU, HB⟩ := hrel
        by_cases hlt : i < n
        · obtain ⟨P, hP1, hP2, hP3, hP4⟩ := first_pivot (fun p => at2 M p i) i n (Aug.pivot HI.out HA.out HU.out hlt)
          have HP3 := Lib.hid hP3
          have HP4 := Lib.hid hP4
          clear hP3 hP4
          obtain ⟨g, cap, he, hgB, hgl⟩ := HM.out.form (by omega)
          injection he with he1 _ he2
          subst he1 he2
          have hn1 : IntKind.i64.wrap ((n : Int) - 1) = (n : Int) - 1 := IntWalk.i64_in _ (by omega)
          go_upto_block 4 with fail
          go_cut [10] from 42 to 151 (fun p wx => p = .int .i64 P ∧ wr = wx)
          case first =>
            go_wp2_with fail
            go_loop [10] (fun p => ∃ k : Nat, p = .int .i64 k ∧ i ≤ k ∧ k ≤ P) (fun p => P - (intOf p).toNat)
            case atStart => exact ⟨i, rfl, Nat.le_refl _, hP1⟩
            case round =>
              obtain ⟨p, rfl, hp1, hp2⟩ := hrel
              have hpn : p < n := by omega
              obtain ⟨gp, cp, hvp, _, _⟩ := HM.out.rowForm hpn ((HA.out.row hpn).trans HLL.out) hL0
              obtain ⟨hcell, hfz⟩ := HM.out.cell p hpn
              rw [hvp] at hcell
              have hOp := HM.out.row p hpn
              rw [hvp] at hOp
              obtain ⟨hcb, _⟩ := hOp.at_ i (by rw [HA.out.row hpn]; omega)
              have hxe : (rat M p).getD i 0 = at2 M p i := rfl
              rw [hxe] at hcb
              clear hvp hOp hxe
              by_cases hz : p < P
              · have hbz : (toI (at2 M p i) == 0) = true := by rw [beq_iff_eq, toI_eq_zero]; exact HP4.out p hp1 hz
                have hpl : (p : Int) < (n : Int) - 1 := by omega
                go_wp2_with fail
                refine ⟨⟨p + 1, by go_num, by omega, by omega⟩, by simp [intOf]; omega⟩
              · obtain rfl : P = p := by omega
                have hbz : (toI (at2 M P i) == 0) = false := by rw [beq_eq_false_iff_ne, Ne, toI_eq_zero]; exact HP3.out
                by_cases hpl : P < n - 1
                · have hpl2 : (P : Int) < (n : Int) - 1 := by omega
                  clear hpl
                  go_wp2_with fail
                  go_meet
                  exact ⟨rfl, rfl⟩
                · have hpl2 : ¬ (P : Int) < (n : Int) - 1 := by omega
                  clear hpl
                  go_wp2_with fail
                  go_meet
                  exact ⟨rfl, rfl⟩
          case rest =>
            obtain ⟨rfl, rfl⟩ := hcut
            have hpn := hP2
            have hp1 := hP1
            obtain ⟨gp, cp, hvp, _, _⟩ := HM.out.rowForm hpn ((HA.out.row hpn).trans HLL.out) hL0
            obtain ⟨hcell, hfz⟩ := HM.out.cell P hpn
            rw [hvp] at hcell
            have HVP := Lib.hid hvp
            clear hvp
            obtain ⟨gi, ci, hvi, _, _⟩ := HM.out.rowForm hlt ((HA.out.row hlt).trans HLL.out) hL0
            obtain ⟨hcelli, hfzi⟩ := HM.out.cell i hlt
            rw [hvi] at hcelli
            have HVI := Lib.hid hvi
            have hsw := HM.out.swap hlt hpn
            rw [HVP.out, hvi] at hsw
            have HSW := Lib.hid hsw
            clear hvi hsw
            obtain ⟨v1, hy1⟩ := cell?_setCell_some (w := wr) (p := ⟨g, i, none⟩) (x := .slice (some ⟨gp, 0, none⟩) L cp) (q := ⟨g, P, none⟩) (v := .slice (some ⟨gp, 0, none⟩) L cp) hcell
            go_upto_region 18 with fail
            have hM1 := HSW.out.1
            have hG1 := HSW.out.2
            generalize (wr.setCell ⟨g, i, none⟩ (.slice (some ⟨gp, 0, none⟩) L cp)).setCell ⟨g, P, none⟩ (.slice (some ⟨gi, 0, none⟩) L ci) = W1 at *
            have HM1 := Lib.hid hM1
            have HB1 := Lib.hid (HB.out.trans (below_row hG1 HB.out.size (fun k hk => by injection hk with hk; omega)))
            have HZ1 := Lib.hid (show at2 (swapAt [] M i P) i i ≠ 0 by rw [at2_swap HA.out.lr hlt hpn]; unfold tSwap; rw [if_pos rfl]; exact HP3.out)
            have HU1 := Lib.hid (HU.out.swap HA.out.lr hlt hp1 hpn)
            have HA1 := Lib.hid (HA.out.swap hlt hpn)
            clear hy1 hM1 hG1 hcell hcelli hfz hfzi HSW HVP HVI HM HB HU HA HP3 HP4
            generalize swapAt nilS us i P = us1 at *
            generalize swapAt [] M i P = M1 at *
            obtain ⟨hi1, ci1, hvi, hgiB, hgiW⟩ := HM1.out.rowForm hlt ((HA1.out.row hlt).trans HLL.out) hL0
            obtain ⟨hcell, hfz⟩ := HM1.out.cell i hlt
            rw [hvi] at hcell
            have hOp := HM1.out.row i hlt
            rw [hvi] at hOp
            obtain ⟨hcb, _⟩ := hOp.at_ i (by rw [HA1.out.row hlt]; omega)
            have hxe : (rat M1 i).getD i 0 = at2 M1 i i := rfl
            rw [hxe] at hcb
            have HVI := Lib.hid hvi
            have HPS := Lib.hid (AProg.start HA1.out HU1.out hlt HZ1.out)
            have hx0 := HZ1.out
            have HRL := Lib.hid ((HA1.out.row hlt).trans HLL.out)
            clear hvi hOp hxe
            generalize at2 M1 i i = x at *
            have HIV := Lib.hid (fun W => refinv_any x W hx0)
            clear hx0
            go_wp2_with fail
            refine (HIV.out _).mono ?_
            rintro e w' ⟨rfl, hw'⟩
            rw [hw']
            clear hw' hcell hcb hfz HIV HZ1
            go_wp2_with fail
            have HS0 := Lib.hid (scaleTo_start (ginv x) (rat M1 i))
            have HSE := Lib.hid (scaleTo_end (ginv x) (rat M1 i))
            rw [HRL.out] at HSE
            go_loopw [13] (fun kk wq => ∃ q : Nat, kk = .int .i64 q ∧ q ≤ L ∧ Hid (Mat wq w.heap.size n (.slice (some ⟨g, 0, none⟩) n cm) us1 (M1.set i (scaleTo (ginv x) (rat M1 i) q))) ∧ Hid (Below w.heap.size w wq)) (fun kk _ => L - (intOf kk).toNat)
            case atStart => exact ⟨0, rfl, Nat.zero_le _, Lib.hid (by rw [HS0.out, set_rat]; exact HM1.out), HB1⟩
            case round =>
              clear HM1 HB1
              obtain ⟨q, rfl, hq, HM, HB⟩ := hrel
              by_cases hqn : q < L
              · have hqi : (q : Int) ≤ (n : Int) := by omega
                have hqL : (q : Int) < (L : Int) := by omega
                have hq0 : (0 : Int) ≤ (q : Int) := by omega
                obtain ⟨hcell, hfz⟩ := HM.out.cell i hlt
                rw [HVI.out] at hcell
                have hOp := HM.out.row i hlt
                rw [HVI.out, rat_set _ _ _ _ (by rw [HA1.out.lr]; exact hlt), if_pos rfl] at hOp
                have hST := scaleTo_set (ginv x) (rat M1 i) q (by rw [HRL.out]; exact hqn)
                obtain ⟨hcb, hfb⟩ := hOp.at_ q (by rw [scaleTo_length, HRL.out]; exact hqn)
                have HST := Lib.hid hST
                have HOP := Lib.hid hOp
                clear hST hOp
                generalize (scaleTo (ginv x) (rat M1 i) q).getD q 0 = y at *
                have hgw : g < wr.heap.size := World.block_lt_of_cell? wr _ hcell
                have hgiw : hi1 < wr.heap.size := World.block_lt_of_cell? wr _ hcb
                go_wp2_with fail
                have hrow := HOP.out.set_ q (gm (ginv x) y)
                have hne : some g ≠ some hi1 := by
                  rcases HM.out.outer (HM.out.row i hlt) with h | h
                  · cases h
                  · rw [HVI.out] at h; exact h
                have hcell2 : (wr.setCell ⟨hi1, q, none⟩ (.int .u8 (toI (gm (ginv x) y)))).drew.cell? ⟨g, i, none⟩ = some (.slice (some ⟨hi1, 0, none⟩) L ci1) := hrow.2.cell hcell hne
                have HROW := Lib.hid hrow
                clear hrow hne
                refine start_ (n := 16) (S := fun w' => w'.cell? ⟨g, i, none⟩ = some (.slice (some ⟨hi1, 0, none⟩) L ci1) ∧ w'.cell? ⟨hi1, q, none⟩ = some (.int .u8 (toI y))) (ds := [15]) #[false, false, false, false, false, false, false, false, false, false, false, false, false, false, false, false] (by kernel_rfl) rfl rfl ⟨hcell, hcb⟩ (fun hHeld => ?_)
                refine pure_ (i := 0) (N := some 92) (v := ?_) (a' := ?_) #[true, false, false, false, false, false, false, false, false, false, false, false, false, false, false, false] rfl rfl (by kernel_rfl) (fun _ _ _ h => h) (Or.inl ⟨by rfl, ?_⟩) ?_ ?_
                rotate_left
                · intro w'
                  go_simp
                  with_reducible rfl
                rotate_left
                · simp only [Act.put, List.setIfInBounds_toArray, List.set_cons_zero, List.set_cons_succ, i64_w, i32_w]
                  rfl
                refine pure_ (i := 1) (N := some 93) (v := ?_) (a' := ?_) #[true, true, false, false, false, false, false, false, false, false, false, false, false, false, false, false] rfl rfl (by kernel_rfl) (fun _ _ _ h => h) (Or.inl ⟨by rfl, ?_⟩) ?_ ?_
                rotate_left
                · intro w'
                  go_simp
                  with_reducible rfl
                rotate_left
                · simp only [Act.put, List.setIfInBounds_toArray, List.set_cons_zero, List.set_cons_succ, i64_w, i32_w]
                  rfl
                refine pure_ (i := 2) (N := some 94) (v := ?_) (a' := ?_) #[true, true, true, false, false, false, false, false, false, false, false, false, false, false, false, false] rfl rfl (by kernel_rfl) (fun _ _ _ h => h) (Or.inl ⟨by rfl, ?_⟩) ?_ ?_
                rotate_left
                · intro w'
                  go_simp
                  with_reducible rfl
                rotate_left
                · simp only [Act.put, List.setIfInBounds_toArray, List.set_cons_zero, List.set_cons_succ, i64_w, i32_w]
                  rfl
                refine pure_ (i := 4) (N := some 96) (v := ?_) (a' := ?_) #[true, true, true, false, true, false, false, false, false, false, false, false, false, false, false, false] rfl rfl (by kernel_rfl) (fun _ _ _ h => h) (Or.inl ⟨by rfl, ?_⟩) ?_ ?_
                rotate_left
                · intro w'
                  go_simp
                  with_reducible rfl
                rotate_left
                · simp only [Act.put, List.setIfInBounds_toArray, List.set_cons_zero, List.set_cons_succ, i64_w, i32_w]
                  rfl
                refine pure_ (i := 5) (N := some 97) (v := ?_) (a' := ?_) #[true, true, true, false, true, true, false, false, false, false, false, false, false, false, false, false] rfl rfl (by kernel_rfl) (fun _ _ _ h => h) (Or.inl ⟨by rfl, ?_⟩) ?_ ?_
                rotate_left
                · intro w'
                  go_simp
                  with_reducible rfl
                rotate_left
                · simp only [Act.put, List.setIfInBounds_toArray, List.set_cons_zero, List.set_cons_succ, i64_w, i32_w]
                  rfl
                refine pure_ (i := 6) (N := some 98) (v := ?_) (a' := ?_) #[true, true, true, false, true, true, true, false, false, false, false, false, false, false, false, false] rfl rfl (by kernel_rfl) (fun _ _ _ h => h) (Or.inl ⟨by rfl, ?_⟩) ?_ ?_
                rotate_left
                · intro w'
                  go_simp
                  with_reducible rfl
                rotate_left
                · simp only [Act.put, List.setIfInBounds_toArray, List.set_cons_zero, List.set_cons_succ, i64_w, i32_w]
                  rfl
                refine pure_ (i := 7) (N := some 99) (v := ?_) (a' := ?_) #[true, true, true, false, true, true, true, true, false, false, false, false, false, false, false, false] rfl rfl (by kernel_rfl) (fun _ _ _ h => h) (Or.inl ⟨by rfl, ?_⟩) ?_ ?_
                rotate_left
                · intro w'
                  go_simp
                  with_reducible rfl
                rotate_left
                · simp only [Act.put, List.setIfInBounds_toArray, List.set_cons_zero, List.set_cons_succ, i64_w, i32_w]
                  rfl
                refine pure_ (i := 8) (N := some 100) (v := ?_) (a' := ?_) #[true, true, true, false, true, true, true, true, true, false, false, false, false, false, false, false] rfl rfl (by kernel_rfl) (fun _ _ _ h => h) (Or.inl ⟨by rfl, ?_⟩) ?_ ?_
                rotate_left
                · intro w'
                  go_simp
                  with_reducible rfl
                rotate_left
                · simp only [Act.put, List.setIfInBounds_toArray, List.set_cons_zero, List.set_cons_succ, i64_w, i32_w]
                  rfl
                refine pure_ (i := 10) (N := some 102) (v := ?_) (a' := ?_) #[true, true, true, false, true, true, true, true, true, false, true, false, false, false, false, false] rfl rfl (by kernel_rfl) (fun _ _ _ h => h) (Or.inl ⟨by rfl, ?_⟩) ?_ ?_
                rotate_left
                · intro w'
                  go_simp
                  with_reducible rfl
                rotate_left
                · simp only [Act.put, List.setIfInBounds_toArray, List.set_cons_zero, List.set_cons_succ, i64_w, i32_w]
                  rfl
                refine take_ (i := 3) (N := some 95) (v := ?_) (a' := ?_) #[true, true, true, true, true, true, true, true, true, false, true, false, false, false, false, false] rfl rfl (by kernel_rfl) (fun _ _ _ h => h) (Or.inl ⟨by rfl, ?_⟩) hHeld ?_ ?_
                rotate_left
                · rintro w' ⟨s0, s1⟩
                  go_simp
                  with_reducible rfl
                rotate_left
                · simp only [Act.put, List.setIfInBounds_toArray, List.set_cons_zero, List.set_cons_succ, i64_w, i32_w]
                  rfl
                refine take_ (i := 9) (N := some 101) (v := ?_) (a' := ?_) #[true, true, true, true, true, true, true, true, true, true, true, false, false, false, false, false] rfl rfl (by kernel_rfl) (fun _ _ _ h => h) (Or.inl ⟨by rfl, ?_⟩) hHeld ?_ ?_
                rotate_left
                · rintro w' ⟨s0, s1⟩
                  go_simp
                  with_reducible rfl
                rotate_left
                · simp only [Act.put, List.setIfInBounds_toArray, List.set_cons_zero, List.set_cons_succ, i64_w, i32_w]
                  rfl
                refine pure_ (i := 11) (N := some 103) (v := ?_) (a' := ?_) #[true, true, true, true, true, true, true, true, true, true, true, true, false, false, false, false] rfl rfl (by kernel_rfl) (fun _ _ _ h => h) (Or.inl ⟨by rfl, ?_⟩) ?_ ?_
                rotate_left
                · intro w'
                  go_simp
                  with_reducible rfl
                rotate_left
                · simp only [Act.put, List.setIfInBounds_toArray, List.set_cons_zero, List.set_cons_succ, i64_w, i32_w]
                  rfl
                refine take_ (i := 12) (N := some 104) (v := ?_) (a' := ?_) #[true, true, true, true, true, true, true, true, true, true, true, true, true, false, false, false] rfl rfl (by kernel_rfl) (fun _ _ _ h => h) (Or.inl ⟨by rfl, ?_⟩) hHeld ?_ ?_
                rotate_left
                · rintro w' ⟨s0, s1⟩
                  go_simp
                  with_reducible rfl
                rotate_left
                · simp only [Act.put, List.setIfInBounds_toArray, List.set_cons_zero, List.set_cons_succ, i64_w, i32_w]
                  rfl
                refine one_ (i := 13) (N := some 105) #[true, true, true, true, true, true, true, true, true, true, true, true, true, true, false, false] rfl rfl (by kernel_rfl) (by decide) (fun K hK => ?_)
                refine goes_ Try.func12 (by kernel_rfl) rfl #[.int .u8 (toI (ginv x)), .int .u8 (toI y)] (by rfl) rfl rfl (by simp only [List.map_toArray, List.map_cons, List.map_nil]; rfl) ?_
                with_reducible refine (refmul_any _ _ _).mono ?_
                rintro e w3 ⟨rfl, hw3⟩
                rw [hw3]
                refine ⟨_, rfl, ?_⟩
                refine hK.out _ _ ⟨hHeld.1, hHeld.2⟩ (fun hHeld => ?_)
                clear hK K
                refine norm_ (a' := ?_) ?_ ?_
                rotate_left
                · show Act.put _ (some 105) _ = _
                  simp only [Act.put, List.setIfInBounds_toArray, List.set_cons_zero, List.set_cons_succ, i64_w, i32_w]
                  rfl
                refine pure_ (i := 14) (N := some 106) (v := ?_) (a' := ?_) #[true, true, true, true, true, true, true, true, true, true, true, true, true, true, true, false] rfl rfl (by kernel_rfl) (fun _ _ _ h => h) (Or.inl ⟨by rfl, ?_⟩) ?_ ?_
                rotate_left
                · intro w'
                  go_simp
                  with_reducible rfl
                rotate_left
                · simp only [Act.put, List.setIfInBounds_toArray, List.set_cons_zero, List.set_cons_succ, i64_w, i32_w]
                  rfl
                refine last_ (i := 15) (N := none) #[true, true, true, true, true, true, true, true, true, true, true, true, true, true, true, true] rfl rfl (by kernel_rfl) (by decide) (fun K hK => ?_)
                refine skip_ (w1 := ?_) (by rfl) rfl ?_ ?_
                rotate_left
                · go_simp
                  rfl
                refine hK.out _ _ ?_
                clear hK K
                refine done_ (by kernel_rfl) ?_
                go_wp2_with fail
                have h2 := HM.out.wrote (w1 := (wr.setCell ⟨hi1, q, none⟩ (.int .u8 (toI (gm (ginv x) y)))).drew) hlt (by rw [HVI.out]; exact grown_drew HROW.out.2) (by rw [HVI.out]; exact own_less HROW.out.1.drew (Nat.zero_le _))
                rw [List.set_set, HST.out] at h2
                exact ⟨⟨q + 1, by go_num, by omega, Lib.hid h2, Lib.hid (HB.out.trans (below_row (grown_drew HROW.out.2) HB.out.size (fun k hk => by injection hk with hk; omega)))⟩, by simp [intOf]; omega⟩
              · obtain rfl : L = q := by omega
                have HM2 := HM
                rw [HSE.out] at HM2
                clear HM HS0 HSE HA1 HU1 HRL
                have hLb : decide (L ≤ n) = false := decide_eq_false (by omega)
                have hLb2 : decide ((L : Int) ≤ (n : Int)) = false := decide_eq_false (by omega)
                generalize M1.set i (scaleG (ginv x) (rat M1 i)) = M2 at *
                go_wp2_with fail
                clear hLb hLb2
                go_loopw [14] (fun rr wq => ∃ (r : Nat) (M3 : List (List G)), rr = .int .i64 r ∧ r ≤ n ∧ Hid (Mat wq w.heap.size n (.slice (some ⟨g, 0, none⟩) n cm) us1 M3) ∧ Hid (AProg n i r (at2 R) (fun r => bs.getD r 0) M3) ∧ Hid (Below w.heap.size w wq)) (fun rr _ => n - (intOf rr).toNat)
                case atStart => exact ⟨0, M2, rfl, Nat.zero_le _, HM2, HPS, HB⟩
                case round =>
                  clear HM2 HPS HB
                  obtain ⟨r, M3, rfl, hr, HM, HP, HB⟩ := hrel
                  by_cases hrn : r < n
                  · have hlr := HP.out.aug.lr
                    have hrl : (rat M3 r).length = L := (HP.out.aug.row hrn).trans HLL.out
                    have hil : (rat M3 i).length = L := (HP.out.aug.row hlt).trans HLL.out
                    obtain ⟨gr, cr, hvr, hgrB, hgrW⟩ := HM.out.rowForm hrn hrl hL0
                    have HVR := Lib.hid hvr
                    obtain ⟨hcell, hfz⟩ := HM.out.cell r hrn
                    rw [hvr] at hcell
                    have hOp := HM.out.row r hrn
                    rw [hvr] at hOp
                    obtain ⟨hcb, _⟩ := hOp.at_ i (by omega)
                    have hxe : (rat M3 r).getD i 0 = at2 M3 r i := rfl
                    rw [hxe] at hcb
                    have HLR := Lib.hid hlr; have HRL := Lib.hid hrl; have HIL := Lib.hid hil
                    clear hvr hOp hxe hlr hrl hil
                    generalize hzz : at2 M3 r i = z at *
                    have HZZ := Lib.hid hzz
                    clear hzz
                    go_wp2_with fail
                    clear hcell hcb hfz
                    by_cases hri : r = i
                    · have hrb : ((r : Int) != (i : Int)) = false := by rw [bne_eq_false_iff_eq]; omega
                      have HRI := Lib.hid hri
                      clear hri
                      go_loop [16] (fun kk => kk = .int .i64 0) (fun kk => 0)
                      case atStart => rfl
                      case round =>
                        obtain rfl := hrel
                        have h0n : (0 : Int) ≤ (n : Int) := by omega
                        go_wp2_with fail
                        have hP := HP.out
                        rw [HRI.out] at hP
                        have hPs : AProg n i (r + 1) (at2 R) (fun r => bs.getD r 0) M3 := by rw [HRI.out]; exact hP.skip
                        have hr1 : (r : Int) + 1 = ((r + 1 : Nat) : Int) := by omega
                        have hr2 : r + 1 ≤ n := by omega
                        have hms : n - (intOf (Value.int IntKind.i64 ((r : Int) + 1))).toNat < n - (intOf (Value.int IntKind.i64 (r : Int))).toNat := by simp [intOf]; omega
                        first
                          | exact ⟨⟨r + 1, M3, congrArg (Value.int .i64) hr1, hr2, HM, Lib.hid hPs, HB⟩, hms⟩
                          | exact ⟨⟨r + 1, hr1, hr2, M3, HM, Lib.hid hPs⟩, hms⟩
                    · have hrb : ((r : Int) != (i : Int)) = true := by rw [bne_iff_ne]; omega
                      have HRI := Lib.hid hri
                      clear hri
                      have HS0 := Lib.hid (sumMid_start (fun _ => z) [rat M3 i] (rat M3 r))
                      have HSE := Lib.hid ((sumMid_next (fun _ => z) [rat M3 i] (rat M3 r) 0).trans (sumMid_end (fun _ => z) [rat M3 i] (rat M3 r)))
                      rw [show ([rat M3 i].getD 0 []).length = L from HIL.out] at HSE
                      obtain ⟨wo, rfl⟩ : ∃ wo : World, wo = wr := ⟨_, rfl⟩
                      go_loopw [16] (fun kk wq => ∃ q : Nat, kk = .int .i64 q ∧ q ≤ L ∧ Hid (Mat wq w.heap.size n (.slice (some ⟨g, 0, none⟩) n cm) us1 (M3.set r (sumMid (fun _ => z) [rat M3 i] (rat M3 r) 0 q))) ∧ Hid (Below w.heap.size w wq)) (fun kk _ => L - (intOf kk).toNat)
                      case atStart => exact ⟨0, rfl, Nat.zero_le _, Lib.hid (by rw [HS0.out, set_rat]; exact HM.out), HB⟩
                      case round =>
                        clear HM HB
                        obtain ⟨q, rfl, hq, HM, HB⟩ := hrel
                        by_cases hqn : q < L
                        · have hqi : (q : Int) ≤ (n : Int) := by omega
                          have hqL : (q : Int) < (L : Int) := by omega
                          have hq0 : (0 : Int) ≤ (q : Int) := by omega
                          obtain ⟨hcr, hfz⟩ := HM.out.cell r hrn
                          rw [HVR.out] at hcr
                          obtain ⟨hci, _⟩ := HM.out.cell i hlt
                          rw [HVI.out] at hci
                          have hOr := HM.out.row r hrn
                          rw [HVR.out, rat_set _ _ _ _ (by rw [HLR.out]; exact hrn), if_pos rfl] at hOr
                          have hOi := HM.out.row i hlt
                          rw [HVI.out, rat_set _ _ _ _ (by rw [HLR.out]; exact hrn), if_neg (fun e => HRI.out e.symm)] at hOi
                          have hST := sumMid_set (fun _ => z) [rat M3 i] (rat M3 r) 0 q
                          rw [show [rat M3 i].getD 0 [] = rat M3 i from rfl] at hST
                          obtain ⟨hcbr, hfb⟩ := hOr.at_ q (by rw [sumMid_length, HRL.out]; exact hqn)
                          obtain ⟨hcbi, _⟩ := hOi.at_ q (by rw [HIL.out]; exact hqn)
                          have hap := HM.out.ap r i hrn hlt HRI.out
                          have hou := HM.out.outer (HM.out.row r hrn)
                          rw [HVR.out, HVI.out] at hap
                          rw [HVR.out] at hou
                          have HST := Lib.hid hST
                          have HOP := Lib.hid hOr
                          clear hST hOr hOi
                          generalize (sumMid (fun _ => z) [rat M3 i] (rat M3 r) 0 q).getD q 0 = y1 at *
                          generalize (rat M3 i).getD q 0 = y2 at *
                          have hrow := HOP.out.set_ q (y1 ^^^ gm z y2)
                          have hne : some g ≠ some gr := by
                            rcases hou with h | h
                            · cases h
                            · exact h
                          have hne2 : some hi1 ≠ some gr := by
                            rcases hap with h | h
                            · cases h
                            · exact fun e => h e.symm
                          have hcr2 : (wr.setCell ⟨gr, q, none⟩ (.int .u8 (toI (y1 ^^^ gm z y2)))).drew.cell? ⟨g, r, none⟩ = some (.slice (some ⟨gr, 0, none⟩) L cr) := hrow.2.cell hcr hne
                          have hci2 : (wr.setCell ⟨gr, q, none⟩ (.int .u8 (toI (y1 ^^^ gm z y2)))).drew.cell? ⟨g, i, none⟩ = some (.slice (some ⟨hi1, 0, none⟩) L ci1) := hrow.2.cell hci hne
                          have hcb2 : (wr.setCell ⟨gr, q, none⟩ (.int .u8 (toI (y1 ^^^ gm z y2)))).drew.cell? ⟨hi1, q, none⟩ = some (.int .u8 (toI y2)) := hrow.2.cell hcbi hne2
                          have hx := toI_xor y1 (gm z y2)
                          have HROW := Lib.hid hrow
                          have hgw : g < wr.heap.size := World.block_lt_of_cell? wr _ hcr
                          have hgrw : gr < wr.heap.size := World.block_lt_of_cell? wr _ hcbr
                          clear hrow hne hne2 hap hou
                          go_wp2_with fail
                          refine start_ (n := 24) (S := fun w' => w'.cell? ⟨g, r, none⟩ = some (.slice (some ⟨gr, 0, none⟩) L cr) ∧ w'.cell? ⟨g, i, none⟩ = some (.slice (some ⟨hi1, 0, none⟩) L ci1) ∧ w'.cell? ⟨gr, q, none⟩ = some (.int .u8 (toI y1)) ∧ w'.cell? ⟨hi1, q, none⟩ = some (.int .u8 (toI y2))) (ds := [23]) #[false, false, false, false, false, false, false, false, false, false, false, false, false, false, false, false, false, false, false, false, false, false, false, false] (by kernel_rfl) rfl rfl ⟨hcr, hci, hcbr, hcbi⟩ (fun hHeld => ?_)
                          refine pure_ (i := 0) (N := some 129) (v := ?_) (a' := ?_) #[true, false, false, false, false, false, false, false, false, false, false, false, false, false, false, false, false, false, false, false, false, false, false, false] rfl rfl (by kernel_rfl) (fun _ _ _ h => h) (Or.inl ⟨by rfl, ?_⟩) ?_ ?_
                          rotate_left
                          · intro w'
                            go_simp
                            with_reducible rfl
                          rotate_left
                          · simp only [Act.put, List.setIfInBounds_toArray, List.set_cons_zero, List.set_cons_succ, i64_w, i32_w]
                            rfl
                          refine pure_ (i := 1) (N := some 130) (v := ?_) (a' := ?_) #[true, true, false, false, false, false, false, false, false, false, false, false, false, false, false, false, false, false, false, false, false, false, false, false] rfl rfl (by kernel_rfl) (fun _ _ _ h => h) (Or.inl ⟨by rfl, ?_⟩) ?_ ?_
                          rotate_left
                          · intro w'
                            go_simp
                            with_reducible rfl
                          rotate_left
                          · simp only [Act.put, List.setIfInBounds_toArray, List.set_cons_zero, List.set_cons_succ, i64_w, i32_w]
                            rfl
                          refine pure_ (i := 2) (N := some 131) (v := ?_) (a' := ?_) #[true, true, true, false, false, false, false, false, false, false, false, false, false, false, false, false, false, false, false, false, false, false, false, false] rfl rfl (by kernel_rfl) (fun _ _ _ h => h) (Or.inl ⟨by rfl, ?_⟩) ?_ ?_
                          rotate_left
                          · intro w'
                            go_simp
                            with_reducible rfl
                          rotate_left
                          · simp only [Act.put, List.setIfInBounds_toArray, List.set_cons_zero, List.set_cons_succ, i64_w, i32_w]
                            rfl
                          refine pure_ (i := 4) (N := some 133) (v := ?_) (a' := ?_) #[true, true, true, false, true, false, false, false, false, false, false, false, false, false, false, false, false, false, false, false, false, false, false, false] rfl rfl (by kernel_rfl) (fun _ _ _ h => h) (Or.inl ⟨by rfl, ?_⟩) ?_ ?_
                          rotate_left
                          · intro w'
                            go_simp
                            with_reducible rfl
                          rotate_left
                          · simp only [Act.put, List.setIfInBounds_toArray, List.set_cons_zero, List.set_cons_succ, i64_w, i32_w]
                            rfl
                          refine pure_ (i := 5) (N := some 134) (v := ?_) (a' := ?_) #[true, true, true, false, true, true, false, false, false, false, false, false, false, false, false, false, false, false, false, false, false, false, false, false] rfl rfl (by kernel_rfl) (fun _ _ _ h => h) (Or.inl ⟨by rfl, ?_⟩) ?_ ?_
                          rotate_left
                          · intro w'
                            go_simp
                            with_reducible rfl
                          rotate_left
                          · simp only [Act.put, List.setIfInBounds_toArray, List.set_cons_zero, List.set_cons_succ, i64_w, i32_w]
                            rfl
                          refine pure_ (i := 6) (N := some 135) (v := ?_) (a' := ?_) #[true, true, true, false, true, true, true, false, false, false, false, false, false, false, false, false, false, false, false, false, false, false, false, false] rfl rfl (by kernel_rfl) (fun _ _ _ h => h) (Or.inl ⟨by rfl, ?_⟩) ?_ ?_
                          rotate_left
                          · intro w'
                            go_simp
                            with_reducible rfl
                          rotate_left
                          · simp only [Act.put, List.setIfInBounds_toArray, List.set_cons_zero, List.set_cons_succ, i64_w, i32_w]
                            rfl
                          refine pure_ (i := 7) (N := some 136) (v := ?_) (a' := ?_) #[true, true, true, false, true, true, true, true, false, false, false, false, false, false, false, false, false, false, false, false, false, false, false, false] rfl rfl (by kernel_rfl) (fun _ _ _ h => h) (Or.inl ⟨by rfl, ?_⟩) ?_ ?_
                          rotate_left
                          · intro w'
                            go_simp
                            with_reducible rfl
                          rotate_left
                          · simp only [Act.put, List.setIfInBounds_toArray, List.set_cons_zero, List.set_cons_succ, i64_w, i32_w]
                            rfl
                          refine pure_ (i := 9) (N := some 138) (v := ?_) (a' := ?_) #[true, true, true, false, true, true, true, true, false, true, false, false, false, false, false, false, false, false, false, false, false, false, false, false] rfl rfl (by kernel_rfl) (fun _ _ _ h => h) (Or.inl ⟨by rfl, ?_⟩) ?_ ?_
                          rotate_left
                          · intro w'
                            go_simp
                            with_reducible rfl
                          rotate_left
                          · simp only [Act.put, List.setIfInBounds_toArray, List.set_cons_zero, List.set_cons_succ, i64_w, i32_w]
                            rfl
                          refine pure_ (i := 12) (N := some 141) (v := ?_) (a' := ?_) #[true, true, true, false, true, true, true, true, false, true, false, false, true, false, false, false, false, false, false, false, false, false, false, false] rfl rfl (by kernel_rfl) (fun _ _ _ h => h) (Or.inl ⟨by rfl, ?_⟩) ?_ ?_
                          rotate_left
                          · intro w'
                            go_simp
                            with_reducible rfl
                          rotate_left
                          · simp only [Act.put, List.setIfInBounds_toArray, List.set_cons_zero, List.set_cons_succ, i64_w, i32_w]
                            rfl
                          refine pure_ (i := 13) (N := some 142) (v := ?_) (a' := ?_) #[true, true, true, false, true, true, true, true, false, true, false, false, true, true, false, false, false, false, false, false, false, false, false, false] rfl rfl (by kernel_rfl) (fun _ _ _ h => h) (Or.inl ⟨by rfl, ?_⟩) ?_ ?_
                          rotate_left
                          · intro w'
                            go_simp
                            with_reducible rfl
                          rotate_left
                          · simp only [Act.put, List.setIfInBounds_toArray, List.set_cons_zero, List.set_cons_succ, i64_w, i32_w]
                            rfl
                          refine pure_ (i := 14) (N := some 143) (v := ?_) (a' := ?_) #[true, true, true, false, true, true, true, true, false, true, false, false, true, true, true, false, false, false, false, false, false, false, false, false] rfl rfl (by kernel_rfl) (fun _ _ _ h => h) (Or.inl ⟨by rfl, ?_⟩) ?_ ?_
                          rotate_left
                          · intro w'
                            go_simp
                            with_reducible rfl
                          rotate_left
                          · simp only [Act.put, List.setIfInBounds_toArray, List.set_cons_zero, List.set_cons_succ, i64_w, i32_w]
                            rfl
                          refine pure_ (i := 15) (N := some 144) (v := ?_) (a' := ?_) #[true, true, true, false, true, true, true, true, false, true, false, false, true, true, true, true, false, false, false, false, false, false, false, false] rfl rfl (by kernel_rfl) (fun _ _ _ h => h) (Or.inl ⟨by rfl, ?_⟩) ?_ ?_
                          rotate_left
                          · intro w'
                            go_simp
                            with_reducible rfl
                          rotate_left
                          · simp only [Act.put, List.setIfInBounds_toArray, List.set_cons_zero, List.set_cons_succ, i64_w, i32_w]
                            rfl
                          refine pure_ (i := 17) (N := some 146) (v := ?_) (a' := ?_) #[true, true, true, false, true, true, true, true, false, true, false, false, true, true, true, true, false, true, false, false, false, false, false, false] rfl rfl (by kernel_rfl) (fun _ _ _ h => h) (Or.inl ⟨by rfl, ?_⟩) ?_ ?_
                          rotate_left
                          · intro w'
                            go_simp
                            with_reducible rfl
                          rotate_left
                          · simp only [Act.put, List.setIfInBounds_toArray, List.set_cons_zero, List.set_cons_succ, i64_w, i32_w]
                            rfl
                          refine take_ (i := 3) (N := some 132) (v := ?_) (a' := ?_) #[true, true, true, true, true, true, true, true, false, true, false, false, true, true, true, true, false, true, false, false, false, false, false, false] rfl rfl (by kernel_rfl) (fun _ _ _ h => h) (Or.inl ⟨by rfl, ?_⟩) hHeld ?_ ?_
                          rotate_left
                          · rintro w' ⟨s0, s1, s2, s3⟩
                            go_simp
                            with_reducible rfl
                          rotate_left
                          · simp only [Act.put, List.setIfInBounds_toArray, List.set_cons_zero, List.set_cons_succ, i64_w, i32_w]
                            rfl
                          refine take_ (i := 8) (N := some 137) (v := ?_) (a' := ?_) #[true, true, true, true, true, true, true, true, true, true, false, false, true, true, true, true, false, true, false, false, false, false, false, false] rfl rfl (by kernel_rfl) (fun _ _ _ h => h) (Or.inl ⟨by rfl, ?_⟩) hHeld ?_ ?_
                          rotate_left
                          · rintro w' ⟨s0, s1, s2, s3⟩
                            go_simp
                            with_reducible rfl
                          rotate_left
                          · simp only [Act.put, List.setIfInBounds_toArray, List.set_cons_zero, List.set_cons_succ, i64_w, i32_w]
                            rfl
                          refine pure_ (i := 10) (N := some 139) (v := ?_) (a' := ?_) #[true, true, true, true, true, true, true, true, true, true, true, false, true, true, true, true, false, true, false, false, false, false, false, false] rfl rfl (by kernel_rfl) (fun _ _ _ h => h) (Or.inl ⟨by rfl, ?_⟩) ?_ ?_
                          rotate_left
                          · intro w'
                            go_simp
                            with_reducible rfl
                          rotate_left
                          · simp only [Act.put, List.setIfInBounds_toArray, List.set_cons_zero, List.set_cons_succ, i64_w, i32_w]
                            rfl
                          refine take_ (i := 11) (N := some 140) (v := ?_) (a' := ?_) #[true, true, true, true, true, true, true, true, true, true, true, true, true, true, true, true, false, true, false, false, false, false, false, false] rfl rfl (by kernel_rfl) (fun _ _ _ h => h) (Or.inl ⟨by rfl, ?_⟩) hHeld ?_ ?_
                          rotate_left
                          · rintro w' ⟨s0, s1, s2, s3⟩
                            go_simp
                            with_reducible rfl
                          rotate_left
                          · simp only [Act.put, List.setIfInBounds_toArray, List.set_cons_zero, List.set_cons_succ, i64_w, i32_w]
                            rfl
                          refine take_ (i := 16) (N := some 145) (v := ?_) (a' := ?_) #[true, true, true, true, true, true, true, true, true, true, true, true, true, true, true, true, true, true, false, false, false, false, false, false] rfl rfl (by kernel_rfl) (fun _ _ _ h => h) (Or.inl ⟨by rfl, ?_⟩) hHeld ?_ ?_
                          rotate_left
                          · rintro w' ⟨s0, s1, s2, s3⟩
                            go_simp
                            with_reducible rfl
                          rotate_left
                          · simp only [Act.put, List.setIfInBounds_toArray, List.set_cons_zero, List.set_cons_succ, i64_w, i32_w]
                            rfl
                          refine pure_ (i := 18) (N := some 147) (v := ?_) (a' := ?_) #[true, true, true, true, true, true, true, true, true, true, true, true, true, true, true, true, true, true, true, false, false, false, false, false] rfl rfl (by kernel_rfl) (fun _ _ _ h => h) (Or.inl ⟨by rfl, ?_⟩) ?_ ?_
                          rotate_left
                          · intro w'
                            go_simp
                            with_reducible rfl
                          rotate_left
                          · simp only [Act.put, List.setIfInBounds_toArray, List.set_cons_zero, List.set_cons_succ, i64_w, i32_w]
                            rfl
                          refine take_ (i := 19) (N := some 148) (v := ?_) (a' := ?_) #[true, true, true, true, true, true, true, true, true, true, true, true, true, true, true, true, true, true, true, true, false, false, false, false] rfl rfl (by kernel_rfl) (fun _ _ _ h => h) (Or.inl ⟨by rfl, ?_⟩) hHeld ?_ ?_
                          rotate_left
                          · rintro w' ⟨s0, s1, s2, s3⟩
                            go_simp
                            with_reducible rfl
                          rotate_left
                          · simp only [Act.put, List.setIfInBounds_toArray, List.set_cons_zero, List.set_cons_succ, i64_w, i32_w]
                            rfl
                          refine one_ (i := 20) (N := some 149) #[true, true, true, true, true, true, true, true, true, true, true, true, true, true, true, true, true, true, true, true, true, false, false, false] rfl rfl (by kernel_rfl) (by decide) (fun K hK => ?_)
                          refine goes_ Try.func12 (by kernel_rfl) rfl #[.int .u8 (toI z), .int .u8 (toI y2)] (by rfl) rfl rfl (by simp only [List.map_toArray, List.map_cons, List.map_nil]; rfl) ?_
                          with_reducible refine (refmul_any _ _ _).mono ?_
                          rintro e w3 ⟨rfl, hw3⟩
                          rw [hw3]
                          refine ⟨_, rfl, ?_⟩
                          refine hK.out _ _ ⟨hHeld.1, hHeld.2.1, hHeld.2.2.1, hHeld.2.2.2⟩ (fun hHeld => ?_)
                          clear hK K
                          refine norm_ (a' := ?_) ?_ ?_
                          rotate_left
                          · show Act.put _ (some 149) _ = _
                            simp only [Act.put, List.setIfInBounds_toArray, List.set_cons_zero, List.set_cons_succ, i64_w, i32_w]
                            rfl
                          refine pure_ (i := 21) (N := some 150) (v := ?_) (a' := ?_) #[true, true, true, true, true, true, true, true, true, true, true, true, true, true, true, true, true, true, true, true, true, true, false, false] rfl rfl (by kernel_rfl) (fun _ _ _ h => h) (Or.inl ⟨by rfl, ?_⟩) ?_ ?_
                          rotate_left
                          · intro w'
                            go_simp
                            with_reducible rfl
                          rotate_left
                          · simp only [Act.put, List.setIfInBounds_toArray, List.set_cons_zero, List.set_cons_succ, i64_w, i32_w]
                            rfl
                          refine pure_ (i := 22) (N := some 151) (v := ?_) (a' := ?_) #[true, true, true, true, true, true, true, true, true, true, true, true, true, true, true, true, true, true, true, true, true, true, true, false] rfl rfl (by kernel_rfl) (fun _ _ _ h => h) (Or.inl ⟨by rfl, ?_⟩) ?_ ?_
                          rotate_left
                          · intro w'
                            go_simp
                            with_reducible rfl
                          rotate_left
                          · simp only [Act.put, List.setIfInBounds_toArray, List.set_cons_zero, List.set_cons_succ, i64_w, i32_w]
                            rfl
                          refine last_ (i := 23) (N := none) #[true, true, true, true, true, true, true, true, true, true, true, true, true, true, true, true, true, true, true, true, true, true, true, true] rfl rfl (by kernel_rfl) (by decide) (fun K hK => ?_)
                          refine skip_ (w1 := ?_) (by rfl) rfl ?_ ?_
                          rotate_left
                          · go_simp
                            rfl
                          refine hK.out _ _ ?_
                          clear hK K
                          refine done_ (by kernel_rfl) ?_
                          all_goals go_wp2_with fail
                          all_goals
                            have h2 := HM.out.wrote (w1 := (wr.setCell ⟨gr, q, none⟩ (.int .u8 (toI (y1 ^^^ gm z y2)))).drew) hrn (by rw [HVR.out]; exact grown_drew HROW.out.2) (by rw [HVR.out]; exact own_less HROW.out.1.drew (Nat.zero_le _))
                            rw [List.set_set, HST.out] at h2
                            have hB9 := HB.out.trans (below_row (grown_drew HROW.out.2) HB.out.size (fun k hk => by injection hk with hk; omega))
                            have hq1 : Value.int IntKind.i64 ((q : Int) + 1) = .int .i64 ((q + 1 : Nat) : Int) := by go_num
                            have hq2 : q + 1 ≤ L := by omega
                            have hms : L - (intOf (Value.int IntKind.i64 ((q : Int) + 1))).toNat < L - (intOf (Value.int IntKind.i64 (q : Int))).toNat := by simp [intOf]; omega
                            first
                              | exact ⟨⟨q + 1, hq1, hq2, Lib.hid h2, Lib.hid hB9⟩, hms⟩
                              | (refine ⟨?_, hms⟩; (repeat apply Exists.intro); exact ⟨⟨q + 1, hq1, hq2, Lib.hid h2, Lib.hid hB9⟩, rfl⟩)
                        · obtain rfl : L = q := by omega
                          go_wp2_with fail
                          have hM := HM.out
                          rw [HSE.out] at hM
                          have hA := HP.out.add hlt hrn HRI.out
                          rw [HZZ.out] at hA
                          refine ⟨⟨r + 1, _, by go_num, by omega, Lib.hid hM, Lib.hid hA, HB⟩, by simp [intOf]; omega⟩
                  · obtain rfl : n = r := by omega
                    go_wp2_with fail
                    refine ⟨⟨i + 1, us1, M3, by go_num, by omega, HM, Lib.hid HP.out.aug, Lib.hid (HP.out.done hlt), HB⟩, by simp [intOf]; omega⟩
        · obtain rfl : n = i := by omega
          have HSO := Lib.hid (aug_done HA.out HU.out)
          have HAL := Lib.hid (fun r (hr : r < n) => (HA.out.row hr).trans HLL.out)
          clear HA HU
          go_wp2_with fail
          obtain ⟨wo, rfl⟩ : ∃ wo : World, wo = wr := ⟨_, rfl⟩
          go_loopw [17, 18] (fun vo kk wq => ∃ k : Nat, kk = .int .i64 k ∧ k ≤ n ∧ Hid (OwnB wq wo.heap.size vo (colTo M n k)) ∧ Hid (Below wo.heap.size wo wq)) (fun _ kk _ => n - (intOf kk).toNat)
          case atStart => exact ⟨0, rfl, Nat.zero_le _, Lib.hid (World.ownsRow_nil _ _ _ _), Lib.hid (Below.refl _ _)⟩
          case round =>
            obtain ⟨k, rfl, hk, HO, HB2⟩ := hrel
            by_cases hlt : k < n
            · have hM := HM.out.below HB2.out
              obtain ⟨g, cap, he, hgB, hgl⟩ := hM.form (by omega)
              injection he with he1 _ he2
              subst he1 he2
              obtain ⟨gk, ck, hvk, _, _⟩ := hM.rowForm hlt (HAL.out k hlt) hL0
              obtain ⟨hcell, _⟩ := hM.cell k hlt
              rw [hvk] at hcell
              have hOp := hM.row k hlt
              rw [hvk] at hOp
              obtain ⟨hcb, _⟩ := hOp.at_ n (by rw [HAL.out k hlt]; exact hLn)
              have hxe : (rat M k).getD n 0 = at2 M k n := rfl
              rw [hxe] at hcb
              have HC := Lib.hid (colTo_succ M n k)
              have hcl := colTo_length M n k
              have h7 : (colTo M n k).length ≤ 70000 := by omega
              clear hcl hM hOp hvk hxe
              generalize at2 M k n = x at *
              go_wp2_with ((with_reducible refine gate_builtin (b := .append) (xs := #[.tmp 157, .tmp 165]) rfl ?_); at_builtin; refine app_own (w0 := wo) wo.heap.size rfl (.tmp 157) (.tmp 165) rfl _ (colTo M n k) x rfl rfl HO.out HB2.out HB2.out.size h7 ?_; intro v1 w1 hO1 hB1 hg1 hat1)
              refine ⟨⟨k + 1, by go_num, by omega, Lib.hid ?_, Lib.hid hB1⟩, by simp [intOf]; omega⟩
              rw [HC.out]
              exact hO1
            · obtain rfl : n = k := by omega
              go_wp2_with fail
              go_ret
              refine ⟨_, colTo M n n, rfl, own_less HO.out HB.out.size, colTo_length _ _ _, ?_, HB.out.trans (HB2.out.mono HB.out.size)⟩
              intro r hr
              exact (xsum_congr _ _ _ (fun c hc => by dsimp only; rw [colTo_getD _ _ _ _ hc])).trans (HSO.out r hr)
end Go.Proofs.Ytiggohkkokalcaa
