/- The plain law of Heal: which blocks are found, and what is left of the group without them. The walks of slices.Clone at rows of rows and of slices.Equal at words. The walk of package parity's Heal. The plain law of ParityHeals: which blocks are damaged, and how many of them count. -/
import Derived.Test.YtiggohkkokalcaaRestAll
import Derived.Test.YtiggohkkokalcaaScrubAll
import Derived.Test.YtiggohkkokalcaaGrp
import Derived.Test.YtiggohkkokalcaaU64All
import Derived.Test.YtiggohkkokalcaaSmall2
import Derived.Test.YtiggohkkokalcaaRepair
import Derived.Deep.CutBlock
import Derived.Deep.DeepCutAuto
/-! The plain law of Heal: which blocks are found, and what is left of the group without them. -/
namespace Go.Proofs.Ytiggohkkokalcaa
set_option linter.unusedVariables false
set_option linter.unusedSimpArgs false

theorem badTo_mem (h w : List Nat) (k : Nat) (x : Int) : x ∈ badTo h w k ↔ ∃ i : Nat, i < k ∧ h.getD i 0 ≠ w.getD i 0 ∧ x = (i : Int) := by
  induction k with
  | zero => simp [badTo]
  | succ k ih =>
    unfold badTo
    split
    · rename_i he
      rw [ih]
      constructor
      · rintro ⟨i, h1, h2, h3⟩; exact ⟨i, by omega, h2, h3⟩
      · rintro ⟨i, h1, h2, h3⟩
        refine ⟨i, ?_, h2, h3⟩
        rcases Nat.lt_or_ge i k with h4 | h4
        · exact h4
        · have : i = k := by omega
          subst this; exact absurd he h2
    · rename_i he
      rw [List.mem_append, ih, List.mem_singleton]
      constructor
      · rintro (⟨i, h1, h2, h3⟩ | h3)
        · exact ⟨i, by omega, h2, h3⟩
        · exact ⟨k, by omega, he, h3⟩
      · rintro ⟨i, h1, h2, h3⟩
        rcases Nat.lt_or_ge i k with h4 | h4
        · exact .inl ⟨i, h4, h2, h3⟩
        · have : i = k := by omega
          subst this; exact .inr h3
theorem hashesG_len (ds ps : List (List G)) : (hashesG ds ps).length = ds.length + ps.length := by
  unfold hashesG
  rw [List.length_map, List.length_append]
theorem hashesG_at (ds ps : List (List G)) (i : Nat) (h : i < ds.length) : (hashesG ds ps).getD i 0 = hashG (ds.getD i []) := by
  unfold hashesG
  rw [List.getD_eq_getElem?_getD, List.getElem?_map, List.getElem?_append_left h, List.getD_eq_getElem?_getD, List.getElem?_eq_getElem h, Option.map_some, Option.getD_some, Option.getD_some]
theorem hashesG_at2 (ds ps : List (List G)) (j : Nat) (h : j < ps.length) : (hashesG ds ps).getD (ds.length + j) 0 = hashG (ps.getD j []) := by
  unfold hashesG
  rw [List.getD_eq_getElem?_getD, List.getElem?_map, List.getElem?_append_right (by omega), Nat.add_sub_cancel_left, List.getD_eq_getElem?_getD, List.getElem?_eq_getElem h, Option.map_some, Option.getD_some, Option.getD_some]

/-- a group, and what it has become: a block that is another one has another hash -/
structure HScene (data : List (List G)) (f : Nat) (ds ps : List (List G)) : Prop where
  h16 : data.length ≤ 16
  h4 : f ≤ 4
  hl : longG data ≤ 65536
  ld : ds.length = data.length
  lp : ps.length = f
  small : ∀ b ∈ ds ++ ps, b.length ≤ 70000
  tellD : ∀ i, i < data.length → hashG (ds.getD i []) = hashG (data.getD i []) → ds.getD i [] = data.getD i []
  tellP : ∀ j, j < f → hashG (ps.getD j []) = hashG ((makeG data f).getD j []) → ps.getD j [] = (makeG data f).getD j []
/-- the places of the blocks that are others -/
def badG (data : List (List G)) (f : Nat) (ds ps : List (List G)) : List Int := badTo (hashesG ds ps) (hashesG data (makeG data f)) (data.length + f)
section
variable {data ds ps : List (List G)} {f : Nat}
theorem badG_data (S : HScene data f ds ps) (i : Nat) (h : i < data.length) : inL (badG data f ds ps) (i : Int) = true ↔ ds.getD i [] ≠ data.getD i [] := by
  rw [inL_iff]
  unfold badG
  rw [badTo_mem]
  have e1 := hashesG_at ds ps i (by rw [S.ld]; exact h)
  have e2 := hashesG_at data (makeG data f) i h
  constructor
  · rintro ⟨k, h1, h2, h3⟩
    have : k = i := by omega
    subst this
    rw [e1, e2] at h2
    exact fun he => h2 (by rw [he])
  · intro hne
    exact ⟨i, by omega, by rw [e1, e2]; exact fun he => hne (S.tellD i h he), rfl⟩
theorem badG_par (S : HScene data f ds ps) (j : Nat) (h : j < f) : inL (badG data f ds ps) ((data.length : Int) + (j : Int)) = true ↔ ps.getD j [] ≠ (makeG data f).getD j [] := by
  rw [inL_iff]
  unfold badG
  rw [badTo_mem]
  have e1 := hashesG_at2 ds ps j (by rw [S.lp]; exact h)
  have e2 := hashesG_at2 data (makeG data f) j (by rw [makeG_length]; exact h)
  rw [S.ld] at e1
  constructor
  · rintro ⟨k, h1, h2, h3⟩
    have : k = data.length + j := by omega
    subst this
    rw [e1, e2] at h2
    exact fun he => h2 (by rw [he])
  · intro hne
    exact ⟨data.length + j, by omega, by rw [e1, e2]; exact fun he => hne (S.tellP j h he), by omega⟩
theorem badG_rng (x : Int) (h : x ∈ badG data f ds ps) : 0 ≤ x ∧ x < (data.length : Int) + (f : Int) := by
  unfold badG at h
  rw [badTo_mem] at h
  obtain ⟨i, h1, _, h3⟩ := h
  omega
theorem badG_len : (badG data f ds ps).length ≤ data.length + f := badTo_le _ _ _
theorem without_data (S : HScene data f ds ps) : withoutG ds (badG data f ds ps) 0 = withoutG data (badG data f ds ps) 0 := by
  refine list_ext_getD [] (by rw [withoutG_length, withoutG_length, S.ld]) (fun i hi => ?_)
  rw [withoutG_length, S.ld] at hi
  rw [withoutG_getD _ _ _ _ (by rw [S.ld]; exact hi), withoutG_getD _ _ _ _ hi, Int.zero_add]
  have hb := badG_data S i hi
  by_cases h : inL (badG data f ds ps) (i : Int) = true
  · rw [if_pos h, if_pos h]
  · rw [if_neg h, if_neg h]
    exact Classical.byContradiction fun hne => h (hb.2 hne)
theorem without_par (S : HScene data f ds ps) : withoutG ps (badG data f ds ps) (data.length : Int) = withoutG (makeG data f) (badG data f ds ps) data.length := by
  refine list_ext_getD [] (by rw [withoutG_length, withoutG_length, S.lp, makeG_length]) (fun j hj => ?_)
  rw [withoutG_length, S.lp] at hj
  rw [withoutG_getD _ _ _ _ (by rw [S.lp]; exact hj), withoutG_getD _ _ _ _ (by rw [makeG_length]; exact hj)]
  have hb := badG_par S j hj
  by_cases h : inL (badG data f ds ps) ((data.length : Int) + (j : Int)) = true
  · rw [if_pos h, if_pos h]
  · rw [if_neg h, if_neg h]
    exact Classical.byContradiction fun hne => h (hb.2 hne)
end
/-- one more place is emptied -/
theorem inL_take_succ (l : List Int) (k : Nat) (h : k < l.length) (x : Int) : inL (l.take (k + 1)) x = (inL (l.take k) x || decide (l.getD k 0 = x)) := by
  have e : l.take (k + 1) = l.take k ++ [l.getD k 0] := by
    rw [List.take_succ_eq_append_getElem h, List.getD_eq_getElem?_getD, List.getElem?_eq_getElem h]; rfl
  rw [Bool.eq_iff_iff, Bool.or_eq_true, inL_iff, inL_iff, decide_eq_true_iff, e, List.mem_append, List.mem_singleton]
  constructor
  · rintro (h | h)
    · exact .inl h
    · exact .inr h.symm
  · rintro (h | h)
    · exact .inl h
    · exact .inr h.symm
theorem without_hit (R : List (List G)) (l : List Int) (first : Int) (k j : Nat) (h : k < l.length) (hj : j < R.length) (he : l.getD k 0 = first + (j : Int)) : (withoutG R (l.take k) first).set j [] = withoutG R (l.take (k + 1)) first := by
  refine list_ext_getD [] (by rw [List.length_set, withoutG_length, withoutG_length]) (fun i hi => ?_)
  rw [List.length_set, withoutG_length] at hi
  have hs := rat_set (withoutG R (l.take k) first) j i [] (by rw [withoutG_length]; exact hj)
  unfold rat at hs
  rw [hs, withoutG_getD _ _ _ _ hi, withoutG_getD _ _ _ _ hi, inL_take_succ _ _ h]
  by_cases hij : i = j
  · subst hij
    rw [if_pos rfl, if_pos (by rw [Bool.or_eq_true, decide_eq_true_iff]; exact .inr he)]
  · rw [if_neg hij]
    have hd : decide (l.getD k 0 = first + (i : Int)) = false := decide_eq_false (by omega)
    rw [hd, Bool.or_false]
theorem without_miss (R : List (List G)) (l : List Int) (first : Int) (k : Nat) (h : k < l.length) (he : l.getD k 0 < first ∨ first + (R.length : Int) ≤ l.getD k 0) : withoutG R (l.take (k + 1)) first = withoutG R (l.take k) first := by
  refine list_ext_getD [] (by rw [withoutG_length, withoutG_length]) (fun i hi => ?_)
  rw [withoutG_length] at hi
  rw [withoutG_getD _ _ _ _ hi, withoutG_getD _ _ _ _ hi, inL_take_succ _ _ h]
  have hd : decide (l.getD k 0 = first + (i : Int)) = false := decide_eq_false (by omega)
  rw [hd, Bool.or_false]
theorem without_none (R : List (List G)) (first : Int) : withoutG R [] first = R := by
  refine list_ext_getD [] (withoutG_length _ _ _) (fun i hi => ?_)
  rw [withoutG_length] at hi
  rw [withoutG_getD _ _ _ _ hi]
  have h : inL [] (first + (i : Int)) ≠ true := by rw [Ne, inL_iff]; simp
  rw [if_neg h]
end Go.Proofs.Ytiggohkkokalcaa

/-! The walks of slices.Clone at rows of rows and of slices.Equal at words. -/
namespace Go.Proofs.Ytiggohkkokalcaa
open Go.RowKit Go.Proofs.YtiggohkkokalcaaW.PrintWords Go.Proofs.YtiggohkkokalcaaW.PrintMore
set_option linter.unusedVariables false
set_option linter.unusedSimpArgs false

section
variable {ops : Array Oper} {rest : List Oper} {o : Oper} {a : Act} {Q : Exit → Act → World → Prop}
/-- append(v, ys...) at an empty row of the call's own: rows that lie below a block -/
theorem app_lst_rows {w0 W : World} (B c0 : Nat) (hgd : o.guard = none) (s x : Operand) (ho : o.op = .call { callee := .builtin .append, args := #[s, x], argTypes := #[30, 30] })
    (v : Value) (bss : List (List G)) (A : Option Addr) (m c : Nat) (hs : a.eval s = v) (hx : a.eval x = .slice A m c) (HE : W.ownsRow B 33 1 v 0 []) (HV : Vbb W (fun k => k < c0) (.slice A m c) bss) (hc : c0 ≤ B)
    (HB : Below B w0 W) (hbase : B ≤ W.heap.size) (hl : m ≤ 70000)
    (h : ∀ v1 w1 us, Lst w1 B c0 bss.length v1 us bss → Below B w0 w1 → wpList Try.prog ops Q rest (a.put o.dst v1) w1) :
    wpList Try.prog ops Q (o :: rest) a W := by
  have hm : m = bss.length := (Kd.V_at HV).1
  obtain ⟨news, hnl, hnr, hnf⟩ := Kd.reads_raw (Kd.F_rows (Kd.V_F HV)) (fun y c hk => ⟨KGs.K_len (Kd.FK_now hk), KGs.K_one (Kd.FK_now hk)⟩)
  refine Kd.R_append_rows (Kd.raw 1) B hgd s x 30 33 (.slice none 0 0) 24 ho Try.underlying30 info33 rfl (by decide) (by omega) v [] news A m c (fun _ => True) (fun _ => False) hs hx ⟨fun _ _ => trivial, [], HE, Reps.none _ _⟩ hnr (fun _ _ hk => hk) (fun _ hk => hk.elim) (fun _ _ => trivial) HB hbase (by simp only [List.length_nil]; omega) ?_
  intro v1 w1 hr hb hg hat
  obtain ⟨_, inner, ho1, hrr⟩ := hr
  rw [List.nil_append] at ho1 hrr
  have hil : inner.length = bss.length := by rw [hrr.1, hnl]; show bss.length * 1 = _; omega
  have hne : ∀ k, k < c0 → some k ≠ v.ownBlock := fun k hk he => by
    have := (World.ownsRow.lt HE k he.symm).1
    omega
  rw [hnl] at ho1
  refine h v1 w1 inner ⟨ho1, hil, rfl, fun r hrl => ?_⟩ hb
  have h1 : bss[r]? = some bss[r] := List.getElem?_eq_getElem hrl
  have h2 : news[r]? = some (news[r]'(by omega)) := List.getElem?_eq_getElem (by omega)
  obtain ⟨A1, c1, he, hl1, hf1⟩ := Kd.FK_slice_open (hnf r _ _ h1 h2)
  have h3 : (inner.drop (r * 1)).take 1 = news[r]'(by omega) := (hrr.2 r _ h2).1
  rw [he, Nat.mul_one, List.take_one, List.head?_drop, List.getElem?_eq_getElem (by omega : r < inner.length)] at h3
  simp only [Option.toList_some, List.cons.injEq, and_true] at h3
  have e1 : vat inner r = .slice A1 bss[r].length c1 := by unfold vat; rw [List.getD_eq_getElem?_getD, List.getElem?_eq_getElem (by omega), Option.getD_some, h3]
  have e2 : rat bss r = bss[r] := by unfold rat; rw [List.getD_eq_getElem?_getD, h1, Option.getD_some]
  rw [e1, e2]
  exact Kd.V_grown ⟨A1, c1, rfl, hl1, hf1⟩ hg hne
end
theorem Lst.below {w w1 : World} {B c0 n : Nat} {v : Value} {vs : List Value} {R : List (List G)} (h : Lst w B c0 n v vs R) (hb : Below w.heap.size w w1) : Lst w1 B c0 n v vs R :=
  ⟨pw_own_below h.own hb, h.lv, h.lr, fun r hr => Kd.V_below (h.row r hr) hb⟩
theorem own_empty (W : World) : (W.alloc (.cells #[] 33)).ownsRow W.heap.size 33 1 (.slice (some ⟨W.heap.size, 0, none⟩) 0 0) 0 [] := by
  obtain ⟨_, rows, hl, hR, _⟩ := N_empty KGs 33 W.heap.size W (Nat.le_refl _)
  have h0 : rows = [] := List.eq_nil_of_length_eq_zero hl
  subst h0
  obtain ⟨_, inner, ho, hr⟩ := hR
  have h1 : inner = [] := List.eq_nil_of_length_eq_zero (by rw [hr.1]; simp)
  subst h1
  exact ho
set_option maxRecDepth 100000 in
set_option maxHeartbeats 2000000 in
theorem cloneB_any (bss : List (List G)) (v : Value) (w : World) (c0 : Nat) (hc0 : c0 ≤ w.heap.size) (HV : Vbb w (fun k => k < c0) v bss) (hl : bss.length ≤ 70000) :
    Calls Try.prog 58 #[v] w fun e w' => ∃ u us, e = .returned u ∧ Lst w' w.heap.size c0 bss.length u us bss ∧ Below w.heap.size w w' := by
  obtain ⟨A, c, rfl, hc, hm⟩ := V_open HV
  have HHV := Lib.hid HV
  clear HV
  rcases A with _ | ad
  · have h0 : bss = [] := by
      rcases Nat.eq_zero_or_pos bss.length with h | h
      · exact List.eq_nil_of_length_eq_zero h
      · obtain ⟨ad, _, _, he, _⟩ := Vbb_row HHV.out 0 h
        cases he
    subst h0
    have hq := fun W => Lib.run_eql_slice_nil (P := Try.prog) W 30 33 none 0 c 0 0 Try.underlying30
    go_enter Try.func58, Try.ntmps58
    go_wp2_with fail
    go_ret
    exact ⟨_, [], rfl, Lst.nil _ _ _, Below.refl _ _⟩
  · have hq := fun W => Lib.run_eql_slice_nil (P := Try.prog) W 30 33 (some ad) bss.length c 0 0 Try.underlying30
    have HOE := Lib.hid (own_empty w)
    go_enter Try.func58, Try.ntmps58
    go_wp2_with ((with_reducible refine gate_builtin (b := .append) (xs := #[.tmp 5, .tmp 6]) rfl ?_); at_builtin; refine app_lst_rows (w0 := w) w.heap.size c0 rfl (.tmp 5) (.tmp 6) rfl _ bss (some ad) bss.length c rfl rfl HOE.out (Kd.V_alloc HHV.out _) hc0 (below_alloc (Below.refl _ _) _) (below_alloc (Below.refl _ _) _).size hl ?_; intro v3 w3 us hN3 hB3; have HN3 := Lib.hid hN3; clear hN3)
    go_ret
    exact ⟨_, us, rfl, HN3.out, hB3⟩

set_option maxRecDepth 100000 in
set_option maxHeartbeats 1000000 in
theorem equalU_any (a b : List Nat) (va vb : Value) (w : World) (oka okb : Nat → Prop) (HA : Vu w oka va a) (HB : Vu w okb vb b) :
    Calls Try.prog 59 #[va, vb] w fun e w' => e = .returned (.bool (decide (a = b))) ∧ ∃ n, w' = w.drewN n := by
  obtain ⟨A, ca, rfl, hca, hma⟩ := V_open HA
  obtain ⟨B, cb, rfl, hcb, hmb⟩ := V_open HB
  have HHA := Lib.hid HA
  have HHB := Lib.hid HB
  clear HA HB
  by_cases hl : a.length = b.length
  · have hlb : ((a.length : Int) != (b.length : Int)) = false := by rw [bne_eq_false_iff_eq]; omega
    have hlb4 : (a.length != b.length) = false := by rw [bne_eq_false_iff_eq]; omega
    have HL := Lib.hid hl
    clear hl
    go_enter Try.func59, Try.ntmps59
    go_wp2_with fail
    go_loopw [13] (fun i wr => ∃ k m : Nat, i = .int .i64 k ∧ k ≤ a.length ∧ wr = w.drewN m ∧ Hid (∀ j, j < k → a.getD j 0 = b.getD j 0)) (fun i _ => a.length - (intOf i).toNat)
    case atStart => exact ⟨0, 0, rfl, Nat.zero_le _, rfl, Lib.hid (fun j hj => by omega)⟩
    case round =>
      clear hlb hlb4
      obtain ⟨k, m, rfl, hk, rfl, HE⟩ := hrel
      by_cases hlt : k < a.length
      · have hltb : k < b.length := by have := HL.out; omega
        obtain ⟨ad, rfl, hc1, _⟩ := V_scalar HHA.out 0 k hlt
        obtain ⟨bd, rfl, hc2, _⟩ := V_scalar HHB.out 0 k hltb
        unfold encN at hc1 hc2
        generalize hx : a.getD k 0 = x at *
        generalize hy : b.getD k 0 = y at *
        have HX := Lib.hid hx
        have HY := Lib.hid hy
        clear hx hy
        by_cases he : x = y
        · have hb2 : ((x : Int) != (y : Int)) = false := by rw [bne_eq_false_iff_eq, he]
          have HH := Lib.hid he
          clear he
          go_wp2_with fail
          go_quiet (fail)
          go_wp2_with fail
          refine ⟨⟨k + 1, m + nq, by go_num, by omega, rfl, Lib.hid (fun j hj => ?_)⟩, by simp [intOf]; omega⟩
          by_cases e : j = k
          · subst e; rw [HX.out, HY.out, HH.out]
          · exact HE.out j (by omega)
        · have hb2 : ((x : Int) != (y : Int)) = true := by rw [bne_iff_ne]; omega
          have HH := Lib.hid he
          clear he
          go_wp2_with fail
          go_quiet (fail)
          go_wp2_with fail
          go_ret
          have hf : decide (a = b) = false := by rw [decide_eq_false_iff_not]; intro h; exact HH.out (by rw [← HX.out, ← HY.out, h])
          exact ⟨by rw [hf]; rfl, _, World.drewN_drewN _ _ _⟩
      · obtain rfl : k = a.length := by omega
        go_wp2_with fail
        go_ret
        have hf : decide (a = b) = true := by
          rw [decide_eq_true_iff]
          exact list_ext_getD 0 HL.out HE.out
        exact ⟨by rw [hf]; rfl, m, rfl⟩
  · have hlb : ((a.length : Int) != (b.length : Int)) = true := by rw [bne_iff_ne]; omega
    have hlb3 : (a.length != b.length) = true := by rw [bne_iff_ne]; exact hl
    have hf : decide (a = b) = false := by rw [decide_eq_false_iff_not]; intro h; exact hl (by rw [h])
    have HF := Lib.hid hf
    clear hl hf
    go_enter Try.func59, Try.ntmps59
    go_wp2_with fail
    go_ret
    exact ⟨by rw [HF.out]; rfl, 0, rfl⟩
end Go.Proofs.Ytiggohkkokalcaa

/-! The walk of package parity's Heal. -/
namespace Go.Proofs.Ytiggohkkokalcaa
open Go.RowKit Go.Proofs.YtiggohkkokalcaaW.PrintWords Go.Proofs.YtiggohkkokalcaaW.PrintMore
set_option linter.unusedVariables false
set_option linter.unusedSimpArgs false

def lostCt (data : List (List G)) (bad : List Int) : Nat := (lostN (withoutG data bad 0) (sizesG data)).length
def leftCt (data : List (List G)) (f : Nat) (bad : List Int) : Nat := (leftN (withoutG (makeG data f) bad data.length) (lngTo (sizesG data) data.length)).length
/-- What Heal gives at a group of which some blocks have become others. -/
def HealPost (data : List (List G)) (f : Nat) (bad : List Int) (w : World) (e : Ending) (w' : World) : Prop :=
  Below w.heap.size w w' ∧ (leftCt data f bad < lostCt data bad → e = .returned (.tuple #[.slice none 0 0, .slice none 0 0, .slice none 0 0, .int .i64 26])) ∧
    (lostCt data bad ≤ leftCt data f bad → ∃ va vp vb, e = .returned (.tuple #[va, vp, vb, .int .i64 0]) ∧ Vbb w' (fun _ => True) va data ∧ Vbb w' (fun _ => True) vp (makeG data f) ∧ Vi w' (fun _ => True) vb bad)
theorem healpost_lost {data : List (List G)} {f : Nat} {bad : List Int} {w w' : World} (h : leftCt data f bad < lostCt data bad) (hB : Below w.heap.size w w') :
    HealPost data f bad w (.returned (.tuple #[.slice none 0 0, .slice none 0 0, .slice none 0 0, .int .i64 26])) w' := ⟨hB, fun _ => rfl, fun h2 => absurd h (by omega)⟩
theorem healpost_ok {data : List (List G)} {f : Nat} {bad : List Int} {w w' : World} {va vp vb : Value} (h : lostCt data bad ≤ leftCt data f bad) (hB : Below w.heap.size w w') (h1 : Vbb w' (fun _ => True) va data) (h2 : Vbb w' (fun _ => True) vp (makeG data f)) (h3 : Vi w' (fun _ => True) vb bad) :
    HealPost data f bad w (.returned (.tuple #[va, vp, vb, .int .i64 0])) w' := ⟨hB, fun h2 => absurd h2 (by omega), fun _ => ⟨va, vp, vb, rfl, h1, h2, h3⟩⟩
theorem equalU_same (a : List Nat) (va vb : Value) (w : World) (oka okb : Nat → Prop) (HA : Vu w oka va a) (HB : Vu w okb vb a) :
    Calls Try.prog 59 #[va, vb] w fun e w' => e = .returned (.bool true) ∧ ∃ n, w' = w.drewN n :=
  (equalU_any a a va vb w oka okb HA HB).mono fun e W h => ⟨by rw [h.1, decide_eq_true rfl], h.2⟩
theorem repair_scn {data : List (List G)} {f : Nat} {gone : List Int} (S : Scn data f gone) (vd vq vi : Value) (W : World) (HV : Vbb W (fun _ => True) vd (withoutG data gone 0)) (HP : Vbb W (fun _ => True) vq (withoutG (makeG data f) gone data.length)) (HI : Vi W (fun _ => True) vi (sizesG data)) :
    Calls Try.prog 29 #[vd, vq, vi] W fun e w' => ∃ va vp, e = .returned (.tuple #[va, vp, .int .i64 0]) ∧ Vbb w' (fun _ => True) va data ∧ Vbb w' (fun _ => True) vp (makeG data f) ∧ Below W.heap.size W w' := by
  refine (repair_any _ _ _ vd vq vi W HV HP HI).mono ?_
  rintro e w' ⟨hB, _, h⟩
  obtain ⟨X, hX, _, h2⟩ := h ((chk_iff _ _ _).2 (scn_ok S))
  obtain ⟨va, vp, h3, h4, h5⟩ := h2 (fun h => h.elim (scn_tail S hX) (scn_sum S hX))
  have e2 := withoutG_length (makeG data f) gone data.length
  rw [makeG_length] at e2
  rw [scn_out S hX] at h4 h5
  rw [e2] at h5
  exact ⟨va, vp, h3, h4, h5, hB⟩
theorem repair_lost {data : List (List G)} {f : Nat} {gone : List Int} (h16 : data.length ≤ 16) (h4 : f ≤ 4) (hl : longG data ≤ 65536) (hm : leftCt data f gone < lostCt data gone) (vd vq vi : Value) (W : World) (HV : Vbb W (fun _ => True) vd (withoutG data gone 0)) (HP : Vbb W (fun _ => True) vq (withoutG (makeG data f) gone data.length)) (HI : Vi W (fun _ => True) vi (sizesG data)) :
    Calls Try.prog 29 #[vd, vq, vi] W fun e w' => e = .returned (.tuple #[.slice none 0 0, .slice none 0 0, .int .i64 26]) ∧ Below W.heap.size W w' := by
  refine (repair_any _ _ _ vd vq vi W HV HP HI).mono ?_
  rintro e w' ⟨hB, h, _⟩
  have he := lost_err h16 h4 hl hm
  have h2 := h (by rw [he]; decide)
  rw [he] at h2
  exact ⟨h2, hB⟩

set_option maxRecDepth 100000 in
set_option maxHeartbeats 8000000 in
theorem heal_any (data ds ps : List (List G)) (f : Nat) (S : HScene data f ds ps) (Ad Ap Ai Ah : Option Addr) (cd cp ci ch : Nat) (w : World)
    (HD : Vbb w (fun _ => True) (.slice Ad ds.length cd) ds) (HP : Vbb w (fun _ => True) (.slice Ap ps.length cp) ps) (HI : Vi w (fun _ => True) (.slice Ai (sizesG data).length ci) (sizesG data)) (HH : Vu w (fun _ => True) (.slice Ah (hashesG data (makeG data f)).length ch) (hashesG data (makeG data f))) :
    Calls Try.prog 31 #[.slice Ad ds.length cd, .slice Ap ps.length cp, .slice Ai (sizesG data).length ci, .slice Ah (hashesG data (makeG data f)).length ch] w fun e w' => HealPost data f (badG data f ds ps) w e w' := by
  have h16 := S.h16
  have h4 := S.h4
  have hld := S.ld
  have hlp := S.lp
  have hpl := makeG_length data f
  have hwl := hashesG_len data (makeG data f)
  have hhl := hashesG_len ds ps
  have HS1 := Lib.hid (scrub_any ds ps (hashesG data (makeG data f)) Ad Ap Ah cd cp ch (by omega) (by omega) S.small w HD HP HH)
  have e1 : scrubE (hashesG ds ps) (hashesG data (makeG data f)) = 0 := by unfold scrubE; rw [if_pos (by omega)]
  have e2 : scrubL (hashesG ds ps) (hashesG data (makeG data f)) = badG data f ds ps := by
    unfold scrubL badG; rw [if_pos (by omega), hhl, hld, hlp]
  rw [e1, e2] at HS1
  have hD0 : Vbb w (fun k => k < w.heap.size) (.slice Ad ds.length cd) ds := Kd.V_mono (Kd.V_bound HD) (fun k hk => hk.2)
  have hP0 : Vbb w (fun k => k < w.heap.size) (.slice Ap ps.length cp) ps := Kd.V_mono (Kd.V_bound HP) (fun k hk => hk.2)
  have HD0 := Lib.hid hD0
  have HP0 := Lib.hid hP0
  have HIB := Lib.hid (Kd.V_bound HI)
  have HHB := Lib.hid (Kd.V_bound HH)
  have HWD := Lib.hid (without_data S)
  have HWP := Lib.hid (without_par S)
  have HRG := Lib.hid (badG_rng (data := data) (ds := ds) (ps := ps) (f := f))
  have hbl := badG_len (data := data) (ds := ds) (ps := ps) (f := f)
  have HL := Lib.hid S.hl
  clear HD HP HI HH e1 e2 hD0 hP0
  generalize badG data f ds ps = bad at *
  have HLD := Lib.hid hld
  have HLP := Lib.hid hlp
  have HPL := Lib.hid hpl
  clear hwl hhl hld hlp hpl
  go_enter Try.func31, Try.ntmps31
  go_wp2_with fail
  refine HS1.out.mono ?_
  rintro e w1 ⟨vb, rfl, hOb, hB1⟩
  obtain ⟨Ab, cb, rfl, hcb, _⟩ := V_open hOb.V
  have HOb := Lib.hid (Kd.V_bound (Kd.V_mono hOb.V (fun _ _ => trivial)) : Vi w1 (fun k => True ∧ k < w1.heap.size) _ _)
  have HB1 := Lib.hid hB1
  have hs1 := hB1.size
  clear hOb hB1 HS1
  have hld2 := HLD.out
  have hlp2 := HLP.out
  have HC1 := Lib.hid (cloneB_any ds _ w1 w.heap.size hs1 (Kd.V_below HD0.out HB1.out) (by omega))
  clear hld2 hlp2
  go_wp2_with fail
  refine HC1.out.mono ?_
  rintro e w2 ⟨v0, us0, rfl, hL0, hB2⟩
  have hs2 := hB2.size
  have hld2 := HLD.out
  have hlp2 := HLP.out
  have HC2 := Lib.hid (cloneB_any ps _ w2 w.heap.size (by omega) (Kd.V_below HP0.out (HB1.out.trans (hB2.mono HB1.out.size))) (by omega))
  clear hld2 hlp2
  obtain ⟨A0, c0, rfl⟩ := own_slice hL0.own
  have HL0 := Lib.hid hL0
  have HB2 := Lib.hid hB2
  clear hL0 hB2
  go_wp2_with fail
  refine HC2.out.mono ?_
  rintro e w3 ⟨v1, us1, rfl, hL1, hB3⟩
  obtain ⟨A1, c1, rfl⟩ := own_slice hL1.own
  have hs3 := hB3.size
  have hG0 : Grp w1.heap.size w3.heap.size w3 ds.length (.slice A0 ds.length c0) us0 (withoutG ds (bad.take 0) 0) := by
    rw [List.take_zero, without_none]
    have h := (HL0.out.below hB3).grp (a := w1.heap.size) (b := w3.heap.size) hs1 (Nat.le_refl _) (Nat.le_refl _)
    exact h
  have hG1 : Grp w1.heap.size w3.heap.size w3 ps.length (.slice A1 ps.length c1) us1 (withoutG ps (bad.take 0) data.length) := by
    rw [List.take_zero, without_none]
    exact hL1.grp (a := w1.heap.size) (b := w3.heap.size) hs1 hs2 (Nat.le_refl _)
  have hap : Ap2 (.slice A0 ds.length c0) (.slice A1 ps.length c1) := Ap2.symm (Ap2_fresh (m := w2.heap.size) (fun k hk => (World.ownsRow.lt hL1.own k hk).1) (fun k hk => (World.ownsRow.lt HL0.out.own k hk).2))
  have HG0 := Lib.hid hG0
  have HG1 := Lib.hid hG1
  have HAP := Lib.hid hap
  have HB13 := Lib.hid (HB2.out.trans (hB3.mono HB2.out.size))
  clear hG0 hG1 hap hL1 hB3 HL0 HB2 HC1 HC2 HD0 HP0
  go_wp2_with fail
  go_loopw [15, 34] (fun _ i wr => ∃ (k : Nat) (vs0 vs1 : List Value), i = .int .i64 k ∧ k ≤ bad.length ∧ Hid (Grp w1.heap.size w3.heap.size wr ds.length (.slice A0 ds.length c0) vs0 (withoutG ds (bad.take k) 0)) ∧ Hid (Grp w1.heap.size w3.heap.size wr ps.length (.slice A1 ps.length c1) vs1 (withoutG ps (bad.take k) data.length)) ∧ Hid (Below w1.heap.size w1 wr)) (fun _ i _ => bad.length - (intOf i).toNat)
  case atStart => exact ⟨0, us0, us1, rfl, Nat.zero_le _, HG0, HG1, HB13⟩
  case round =>
    clear HG0 HG1 HB13
    obtain ⟨k, vs0, vs1, rfl, hk, HG0, HG1, HB⟩ := hrel
    by_cases hlt : k < bad.length
    · obtain ⟨adb, rfl, hcell, _⟩ := Vi_cell (lowX HOb.out HB.out) k hlt
      have hxm : bad.getD k 0 ∈ bad := by rw [List.getD_eq_getElem?_getD, List.getElem?_eq_getElem hlt]; exact List.getElem_mem hlt
      obtain ⟨hr0, hr1⟩ := HRG.out _ hxm
      have HHIT0 := Lib.hid (fun j => without_hit ds bad 0 k j hlt)
      have HHIT1 := Lib.hid (fun j => without_hit ps bad data.length k j hlt)
      have HMIS0 := Lib.hid (without_miss ds bad 0 k hlt)
      have HMIS1 := Lib.hid (without_miss ps bad data.length k hlt)
      clear hxm
      have hsz := HB.out.size
      generalize bad.getD k 0 = x at *
      obtain ⟨y, rfl⟩ := Int.eq_ofNat_of_zero_le hr0
      have hld2 := HLD.out
      have hlp2 := HLP.out
      by_cases hxd : y < ds.length
      · have hxi : (y : Int) < (ds.length : Int) := by omega
        clear hld2 hlp2
        obtain ⟨g, cc, he, hgB, hgW⟩ := HG0.out.form (by omega)
        injection he with he1 _ he2
        subst he1 he2
        obtain ⟨hc, hf⟩ := HG0.out.cell y hxd
        have hst := HG0.out.stored hxd (Kd.V_nil KG 5 wr 0 (fun q => q < w1.heap.size ∨ w3.heap.size ≤ q))
        have HST := Lib.hid hst
        have hgt := HG0.out.top g rfl
        have HG1n := Lib.hid (HG1.out.grown hst.2 (by
          rcases HAP.out with h | h
          · cases h
          · exact .inr (fun he => h he.symm)) (fun q hq => by injection hq with hq; omega))
        have HBn := Lib.hid (HB.out.trans (below_row hst.2 hsz (fun q hq => by injection hq with hq; omega)))
        have hE0 := HHIT0.out y hxd (by omega)
        have hE1 := HMIS1.out (by have := HLD.out; omega)
        have HE0 := Lib.hid hE0
        have HE1 := Lib.hid hE1
        clear hst hE0 hE1 HHIT0 HHIT1 HMIS0 HMIS1
        go_wp2_with fail
        exact ⟨⟨k + 1, _, _, by go_num, by omega, Lib.hid (by rw [← HE0.out]; exact HST.out.1), Lib.hid (by rw [HE1.out]; exact HG1n.out), HBn⟩, by simp [intOf]; omega⟩
      · have hxi : ¬ (y : Int) < (ds.length : Int) := by omega
        obtain ⟨j, hj⟩ : ∃ j, j = y - ds.length := ⟨_, rfl⟩
        have hyj : y = ds.length + j := by omega
        have hjp : j < ps.length := by omega
        have hsub : IntKind.i64.wrap ((y : Int) - (ds.length : Int)) = (j : Int) := by rw [IntWalk.i64_in _ (by omega)]; omega
        have hsub2 : (y : Int) - (ds.length : Int) = (j : Int) := by omega
        have hE1 := HHIT1.out j hjp (by omega)
        have hE0 := HMIS0.out (by omega)
        have HE0 := Lib.hid hE0
        have HE1 := Lib.hid hE1
        clear hld2 hlp2 hj hyj hE0 hE1
        obtain ⟨g, cc, he, hgB, hgW⟩ := HG1.out.form (by omega)
        injection he with he1 _ he2
        subst he1 he2
        obtain ⟨hc, hf⟩ := HG1.out.cell j hjp
        have hst := HG1.out.stored hjp (Kd.V_nil KG 5 wr 0 (fun q => q < w1.heap.size ∨ w3.heap.size ≤ q))
        have HST := Lib.hid hst
        have hgt := HG1.out.top g rfl
        have HG0n := Lib.hid (HG0.out.grown hst.2 (by
          rcases HAP.out with h | h
          · exact .inl h
          · exact .inr h) (fun q hq => by injection hq with hq; omega))
        have HBn := Lib.hid (HB.out.trans (below_row hst.2 hsz (fun q hq => by injection hq with hq; omega)))
        clear hst HHIT0 HHIT1 HMIS0 HMIS1
        go_wp2_with fail
        exact ⟨⟨k + 1, _, _, by go_num, by omega, Lib.hid (by rw [HE0.out]; exact HG0n.out), Lib.hid (by rw [← HE1.out]; exact HST.out.1), HBn⟩, by simp [intOf]; omega⟩
    · obtain rfl : k = bad.length := by omega
      have hV0 : Vbb wr (fun _ => True) (.slice A0 ds.length c0) (withoutG data bad 0) := by
        have h := HG0.out.outs.V (by have := HLD.out; omega)
        rw [List.take_length, HWD.out] at h
        exact h
      have hV1 : Vbb wr (fun _ => True) (.slice A1 ps.length c1) (withoutG (makeG data f) bad data.length) := by
        have h := HG1.out.outs.V (by have := HLP.out; omega)
        rw [List.take_length, HWP.out] at h
        exact h
      have HBT := Lib.hid (HB1.out.trans (HB.out.mono hs1))
      have HI9 := Lib.hid (lowX HIB.out HBT.out)
      have HH9 := Lib.hid (lowX HHB.out HBT.out)
      have HV0 := Lib.hid hV0
      have HV1 := Lib.hid hV1
      have HBD := Lib.hid (lowX HOb.out HB.out)
      clear hV0 hV1 HG0 HG1 HB HB1
      by_cases hlo : leftCt data f bad < lostCt data bad
      · have HR := Lib.hid (repair_lost h16 h4 HL.out hlo _ _ _ wr HV0.out HV1.out (Kd.V_mono HI9.out (fun _ _ => trivial)))
        have HLO := Lib.hid hlo
        clear hlo
        go_wp2_with fail
        refine HR.out.mono ?_
        rintro e w5 ⟨rfl, hB5⟩
        have HP5 := Lib.hid (healpost_lost HLO.out (HBT.out.trans (hB5.mono HBT.out.size)))
        clear hB5
        go_wp2_with fail
        exact bodyPost_ret (v := .tuple #[.slice none 0 0, .slice none 0 0, .slice none 0 0, .int .i64 26]) (by simp [results, Try.results31, go_sem]) rfl HP5.out
      · have hle : lostCt data bad ≤ leftCt data f bad := by omega
        have HR := Lib.hid (repair_scn (data := data) (f := f) (gone := bad) ⟨h16, h4, HL.out, hle⟩ _ _ _ wr HV0.out HV1.out (Kd.V_mono HI9.out (fun _ _ => trivial)))
        have HLE := Lib.hid hle
        clear hlo hle
        go_wp2_with fail
        refine HR.out.mono ?_
        rintro e w5 ⟨va, vp, rfl, hVa, hVp, hB5⟩
        obtain ⟨Aa, ca, rfl, hca, _⟩ := V_open hVa
        obtain ⟨Aq, cq, hvq, hcq, _⟩ := V_open hVp
        subst hvq
        have HVa := Lib.hid hVa
        have HVp := Lib.hid hVp
        have HB5 := Lib.hid hB5
        have HHS := Lib.hid (hashes_any data (makeG data f) Aa Aq ca cq (by omega) (by have := HPL.out; omega) (fun b hb => by
          rw [List.mem_append] at hb
          have hlg := HL.out
          rcases hb with hb | hb
          · obtain ⟨i, hi, rfl⟩ := List.getElem_of_mem hb
            have := longG_ge data i
            rw [List.getD_eq_getElem?_getD, List.getElem?_eq_getElem hi, Option.getD_some] at this
            omega
          · obtain ⟨i, hi, rfl⟩ := List.getElem_of_mem hb
            have hif : i < f := by have := HPL.out; omega
            have h3 := makeG_getD data f i hif
            rw [List.getD_eq_getElem?_getD, List.getElem?_eq_getElem hi, Option.getD_some] at h3
            rw [h3, parG_length]
            omega) w5 HVa.out HVp.out)
        clear hVa hVp hB5
        go_wp2_with fail
        refine HHS.out.mono ?_
        rintro e w6 ⟨vh, rfl, hOh, hB6⟩
        have HB6 := Lib.hid hB6
        have HEQ := Lib.hid (equalU_same _ vh _ w6 _ _ hOh.V (Kd.V_below HH9.out (HB5.out.trans (hB6.mono HB5.out.size))))
        clear hOh hB6
        go_wp2_with fail
        refine HEQ.out.mono ?_
        rintro e w7 ⟨rfl, nq, rfl⟩
        have HB57 := Lib.hid (HB5.out.trans ((below_drewN HB6.out nq).mono HB5.out.size))
        have HPO := Lib.hid (healpost_ok HLE.out (HBT.out.trans (HB57.out.mono HBT.out.size)) (Kd.V_below HVa.out (below_drewN HB6.out nq)) (Kd.V_below HVp.out (below_drewN HB6.out nq)) (Kd.V_mono (Kd.V_below HBD.out HB57.out) (fun _ _ => trivial)))
        go_wp2_with fail
        exact bodyPost_ret (by simp [results, Try.results31, go_sem]) rfl HPO.out
end Go.Proofs.Ytiggohkkokalcaa

/-! The plain law of ParityHeals: which blocks are damaged, and how many of them count. -/
namespace Go.Proofs.Ytiggohkkokalcaa
set_option linter.unusedVariables false
set_option linter.unusedSimpArgs false

/-- the group, what it has become, and which blocks are marked as damaged; of the places in rest nothing is said yet -/
structure Dm (data : List (List G)) (f : Nat) (D Q : List (List G)) (dm : List Bool) (rest : List Int) : Prop where
  ld : D.length = data.length
  lq : Q.length = f
  lm : dm.length = data.length + f
  d : ∀ k, k < data.length → (k : Int) ∉ rest → dm.getD k false = decide (D.getD k [] ≠ data.getD k []) ∧ (hashG (D.getD k []) = hashG (data.getD k []) → D.getD k [] = data.getD k [])
  p : ∀ j, j < f → (data.length : Int) + (j : Int) ∉ rest → dm.getD (data.length + j) false = decide (Q.getD j [] ≠ (makeG data f).getD j []) ∧ (hashG (Q.getD j []) = hashG ((makeG data f).getD j []) → Q.getD j [] = (makeG data f).getD j [])
  sd : ∀ k, (D.getD k []).length ≤ 70000
  sq : ∀ j, (Q.getD j []).length ≤ 70000
theorem getD_set {α : Type} (l : List α) (i j : Nat) (x d : α) (hi : i < l.length) : (l.set i x).getD j d = if j = i then x else l.getD j d := by
  simp only [List.getD_eq_getElem?_getD, List.getElem?_set]
  by_cases h : i = j
  · subst h; simp [hi]
  · rw [if_neg h, if_neg (fun e => h e.symm)]
theorem getD_repl (n k : Nat) : (List.replicate n false).getD k false = false := by
  rw [List.getD_eq_getElem?_getD, List.getElem?_replicate]
  split <;> rfl
section
variable {data D Q : List (List G)} {f : Nat} {dm : List Bool} {rest : List Int}
theorem dm_start (data : List (List G)) (f : Nat) (gone : List Int) (hd : ∀ k, (data.getD k []).length ≤ 70000) (hp : ∀ j, ((makeG data f).getD j []).length ≤ 70000) :
    Dm data f (withoutG data gone 0) (withoutG (makeG data f) gone data.length) (List.replicate (data.length + f) false) gone := by
  have hw : ∀ (R : List (List G)) (first : Int), (∀ k, (R.getD k []).length ≤ 70000) → ∀ k, ((withoutG R gone first).getD k []).length ≤ 70000 := fun R first h k => by
    by_cases hk : k < R.length
    · rw [withoutG_getD _ _ _ _ hk]
      split
      · simp
      · exact h k
    · rw [getD_over [] _ _ (by rw [withoutG_length]; omega)]; simp
  refine ⟨withoutG_length _ _ _, by rw [withoutG_length, makeG_length], List.length_replicate, fun k hk hn => ?_, fun j hj hn => ?_, hw _ _ hd, hw _ _ hp⟩
  · have h : inL gone (0 + (k : Int)) ≠ true := by rw [Ne, inL_iff, Int.zero_add]; exact hn
    rw [withoutG_getD _ _ _ _ hk, if_neg h, getD_repl]
    exact ⟨by simp, fun _ => rfl⟩
  · have h : inL gone ((data.length : Int) + (j : Int)) ≠ true := by rw [Ne, inL_iff]; exact hn
    rw [withoutG_getD _ _ _ _ (by rw [makeG_length]; exact hj), if_neg h, getD_repl]
    exact ⟨by simp, fun _ => rfl⟩
theorem dm_stepD {k : Nat} (h : Dm data f D Q dm ((k : Int) :: rest)) {y : List G} (hk : k < data.length) (hy : y.length ≤ 70000) (ht : hashG y = hashG (data.getD k []) → y = data.getD k []) :
    Dm data f (D.set k y) Q (dm.set k (decide (y ≠ data.getD k []))) rest := by
  have h1 := h.ld
  have h2 := h.lm
  refine ⟨by rw [List.length_set]; exact h.ld, h.lq, by rw [List.length_set]; exact h.lm, fun i hi hn => ?_, fun j hj hn => ?_, fun i => ?_, h.sq⟩
  · rw [getD_set _ _ _ _ _ (by omega), getD_set _ _ _ _ _ (by omega)]
    by_cases e : i = k
    · subst e; rw [if_pos rfl, if_pos rfl]; exact ⟨rfl, ht⟩
    · rw [if_neg e, if_neg e]
      exact h.d i hi (fun h3 => (List.mem_cons.1 h3).elim (fun h3 => by omega) hn)
  · rw [getD_set _ _ _ _ _ (by omega), if_neg (by omega)]
    exact h.p j hj (fun h3 => (List.mem_cons.1 h3).elim (fun h3 => by omega) hn)
  · rw [getD_set _ _ _ _ _ (by omega)]
    split
    · exact hy
    · exact h.sd i
theorem dm_stepP {j : Nat} (h : Dm data f D Q dm (((data.length : Int) + (j : Int)) :: rest)) {y : List G} (hj : j < f) (hy : y.length ≤ 70000) (ht : hashG y = hashG ((makeG data f).getD j []) → y = (makeG data f).getD j []) :
    Dm data f D (Q.set j y) (dm.set (data.length + j) (decide (y ≠ (makeG data f).getD j []))) rest := by
  have h1 := h.lq
  have h2 := h.lm
  refine ⟨h.ld, by rw [List.length_set]; exact h.lq, by rw [List.length_set]; exact h.lm, fun i hi hn => ?_, fun i hi hn => ?_, h.sd, fun i => ?_⟩
  · rw [getD_set _ _ _ _ _ (by omega), if_neg (by omega)]
    exact h.d i hi (fun h3 => (List.mem_cons.1 h3).elim (fun h3 => by omega) hn)
  · rw [getD_set _ _ _ _ _ (by omega), getD_set _ _ _ _ _ (by omega)]
    by_cases e : i = j
    · subst e; rw [if_pos rfl, if_pos rfl]; exact ⟨rfl, ht⟩
    · rw [if_neg (by omega), if_neg e]
      exact h.p i hi (fun h3 => (List.mem_cons.1 h3).elim (fun h3 => by omega) hn)
  · rw [getD_set _ _ _ _ _ (by omega)]
    split
    · exact hy
    · exact h.sq i
theorem mem_small {D : List (List G)} (h : ∀ k, (D.getD k []).length ≤ 70000) (b : List G) (hb : b ∈ D) : b.length ≤ 70000 := by
  obtain ⟨i, hi, rfl⟩ := List.getElem_of_mem hb
  have := h i
  rwa [List.getD_eq_getElem?_getD, List.getElem?_eq_getElem hi, Option.getD_some] at this
theorem dm_scene (h : Dm data f D Q dm []) (h16 : data.length ≤ 16) (h4 : f ≤ 4) (hl : longG data ≤ 65536) : HScene data f D Q :=
  ⟨h16, h4, hl, h.ld, h.lq, fun b hb => by
    rw [List.mem_append] at hb
    rcases hb with hb | hb
    · exact mem_small h.sd b hb
    · exact mem_small h.sq b hb, fun i hi => (h.d i hi (by simp)).2, fun j hj => (h.p j hj (by simp)).2⟩
/-- the marked places below k -/
def wantTo (dm : List Bool) : Nat → List Int
  | 0 => []
  | k + 1 => if dm.getD k false = true then wantTo dm k ++ [(k : Int)] else wantTo dm k
theorem wantTo_le (dm : List Bool) (k : Nat) : (wantTo dm k).length ≤ k := by
  induction k with
  | zero => exact Nat.le_refl _
  | succ k ih =>
    unfold wantTo
    split
    · rw [List.length_append, List.length_singleton]; omega
    · omega
theorem bad_want (h w : List Nat) (dm : List Bool) (k : Nat) (hh : ∀ i, i < k → (dm.getD i false = true ↔ h.getD i 0 ≠ w.getD i 0)) : badTo h w k = wantTo dm k := by
  induction k with
  | zero => rfl
  | succ k ih =>
    have e := hh k (by omega)
    unfold badTo wantTo
    rw [ih (fun i hi => hh i (by omega))]
    by_cases h1 : h.getD k 0 = w.getD k 0
    · rw [if_pos h1, if_neg (fun h2 => e.1 h2 h1)]
    · rw [if_neg h1, if_pos (e.2 h1)]
theorem dm_inL (h : Dm data f D Q dm []) (S : HScene data f D Q) (i : Nat) (hi : i < data.length) : (inL (badG data f D Q) (i : Int) = true ↔ dm.getD i false = true) := by
  rw [badG_data S i hi, (h.d i hi (by simp)).1, decide_eq_true_iff]
theorem dm_inL2 (h : Dm data f D Q dm []) (S : HScene data f D Q) (j : Nat) (hj : j < f) : (inL (badG data f D Q) ((data.length : Int) + (j : Int)) = true ↔ dm.getD (data.length + j) false = true) := by
  rw [badG_par S j hj, (h.p j hj (by simp)).1, decide_eq_true_iff]
theorem dm_bad (h : Dm data f D Q dm []) (S : HScene data f D Q) : badG data f D Q = wantTo dm (data.length + f) := by
  unfold badG
  refine bad_want _ _ _ _ (fun i hi => ?_)
  by_cases hd : i < data.length
  · rw [hashesG_at _ _ _ (by rw [h.ld]; exact hd), hashesG_at _ _ _ hd, (h.d i hd (by simp)).1, decide_eq_true_iff]
    exact ⟨fun hne he => hne ((h.d i hd (by simp)).2 he), fun hne he => hne (by rw [he])⟩
  · obtain ⟨j, rfl⟩ : ∃ j, i = data.length + j := ⟨i - data.length, by omega⟩
    have hj : j < f := by omega
    have e1 := hashesG_at2 D Q j (by rw [h.lq]; exact hj)
    rw [h.ld] at e1
    rw [e1, hashesG_at2 _ _ _ (by rw [makeG_length]; exact hj), (h.p j hj (by simp)).1, decide_eq_true_iff]
    exact ⟨fun hne he => hne ((h.p j hj (by simp)).2 he), fun hne he => hne (by rw [he])⟩
/-- how many marked data blocks below k are not empty -/
def ldTo (dm : List Bool) (data : List (List G)) : Nat → Nat
  | 0 => 0
  | k + 1 => if dm.getD k false = true ∧ k < data.length ∧ 0 < (data.getD k []).length then ldTo dm data k + 1 else ldTo dm data k
/-- how many marked parity blocks below k are not empty -/
def lfTo (dm : List Bool) (n L : Nat) : Nat → Nat
  | 0 => 0
  | k + 1 => if dm.getD k false = true ∧ n ≤ k ∧ 0 < L then lfTo dm n L k + 1 else lfTo dm n L k
theorem ldTo_le (dm : List Bool) (data : List (List G)) (k : Nat) : ldTo dm data k ≤ k := by
  induction k with
  | zero => exact Nat.le_refl _
  | succ k ih => unfold ldTo; split <;> omega
theorem lfTo_le (dm : List Bool) (n L k : Nat) : lfTo dm n L k ≤ k - n := by
  induction k with
  | zero => exact Nat.zero_le _
  | succ k ih => unfold lfTo; split <;> omega
theorem ldTo_past (dm : List Bool) (data : List (List G)) (m : Nat) : ldTo dm data (data.length + m) = ldTo dm data data.length := by
  induction m with
  | zero => rfl
  | succ m ih =>
    rw [← Nat.add_assoc, ldTo, if_neg (by omega), ih]
theorem ldTo_filter (dm : List Bool) (data : List (List G)) (k : Nat) (h : k ≤ data.length) : ldTo dm data k = ((List.range k).filter fun i => decide (dm.getD i false = true ∧ 0 < (data.getD i []).length)).length := by
  induction k with
  | zero => rfl
  | succ k ih =>
    rw [List.range_succ, List.filter_append, List.length_append, ← ih (by omega), ldTo]
    by_cases h1 : dm.getD k false = true ∧ 0 < (data.getD k []).length
    · rw [if_pos ⟨h1.1, by omega, h1.2⟩, List.filter_cons_of_pos (by rw [decide_eq_true_iff]; exact h1)]; rfl
    · rw [if_neg (fun h2 => h1 ⟨h2.1, h2.2.2⟩), List.filter_cons_of_neg (by rw [decide_eq_true_iff]; exact h1)]; rfl
theorem lfTo_filter (dm : List Bool) (n L m : Nat) : lfTo dm n L (n + m) = ((List.range m).filter fun j => decide (dm.getD (n + j) false = true ∧ 0 < L)).length := by
  induction m with
  | zero =>
    have h : lfTo dm n L n = 0 := by have := lfTo_le dm n L n; omega
    exact h
  | succ m ih =>
    rw [List.range_succ, List.filter_append, List.length_append, ← ih, ← Nat.add_assoc, lfTo]
    by_cases h1 : dm.getD (n + m) false = true ∧ 0 < L
    · rw [if_pos ⟨h1.1, by omega, h1.2⟩, List.filter_cons_of_pos (by rw [decide_eq_true_iff]; exact h1)]; rfl
    · rw [if_neg (fun h2 => h1 ⟨h2.1, h2.2.2⟩), List.filter_cons_of_neg (by rw [decide_eq_true_iff]; exact h1)]; rfl
theorem dm_lost (h : Dm data f D Q dm []) (S : HScene data f D Q) : ldTo dm data (data.length + f) = lostCt data (badG data f D Q) := by
  rw [ldTo_past, ldTo_filter _ _ _ (Nat.le_refl _)]
  unfold lostCt lostN
  rw [withoutG_length]
  congr 1
  refine List.filter_congr (fun i hi => ?_)
  rw [List.mem_range] at hi
  rw [decide_eq_decide, lost_iff i hi, dm_inL h S i hi]
theorem dm_left (h : Dm data f D Q dm []) (S : HScene data f D Q) : lfTo dm data.length (longG data) (data.length + f) + leftCt data f (badG data f D Q) = f := by
  rw [lfTo_filter]
  unfold leftCt leftN
  rw [withoutG_length, makeG_length]
  have hs := filter_split (fun j => decide (dm.getD (data.length + j) false = true ∧ 0 < longG data)) (List.range f)
  rw [List.length_range] at hs
  have e : ((List.range f).filter fun j => decide (¬ goneAt (withoutG (makeG data f) (badG data f D Q) data.length) (lngTo (sizesG data) data.length) j)) = (List.range f).filter fun j => !decide (dm.getD (data.length + j) false = true ∧ 0 < longG data) := by
    refine List.filter_congr (fun j hj => ?_)
    rw [List.mem_range] at hj
    rw [← decide_not, decide_eq_decide, gone_iff j hj, dm_inL2 h S j hj]
  rw [e]
  exact hs
end
end Go.Proofs.Ytiggohkkokalcaa
