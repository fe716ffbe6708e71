/- A row of the call's own whose rows may lie anywhere but in itself; what check's OK says; what Repair answers. -/
import Derived.Test.YtiggohkkokalcaaRepPlain
namespace Go.Proofs.Ytiggohkkokalcaa
open Go.RowKit Go.Proofs.YtiggohkkokalcaaW.PrintWords Go.Proofs.YtiggohkkokalcaaW.PrintMore
set_option linter.unusedVariables false
set_option linter.unusedSimpArgs false

def encS (s : Option Addr × Nat × Nat) : Value := .slice s.1 s.2.1 s.2.2
def KSl : Kd (Option Addr × Nat × Nat) := Kd.scalar encS (fun _ => rfl)

structure Outs (w : World) (B n : Nat) (v : Value) (vs : List Value) (R : List (List G)) : Prop where
  own : w.ownsRow B 33 1 v n vs
  lv : vs.length = n
  lr : R.length = n
  row : ∀ r, r < n → Vb w (fun k => some k ≠ v.ownBlock) (vat vs r) (rat R r)
theorem Outs.made {w : World} {B n : Nat} {v : Value} {ok : Nat → Prop} (h : KSl.R 33 w B ok v (List.replicate n (none, 0, 0))) : Outs w B n v (List.replicate n nilS) (List.replicate n []) := by
  have ho := Kd.own_of_R h
  rw [List.length_replicate] at ho
  have e : encs encS (List.replicate n (none, 0, 0)) = List.replicate n nilS := by simp [encs, encS, nilS]
  rw [e] at ho
  refine ⟨ho, by simp, by simp, fun r hr => ?_⟩
  have e1 : vat (List.replicate n nilS) r = nilS := by unfold vat; simp [List.getD_eq_getElem?_getD, List.getElem?_replicate, hr]
  have e2 : rat (List.replicate n []) r = ([] : List G) := by unfold rat; simp [List.getD_eq_getElem?_getD, List.getElem?_replicate, hr]
  rw [e1, e2]
  exact Kd.V_nil _ _ _ _ _
theorem Outs.below {w w1 : World} {B n : Nat} {v : Value} {vs : List Value} {R : List (List G)} (h : Outs w B n v vs R) (hb : Below w.heap.size w w1) : Outs w1 B n v vs R :=
  ⟨pw_own_below h.own hb, h.lv, h.lr, fun r hr => Kd.V_below (h.row r hr) hb⟩
theorem Outs.drewN {w : World} {B n : Nat} {v : Value} {vs : List Value} {R : List (List G)} (h : Outs w B n v vs R) (k : Nat) : Outs (w.drewN k) B n v vs R := h.below (below_drewN (Below.refl _ _) k)
theorem Outs.drew {w : World} {B n : Nat} {v : Value} {vs : List Value} {R : List (List G)} (h : Outs w B n v vs R) : Outs w.drew B n v vs R := h.drewN 1
theorem Outs.form {w : World} {B n : Nat} {v : Value} {vs : List Value} {R : List (List G)} (h : Outs w B n v vs R) (hn : 0 < n) : ∃ g cap, v = .slice (some ⟨g, 0, none⟩) n cap ∧ B ≤ g ∧ g < w.heap.size := World.ownsRow.form h.own hn
theorem Outs.slice {w : World} {B n : Nat} {v : Value} {vs : List Value} {R : List (List G)} (h : Outs w B n v vs R) : ∃ A c, v = .slice A n c := own_slice h.own
theorem Outs.cell {w : World} {B n g cap : Nat} {vs : List Value} {R : List (List G)} (h : Outs w B n (.slice (some ⟨g, 0, none⟩) n cap) vs R) (r : Nat) (hr : r < n) : w.cell? ⟨g, r, none⟩ = some (vat vs r) ∧ w.frozen? ⟨g, r, none⟩ = false := by
  refine ⟨?_, h.own.frozenAt r⟩
  rw [h.own.cellAt r (by omega)]
  unfold vat
  rw [List.getD_eq_getElem?_getD]
  have : r < vs.length := by rw [h.lv]; exact hr
  rw [List.getElem?_eq_getElem this]; rfl
theorem Outs.lt {w : World} {B n : Nat} {v : Value} {vs : List Value} {R : List (List G)} (h : Outs w B n v vs R) : ∀ k, v.ownBlock = some k → B ≤ k ∧ k < w.heap.size := fun k hk => World.ownsRow.lt h.own k hk
/-- a row is stored -/
theorem Outs.stored {w : World} {B n g cap i : Nat} {vs : List Value} {R : List (List G)} {u : Value} {x : List G} (h : Outs w B n (.slice (some ⟨g, 0, none⟩) n cap) vs R) (hi : i < n) (hu : Vb w (fun k => some k ≠ some g) u x) :
    Outs (w.setCell ⟨g, i, none⟩ u) B n (.slice (some ⟨g, 0, none⟩) n cap) (vs.set i u) (R.set i x) ∧ w.grownBy (w.setCell ⟨g, i, none⟩ u) (some g) := by
  obtain ⟨o1, g1⟩ := h.own.stored i u
  have hlv := h.lv
  have hlr := h.lr
  refine ⟨⟨o1, by rw [List.length_set]; exact hlv, by rw [List.length_set]; exact hlr, fun r hr => ?_⟩, g1⟩
  rw [vat_set _ _ _ _ (by omega), rat_set _ _ _ _ (by omega)]
  by_cases e : r = i
  · rw [if_pos e, if_pos e]
    exact Kd.V_grown hu g1 (fun k hk => hk)
  · rw [if_neg e, if_neg e]
    exact Kd.V_grown (h.row r hr) g1 (fun k hk => hk)
/-- it reads the rows -/
theorem Outs.V {w : World} {B n : Nat} {v : Value} {vs : List Value} {R : List (List G)} (h : Outs w B n v vs R) (hmx : n ≤ 70000) : Vbb w (fun _ => True) v R := by
  have hlr := h.lr
  have hlv := h.lv
  rcases Nat.eq_zero_or_pos n with hn | hn
  · subst hn
    have : R = [] := List.eq_nil_of_length_eq_zero hlr
    subst this
    have h0 : KGs.R 33 w B (fun _ => True) v [] := ⟨fun _ _ => trivial, [], by have : vs = [] := List.eq_nil_of_length_eq_zero hlv; rw [this] at h; exact h.own, ⟨rfl, fun j x hx => by simp at hx⟩⟩
    exact Kd.R_V h0
  · obtain ⟨g, cap, rfl, hg1, hg2⟩ := h.form hn
    have hcap : n ≤ cap := own_cap h.own
    subst hlr
    refine V_of_cells (d := KGs) hcap (by omega) trivial (fun j x hx => ?_)
    have hj : j < R.length := (List.getElem?_eq_some_iff.1 hx).1
    have hr := h.row j hj
    have hxe : rat R j = x := by unfold rat; rw [List.getD_eq_getElem?_getD, hx]; rfl
    rw [hxe] at hr
    refine ⟨[vat vs j], rfl, ?_, fun i u hu => ?_⟩
    · obtain ⟨A, c, he, hc, hf⟩ := Kd.V_mono hr (fun _ _ => trivial : ∀ k, _ → True)
      rw [he]
      exact Kd.FK_slice_mk hc hf
    · match i with
      | 0 =>
        simp only [List.getElem?_cons_zero, Option.some.injEq] at hu
        subst hu
        have hc := (h.cell j hj).1
        show w.cell? ((⟨g, 0, none⟩ : Addr).add (j * 1 + 0)) = _
        rw [add_plain]
        simpa using hc
      | i + 1 => simp at hu

/-- what check's OK says -/
structure ChkOK (bss pss : List (List G)) (xs : List Int) : Prop where
  h16 : bss.length ≤ 16
  h4 : pss.length ≤ 4
  hx : xs.length = bss.length
  size : ∀ i, i < bss.length → 0 ≤ xs.getD i 0 ∧ xs.getD i 0 ≤ 65536
  fit : ∀ i, i < bss.length → ¬ badAt bss xs i
  fitP : ∀ j, j < pss.length → ¬ badP pss (lngTo xs bss.length) j
  few : (lostN bss xs).length ≤ (leftN pss (lngTo xs bss.length)).length
theorem lostTo_lostN (bss : List (List G)) (xs : List Int) : lostTo bss xs bss.length = (lostN bss xs).map (fun i : Nat => (i : Int)) := lostTo_eq _ _ _
theorem leftTo_leftN (pss : List (List G)) (l : Int) : leftTo pss l pss.length = (leftN pss l).map (fun i : Nat => (i : Int)) := leftTo_eq _ _ _
theorem chk_iff (bss pss : List (List G)) (xs : List Int) : chkErr bss pss xs = 0 ↔ ChkOK bss pss xs := by
  unfold chkErr
  rw [lostTo_lostN, leftTo_leftN, List.length_map, List.length_map]
  by_cases h1 : 16 < bss.length ∨ 4 < pss.length
  · rw [if_pos h1]
    exact ⟨fun h => absurd h (by decide), fun h => absurd h1 (by have := h.h16; have := h.h4; omega)⟩
  · rw [if_neg h1]
    by_cases h2 : xs.length ≠ bss.length ∨ xs.any badSize = true
    · rw [if_pos h2]
      refine ⟨fun h => absurd h (by decide), fun h => ?_⟩
      rcases h2 with h2 | h2
      · exact absurd h.hx h2
      · rw [List.any_eq_true] at h2
        obtain ⟨x, hx, hb⟩ := h2
        obtain ⟨i, hi, rfl⟩ := List.getElem_of_mem hx
        have := h.size i (by rw [← h.hx]; exact hi)
        rw [List.getD_eq_getElem?_getD, List.getElem?_eq_getElem hi, Option.getD_some] at this
        unfold badSize at hb
        rw [decide_eq_true_iff] at hb
        omega
    · rw [if_neg h2]
      have hx : xs.length = bss.length := Classical.byContradiction fun h => h2 (.inl h)
      have hs : ∀ i, i < bss.length → 0 ≤ xs.getD i 0 ∧ xs.getD i 0 ≤ 65536 := fun i hi => by
        have hi2 : i < xs.length := by omega
        have hb : ¬ badSize (xs[i]) = true := fun h => h2 (.inr (List.any_eq_true.2 ⟨_, List.getElem_mem hi2, h⟩))
        rw [List.getD_eq_getElem?_getD, List.getElem?_eq_getElem hi2, Option.getD_some]
        unfold badSize at hb
        rw [decide_eq_true_iff] at hb
        omega
      by_cases h3 : (∃ i, i < bss.length ∧ badAt bss xs i) ∨ (∃ j, j < pss.length ∧ badP pss (lngTo xs bss.length) j)
      · rw [if_pos h3]
        refine ⟨fun h => absurd h (by decide), fun h => ?_⟩
        rcases h3 with ⟨i, hi, hb⟩ | ⟨j, hj, hb⟩
        · exact absurd hb (h.fit i hi)
        · exact absurd hb (h.fitP j hj)
      · rw [if_neg h3]
        by_cases h5 : (leftN pss (lngTo xs bss.length)).length < (lostN bss xs).length
        · rw [if_pos h5]
          exact ⟨fun h => absurd h (by decide), fun h => absurd h5 (by have := h.few; omega)⟩
        · rw [if_neg h5]
          exact ⟨fun _ => ⟨by omega, by omega, hx, hs, fun i hi hb => h3 (.inl ⟨i, hi, hb⟩), fun j hj hb => h3 (.inr ⟨j, hj, hb⟩), by omega⟩, fun _ => rfl⟩
theorem lngTo_nonneg (xs : List Int) (k : Nat) : 0 ≤ lngTo xs k := by
  induction k with
  | zero => exact Int.le_refl _
  | succ k ih => unfold lngTo; omega
theorem lngTo_ge (xs : List Int) (k i : Nat) (h : i < k) : xs.getD i 0 ≤ lngTo xs k := by
  induction k with
  | zero => omega
  | succ k ih =>
    unfold lngTo
    by_cases e : i = k
    · subst e; omega
    · have := ih (by omega); omega
theorem lngTo_le (xs : List Int) (k : Nat) (h : ∀ i, i < k → xs.getD i 0 ≤ 65536) : lngTo xs k ≤ 65536 := by
  induction k with
  | zero => unfold lngTo; omega
  | succ k ih =>
    unfold lngTo
    have := ih (fun i hi => h i (by omega))
    have := h k (by omega)
    omega
/-- the length of the parity blocks -/
def lngN (bss : List (List G)) (xs : List Int) : Nat := (lngTo xs bss.length).toNat
theorem ChkOK.lng {bss pss : List (List G)} {xs : List Int} (h : ChkOK bss pss xs) : lngTo xs bss.length = (lngN bss xs : Int) ∧ lngN bss xs ≤ 65536 := by
  have h1 := lngTo_nonneg xs bss.length
  have h2 := lngTo_le xs bss.length (fun i hi => (h.size i hi).2)
  unfold lngN
  omega
theorem ChkOK.sizeN {bss pss : List (List G)} {xs : List Int} (h : ChkOK bss pss xs) (i : Nat) (hi : i < bss.length) : xs.getD i 0 = ((xs.getD i 0).toNat : Int) ∧ (xs.getD i 0).toNat ≤ lngN bss xs := by
  have h1 := h.size i hi
  have h2 := lngTo_ge xs bss.length i hi
  have h3 := h.lng
  omega
theorem ChkOK.data {bss pss : List (List G)} {xs : List Int} (h : ChkOK bss pss xs) (i : Nat) : (bss.getD i []).length ≤ lngN bss xs := by
  by_cases hi : i < bss.length
  · have h1 := h.fit i hi
    have h2 := h.sizeN i hi
    by_cases hl : lostAt bss xs i
    · rw [hl.1]; omega
    · have : ((bss.getD i []).length : Int) = xs.getD i 0 := Classical.byContradiction fun hne => h1 ⟨hl, hne⟩
      omega
  · rw [List.getD_eq_getElem?_getD, List.getElem?_eq_none (by omega)]; simp
theorem ChkOK.left {bss pss : List (List G)} {xs : List Int} (h : ChkOK bss pss xs) {c : Nat} (hc : c < (leftN pss (lngTo xs bss.length)).length) : (pss.getD ((leftN pss (lngTo xs bss.length)).getD c 0) []).length = lngN bss xs := by
  have h1 := leftN_at hc
  have h2 := h.fitP _ h1.1
  have h3 : ((pss.getD ((leftN pss (lngTo xs bss.length)).getD c 0) []).length : Int) = lngTo xs bss.length := Classical.byContradiction fun hne => h2 ⟨h1.2, hne⟩
  have := h.lng
  omega

/-! what Repair answers -/
/-- X solves the system of the parity blocks that are left -/
def Sols (bss pss : List (List G)) (xs : List Int) (X : List (List G)) : Prop :=
  X.length = (lostN bss xs).length ∧ (∀ c, c < (lostN bss xs).length → (X.getD c []).length = lngN bss xs) ∧
  ∀ p, p < lngN bss xs → Sol (lostN bss xs).length (at2 (rowsG (lostN bss xs) (leftN pss (lngTo xs bss.length)) (lostN bss xs).length)) (fun r => at2 (blksG bss pss (leftN pss (lngTo xs bss.length)) (lostN bss xs).length) r p) (fun c => at2 X c p)
def sizeAt (xs : List Int) (lost : List Nat) (c : Nat) : Nat := (xs.getD (lost.getD c 0) 0).toNat
def outTo (bss : List (List G)) (xs : List Int) (X : List (List G)) (lost : List Nat) : Nat → List (List G)
  | 0 => bss
  | r + 1 => (outTo bss xs X lost r).set (lost.getD r 0) ((X.getD r []).take (sizeAt xs lost r))
def outG (bss : List (List G)) (xs : List Int) (X : List (List G)) : List (List G) := outTo bss xs X (lostN bss xs) (lostN bss xs).length
def TailBad (bss : List (List G)) (xs : List Int) (X : List (List G)) : Prop := ∃ c, c < (lostN bss xs).length ∧ notZero ((X.getD c []).drop (sizeAt xs (lostN bss xs) c)) = true
def SumBad (bss pss : List (List G)) (xs : List Int) (X : List (List G)) : Prop := ∃ c, c < (leftN pss (lngTo xs bss.length)).length ∧ (makeG (outG bss xs X) pss.length).getD ((leftN pss (lngTo xs bss.length)).getD c 0) [] ≠ pss.getD ((leftN pss (lngTo xs bss.length)).getD c 0) []
def RepPost (bss pss : List (List G)) (xs : List Int) (w : World) (e : Ending) (w' : World) : Prop :=
  Below w.heap.size w w' ∧ (chkErr bss pss xs ≠ 0 → e = .returned (.tuple #[.slice none 0 0, .slice none 0 0, .int .i64 (chkErr bss pss xs)])) ∧
  (chkErr bss pss xs = 0 → ∃ X, Sols bss pss xs X ∧ ((TailBad bss xs X ∨ SumBad bss pss xs X) → e = .returned (.tuple #[.slice none 0 0, .slice none 0 0, .int .i64 18])) ∧
    (¬ (TailBad bss xs X ∨ SumBad bss pss xs X) → ∃ va vp, e = .returned (.tuple #[va, vp, .int .i64 0]) ∧ Vbb w' (fun _ => True) va (outG bss xs X) ∧ Vbb w' (fun _ => True) vp (makeG (outG bss xs X) pss.length)))
end Go.Proofs.Ytiggohkkokalcaa
