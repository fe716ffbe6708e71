/- Package parity's Repair in plain lists: which blocks are lost, the system of equations; appends to a matrix. -/
import Derived.Test.YtiggohkkokalcaaChkPlain
namespace Go.Proofs.Ytiggohkkokalcaa
open Go.RowKit Go.Proofs.YtiggohkkokalcaaW.PrintWords Go.Proofs.YtiggohkkokalcaaW.PrintMore
set_option linter.unusedVariables false
set_option linter.unusedSimpArgs false

theorem vat_snoc (vs : List Value) (u : Value) (r : Nat) (hr : r < vs.length) : vat (vs ++ [u]) r = vat vs r := by
  unfold vat; rw [List.getD_eq_getElem?_getD, List.getElem?_append_left hr, List.getD_eq_getElem?_getD]
theorem vat_last (vs : List Value) (u : Value) : vat (vs ++ [u]) vs.length = u := by
  unfold vat; simp [List.getD_eq_getElem?_getD]
theorem rat_snoc (vs : List (List G)) (u : List G) (r : Nat) (hr : r < vs.length) : rat (vs ++ [u]) r = rat vs r := by
  unfold rat; rw [List.getD_eq_getElem?_getD, List.getElem?_append_left hr, List.getD_eq_getElem?_getD]
theorem rat_last (vs : List (List G)) (u : List G) : rat (vs ++ [u]) vs.length = u := by
  unfold rat; simp [List.getD_eq_getElem?_getD]
theorem Mat.nil (w : World) (B : Nat) : Mat w B 0 (.slice none 0 0) [] [] := ⟨World.ownsRow_nil _ _ _ _, rfl, rfl, fun r hr => absurd hr (Nat.not_lt_zero _), fun r s hr => absurd hr (Nat.not_lt_zero _)⟩
section
variable {ops : Array Oper} {rest : List Oper} {o : Oper} {a : Act} {Q : Exit → Act → World → Prop}
/-- append(v, u): a row, to a matrix -/
theorem app_mat {w0 W : World} (B n : Nat) (hgd : o.guard = none) (s x : Operand) (ho : o.op = .call { callee := .builtin .append, args := #[s, x], argTypes := #[30, 30] })
    (v u : Value) (vs : List Value) (R : List (List G)) (y : List G) (hs : a.eval s = v) (hx : a.eval x = .slice (some ⟨W.heap.size, 0, none⟩) 1 1) (HM : Mat W B n v vs R) (HU : OwnB W B u y) (hap : ∀ r, r < n → Ap2 (vat vs r) u)
    (HB : Below B w0 W) (hbase : B ≤ W.heap.size) (hl : n ≤ 70000)
    (h : ∀ v1 w1, Mat w1 B (n + 1) v1 (vs ++ [u]) (R ++ [y]) → Below B w0 w1 → W.grownBy w1 v.ownBlock → (v1.ownBlock = v.ownBlock ∨ ∃ b, v1.ownBlock = some b ∧ W.heap.size ≤ b) → wpList Try.prog ops Q rest (a.put o.dst v1) w1) :
    wpList Try.prog ops Q (o :: rest) a (W.alloc (.cells #[u] 33)) := by
  have h1u : u.oneCell' = true := by
    obtain ⟨A, c, rfl, _⟩ := V_open HU.V
    rfl
  refine print_append_cells B hgd s x 30 33 (.slice none 0 0) 1 24 ho Try.underlying30 info33 rfl (by decide) (by omega) v n vs [u] hs hx rfl (fun z hz => by rw [List.mem_singleton] at hz; subst hz; exact h1u) HM.own HB hbase (by omega) ?_
  intro v1 w1 h1 h2 h3 h4
  have hlv := HM.lv
  have hlr := HM.lr
  refine h v1 w1 ⟨h1, by simp [hlv], by simp [hlr], fun r hr => ?_, fun r q hr hq hne => ?_⟩ h2 h3 h4
  · by_cases e : r = n
    · subst e
      have e1 : vat (vs ++ [u]) r = u := by rw [← hlv]; exact vat_last _ _
      have e2 : rat (R ++ [y]) r = y := by rw [← hlr]; exact rat_last _ _
      rw [e1, e2]
      exact HU.grown h3 (Ap2.symm (HM.outer HU))
    · rw [vat_snoc _ _ _ (by omega), rat_snoc _ _ _ (by omega)]
      exact (HM.row r (by omega)).grown h3 (Ap2.symm (HM.outer (HM.row r (by omega))))
  · by_cases e : r = n
    · subst e
      have e1 : vat (vs ++ [u]) r = u := by rw [← hlv]; exact vat_last _ _
      rw [e1, vat_snoc _ _ _ (by omega)]
      exact (hap q (by omega)).symm
    · rw [vat_snoc _ _ r (by omega)]
      by_cases e2 : q = n
      · subst e2
        have e1 : vat (vs ++ [u]) q = u := by rw [← hlv]; exact vat_last _ _
        rw [e1]
        exact hap r (by omega)
      · rw [vat_snoc _ _ q (by omega)]
        exact HM.ap r q (by omega) (by omega) hne
end
/-- a fresh row lies apart from an elder one -/
theorem Ap2_fresh {u v : Value} {m : Nat} (hu : ∀ k, u.ownBlock = some k → m ≤ k) (hv : ∀ k, v.ownBlock = some k → k < m) : Ap2 u v := by
  cases h : u.ownBlock
  · exact .inl h
  · rename_i k
    refine .inr (fun he => ?_)
    have h1 := hu k h
    have h2 := hv k (by rw [← he, h])
    omega

def lostN (bss : List (List G)) (xs : List Int) : List Nat := (List.range bss.length).filter fun i => decide (lostAt bss xs i)
def leftN (pss : List (List G)) (l : Int) : List Nat := (List.range pss.length).filter fun i => decide (¬ goneAt pss l i)
theorem lostTo_eq (bss : List (List G)) (xs : List Int) (k : Nat) : lostTo bss xs k = ((List.range k).filter fun i => decide (lostAt bss xs i)).map (fun i : Nat => (i : Int)) := by
  induction k with
  | zero => rfl
  | succ k ih =>
    unfold lostTo
    rw [List.range_succ, List.filter_append, List.map_append, ih]
    by_cases h : lostAt bss xs k
    · rw [if_pos h]; simp [h]
    · rw [if_neg h]; simp [h]
theorem leftTo_eq (pss : List (List G)) (l : Int) (k : Nat) : leftTo pss l k = ((List.range k).filter fun i => decide (¬ goneAt pss l i)).map (fun i : Nat => (i : Int)) := by
  induction k with
  | zero => rfl
  | succ k ih =>
    unfold leftTo
    rw [List.range_succ, List.filter_append, List.map_append, ih]
    by_cases h : goneAt pss l k
    · rw [if_pos h]; simp [h]
    · rw [if_neg h]; simp [h]
theorem getD_cast (l : List Nat) (c : Nat) : (l.map (fun i : Nat => (i : Int))).getD c 0 = ((l.getD c 0 : Nat) : Int) := by
  simp only [List.getD_eq_getElem?_getD, List.getElem?_map]
  cases l[c]? <;> rfl
theorem mem_getD {l : List Nat} {c : Nat} (h : c < l.length) : l.getD c 0 ∈ l := by
  rw [List.getD_eq_getElem?_getD, List.getElem?_eq_getElem h]; exact List.getElem_mem h
theorem lostN_at {bss : List (List G)} {xs : List Int} {c : Nat} (h : c < (lostN bss xs).length) : (lostN bss xs).getD c 0 < bss.length ∧ lostAt bss xs ((lostN bss xs).getD c 0) := by
  have := mem_getD h
  unfold lostN at this ⊢
  rw [List.mem_filter, List.mem_range, decide_eq_true_iff] at this
  exact this
theorem leftN_at {pss : List (List G)} {l : Int} {c : Nat} (h : c < (leftN pss l).length) : (leftN pss l).getD c 0 < pss.length ∧ ¬ goneAt pss l ((leftN pss l).getD c 0) := by
  have := mem_getD h
  unfold leftN at this ⊢
  rw [List.mem_filter, List.mem_range, decide_eq_true_iff] at this
  exact this
theorem sorted_ne {l : List Nat} (h : l.Pairwise (· < ·)) {i j : Nat} (hi : i < l.length) (hj : j < l.length) (hne : i ≠ j) : l.getD i 0 ≠ l.getD j 0 := by
  rw [List.getD_eq_getElem?_getD, List.getElem?_eq_getElem hi, List.getD_eq_getElem?_getD, List.getElem?_eq_getElem hj]
  rw [List.pairwise_iff_getElem] at h
  rcases Nat.lt_or_gt_of_ne hne with h1 | h1
  · have := h i j hi hj h1
    simp only [Option.getD_some]; omega
  · have := h j i hj hi h1
    simp only [Option.getD_some]; omega
theorem lostN_sorted (bss : List (List G)) (xs : List Int) : (lostN bss xs).Pairwise (· < ·) := List.Pairwise.filter _ List.pairwise_lt_range
theorem leftN_sorted (pss : List (List G)) (l : Int) : (leftN pss l).Pairwise (· < ·) := List.Pairwise.filter _ List.pairwise_lt_range
theorem lostN_length (bss : List (List G)) (xs : List Int) : (lostN bss xs).length ≤ bss.length := by
  have := List.length_filter_le (fun i => decide (lostAt bss xs i)) (List.range bss.length)
  rwa [List.length_range] at this
theorem leftN_length (pss : List (List G)) (l : Int) : (leftN pss l).length ≤ pss.length := by
  have := List.length_filter_le (fun i => decide (¬ goneAt pss l i)) (List.range pss.length)
  rwa [List.length_range] at this

/-! the system -/
def rowG (lost : List Nat) (j : Nat) : List G := lost.map fun i => fG j i
def blkG (bss pss : List (List G)) (j : Nat) : List G := sumG (fun i => fG j i) bss (pss.getD j [])
def rowsG (lost left : List Nat) (r : Nat) : List (List G) := (left.take r).map (rowG lost)
def blksG (bss pss : List (List G)) (left : List Nat) (r : Nat) : List (List G) := (left.take r).map (blkG bss pss)
theorem take_snoc (l : List Nat) (r : Nat) (h : r < l.length) : l.take (r + 1) = l.take r ++ [l.getD r 0] := by
  rw [List.take_add_one, List.getElem?_eq_getElem h, List.getD_eq_getElem?_getD, List.getElem?_eq_getElem h]; rfl
theorem rowsG_succ (lost left : List Nat) (r : Nat) (h : r < left.length) : rowsG lost left (r + 1) = rowsG lost left r ++ [rowG lost (left.getD r 0)] := by
  unfold rowsG; rw [take_snoc _ _ h, List.map_append]; rfl
theorem blksG_succ (bss pss : List (List G)) (left : List Nat) (r : Nat) (h : r < left.length) : blksG bss pss left (r + 1) = blksG bss pss left r ++ [blkG bss pss (left.getD r 0)] := by
  unfold blksG; rw [take_snoc _ _ h, List.map_append]; rfl
theorem map_take_getD {β : Type} (f : Nat → List β) (l : List Nat) (r c : Nat) (hr : r ≤ l.length) (hc : c < r) : ((l.take r).map f).getD c [] = f (l.getD c 0) := by
  have h1 : c < (l.take r).length := by rw [List.length_take]; omega
  rw [List.getD_eq_getElem?_getD, List.getElem?_map, List.getElem?_eq_getElem h1, List.getElem_take, List.getD_eq_getElem?_getD, List.getElem?_eq_getElem (by omega)]
  rfl
theorem rowsG_getD (lost left : List Nat) (r c : Nat) (hr : r ≤ left.length) (hc : c < r) : (rowsG lost left r).getD c [] = rowG lost (left.getD c 0) := map_take_getD _ _ _ _ hr hc
theorem blksG_getD (bss pss : List (List G)) (left : List Nat) (r c : Nat) (hr : r ≤ left.length) (hc : c < r) : (blksG bss pss left r).getD c [] = blkG bss pss (left.getD c 0) := map_take_getD _ _ _ _ hr hc
theorem rowG_getD (lost : List Nat) (j c : Nat) (hc : c < lost.length) : (rowG lost j).getD c 0 = fG j (lost.getD c 0) := by
  unfold rowG
  rw [List.getD_eq_getElem?_getD, List.getElem?_map, List.getElem?_eq_getElem hc, List.getD_eq_getElem?_getD, List.getElem?_eq_getElem hc]; rfl
theorem ofNat_ne {a b : Nat} (ha : a < 256) (hb : b < 256) (h : a ≠ b) : (BitVec.ofNat 8 a : G) ≠ BitVec.ofNat 8 b := fun he => by
  have := congrArg BitVec.toNat he
  rw [BitVec.toNat_ofNat, BitVec.toNat_ofNat, Nat.mod_eq_of_lt ha, Nat.mod_eq_of_lt hb] at this
  exact h this
theorem fG_eq (j i : Nat) : fG j i = ginv (BitVec.ofNat 8 j ^^^ BitVec.ofNat 8 (4 + i)) := by
  unfold fG cG
  rw [BitVec.ofNat_xor]
/-- the factors are those of a Cauchy matrix -/
theorem rows_inj (lost left : List Nat) (hlo : lost.Pairwise (· < ·)) (hle : left.Pairwise (· < ·)) (h16 : ∀ c, c < lost.length → lost.getD c 0 < 16) (h4 : ∀ c, c < left.length → left.getD c 0 < 4) (hk : lost.length ≤ left.length) :
    Inj lost.length (at2 (rowsG lost left lost.length)) := by
  have h := cauchy lost.length (fun r => BitVec.ofNat 8 (left.getD r 0)) (fun c => BitVec.ofNat 8 (4 + lost.getD c 0))
    (fun i j hi hj hne => ofNat_ne (by have := h4 i (by omega); omega) (by have := h4 j (by omega); omega) (sorted_ne hle (by omega) (by omega) hne))
    (fun i j hi hj hne => ofNat_ne (by have := h16 i hi; omega) (by have := h16 j hj; omega) (by have := sorted_ne hlo hi hj hne; omega))
    (fun i j hi hj => ofNat_ne (by have := h4 i (by omega); omega) (by have := h16 j hj; omega) (by have := h4 i (by omega); omega))
  have e : ∀ r c, r < lost.length → c < lost.length → at2 (rowsG lost left lost.length) r c = ginv (BitVec.ofNat 8 (left.getD r 0) ^^^ BitVec.ofNat 8 (4 + lost.getD c 0)) := fun r c hr hc => by
    unfold at2
    rw [rowsG_getD _ _ _ _ hk hr, rowG_getD _ _ _ hc, fG_eq]
  intro x hx c hc
  refine h x (fun r hr => ?_) c hc
  rw [← hx r hr]
  exact lin_congr (fun c hc => (e r c hr hc).symm)
end Go.Proofs.Ytiggohkkokalcaa
