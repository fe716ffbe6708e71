/- Linear systems with the right side as a further column, as the reference's Solve turns them. -/
import Derived.Test.YtiggohkkokalcaaSteps
namespace Go.Proofs.Ytiggohkkokalcaa
set_option linter.unusedVariables false

/-- M is the system A x = b, turned; its last column is the right side -/
structure Aug (n : Nat) (A : Nat → Nat → G) (b : Nat → G) (M : List (List G)) : Prop where
  lr : M.length = n
  wr : ∀ r, r < n → (M.getD r []).length = n + 1
  ker : ∀ x, Sol n A (fun _ => 0) x ↔ Sol n (at2 M) (fun _ => 0) x
  sol : ∀ x, Sol n A b x ↔ Sol n (at2 M) (fun r => at2 M r n) x
section
variable {n i k p : Nat} {A : Nat → Nat → G} {b : Nat → G} {M : List (List G)}
theorem Aug.step {M2 : List (List G)} (h : Aug n A b M) {T : (Nat → G) → Nat → G} (hT : RowOp n T) (l1 : M2.length = n) (l2 : ∀ r, r < n → (M2.getD r []).length = n + 1)
    (hM : ∀ r, r < n → ∀ c, c < n + 1 → at2 M2 r c = T (fun q => at2 M q c) r) : Aug n A b M2 :=
  ⟨l1, l2, fun x => (h.ker x).trans (sol_op hT (fun r hr c hc => hM r hr c (by omega)) (fun r _ => (hT.zero r).symm) x),
    fun x => (h.sol x).trans (sol_op hT (fun r hr c hc => hM r hr c (by omega)) (fun r hr => hM r hr n (by omega)) x)⟩
theorem Aug.row (h : Aug n A b M) {r : Nat} (hr : r < n) : (rat M r).length = n + 1 := h.wr r hr
theorem Aug.swap (h : Aug n A b M) (hi : i < n) (hp : p < n) : Aug n A b (swapAt [] M i p) := by
  have l1 := h.lr
  refine h.step (rowSwap hi hp) (by rw [swapAt_length]; exact l1) (fun r hr => ?_) (fun r hr c _ => at2_swap l1 hi hp r c)
  rw [swapAt_getD _ _ _ _ _ (by omega) (by omega)]; exact h.wr _ (sw_lt hi hp hr)
theorem set_wr {x : List G} (h : Aug n A b M) (hi : i < n) (hx : x.length = n + 1) (r : Nat) (hr : r < n) : ((M.set i x).getD r []).length = n + 1 := by
  have l1 := h.lr
  have := rat_set M i r x (by omega)
  unfold rat at this
  rw [this]
  split
  · exact hx
  · exact h.wr r hr
theorem Aug.scale (h : Aug n A b M) (hi : i < n) {a : G} (ha : a ≠ 0) : Aug n A b (M.set i (scaleG a (rat M i))) := by
  have l1 := h.lr
  exact h.step (rowScale hi ha) (by rw [List.length_set]; exact l1) (set_wr h hi (by rw [scaleG_length]; exact h.row hi)) (fun r hr c _ => at2_scale l1 hi a r c)
theorem Aug.add (h : Aug n A b M) (hi : i < n) (hk : k < n) (hne : k ≠ i) (a : G) : Aug n A b (M.set k (sumG (fun _ => a) [rat M i] (rat M k))) := by
  have l1 := h.lr
  exact h.step (rowAdd (c := a) hk hi hne) (by rw [List.length_set]; exact l1) (set_wr h hk (by rw [sumG_length]; exact h.row hk)) (fun r hr c hc => at2_add l1 hk a r c (by rw [h.row hk]; exact hc))
/-- the pivot -/
theorem Aug.pivot (hI : Inj n A) (h : Aug n A b M) (hu : UnitTo n i M) (hi : i < n) : ∃ p, i ≤ p ∧ p < n ∧ at2 M p i ≠ 0 := by
  have l1 := h.lr
  have hat : ∀ r c, r < n → c < n → at2 (M.map (List.take n)) r c = at2 M r c := fun r c hr hc => by
    unfold at2
    have e : (M.map (List.take n)).getD r [] = (M.getD r []).take n := by
      rw [List.getD_eq_getElem?_getD, List.getElem?_map, List.getD_eq_getElem?_getD, List.getElem?_eq_getElem (by omega)]
      rfl
    rw [e]
    simp only [List.getD_eq_getElem?_getD, List.getElem?_take_of_lt hc]
  have hI1 : Inj n (at2 (M.map (List.take n))) := fun x hx c hc => by
    refine hI x (fun r hr => (h.ker x).2 (fun r hr => ?_) r hr) c hc
    dsimp only
    rw [← hx r hr]
    exact lin_congr (fun c hc => (hat r c hr hc).symm)
  have hl : (M.map (List.take n)).length = n := by rw [List.length_map]; exact l1
  have hE : Eqv n 0 (M.map (List.take n)) (List.replicate n []) (M.map (List.take n)) (List.replicate n []) := by
    refine Eqv.start hl (by simp) (fun r hr => ?_) (fun r hr => by simp [List.getD_eq_getElem?_getD, hr])
    rw [List.getD_eq_getElem?_getD, List.getElem?_map, List.getElem?_eq_getElem (by omega)]
    have := h.wr r hr
    rw [List.getD_eq_getElem?_getD, List.getElem?_eq_getElem (by omega)] at this
    simp only [Option.map_some, Option.getD_some] at this ⊢
    rw [List.length_take]; omega
  obtain ⟨p, h1, h2, h3⟩ := Go.Proofs.Ytiggohkkokalcaa.pivot hI1 hE (fun c hc r hr => by rw [hat r c hr (by omega)]; exact hu c hc r hr) hi
  rw [hat p i h2 hi] at h3
  exact ⟨p, h1, h2, h3⟩

/-- column i is being cleared: k rows are done -/
structure AProg (n i k : Nat) (A : Nat → Nat → G) (b : Nat → G) (M : List (List G)) : Prop where
  aug : Aug n A b M
  unit : UnitTo n i M
  one : at2 M i i = 1
  zero : ∀ r, r < k → r ≠ i → at2 M r i = 0
theorem AProg.start (h : Aug n A b M) (hu : UnitTo n i M) (hi : i < n) (hz : at2 M i i ≠ 0) : AProg n i 0 A b (M.set i (scaleG (ginv (at2 M i i)) (rat M i))) := by
  refine ⟨h.scale hi (ginv_ne _ hz), hu.scale h.lr hi _, ?_, fun r hr => by omega⟩
  rw [at2_scale h.lr hi]
  unfold tScale
  dsimp only
  rw [if_pos rfl, gm_comm, gm_inv _ hz]
theorem AProg.add (h : AProg n i k A b M) (hi : i < n) (hk : k < n) (hne : k ≠ i) : AProg n i (k + 1) A b (M.set k (sumG (fun _ => at2 M k i) [rat M i] (rat M k))) := by
  have hl := h.aug.lr
  have hw : ∀ c, c < n → c < (rat M k).length := fun c hc => by rw [h.aug.row hk]; omega
  refine ⟨h.aug.add hi hk hne _, fun c hc r hr => ?_, ?_, fun r hr hri => ?_⟩
  · rw [at2_add hl hk _ r c (hw c (by omega))]
    unfold tAdd
    dsimp only
    by_cases e : r = k
    · rw [if_pos e, h.unit c hc k hk, h.unit c hc i hi, if_neg (show ¬ i = c by omega), gm_zero, e]; simp
    · rw [if_neg e, h.unit c hc r hr]
  · rw [at2_add hl hk _ i i (hw i hi)]
    unfold tAdd
    dsimp only
    rw [if_neg (Ne.symm hne), h.one]
  · rw [at2_add hl hk _ r i (hw i hi)]
    unfold tAdd
    dsimp only
    by_cases e : r = k
    · rw [if_pos e, h.one, gm_one]; simp
    · rw [if_neg e, h.zero r (by omega) hri]
theorem AProg.skip (h : AProg n i i A b M) : AProg n i (i + 1) A b M :=
  ⟨h.aug, h.unit, h.one, fun r hr hri => h.zero r (by omega) hri⟩
theorem AProg.done (h : AProg n i n A b M) (hi : i < n) : UnitTo n (i + 1) M := by
  intro c hc r hr
  by_cases e : c < i
  · exact h.unit c e r hr
  · have : c = i := by omega
    subst this
    by_cases e2 : r = c
    · subst e2; rw [if_pos rfl, h.one]
    · rw [if_neg e2, h.zero r hr e2]
theorem aug_done (h : Aug n A b M) (hu : UnitTo n n M) : Sol n A b (fun c => at2 M c n) := by
  rw [h.sol]
  intro r hr
  unfold lin
  rw [xsum_one n _ r hr (fun c hc hne => by rw [hu c hc r hr, if_neg (fun e => hne e.symm), zero_gm]), hu r hr r hr, if_pos rfl, one_gm]
end
/-- the first r rows of the system -/
def augTo (R : List (List G)) (bs : List G) (r : Nat) : List (List G) := (List.range r).map fun q => R.getD q [] ++ [bs.getD q 0]
theorem augTo_length (R : List (List G)) (bs : List G) (r : Nat) : (augTo R bs r).length = r := by simp [augTo]
theorem augTo_succ (R : List (List G)) (bs : List G) (r : Nat) : augTo R bs (r + 1) = augTo R bs r ++ [R.getD r [] ++ [bs.getD r 0]] := by simp [augTo, List.range_succ]
theorem augTo_getD (R : List (List G)) (bs : List G) (r q : Nat) (h : q < r) : (augTo R bs r).getD q [] = R.getD q [] ++ [bs.getD q 0] := by simp [augTo, h]
theorem aug_start {n : Nat} {R : List (List G)} {bs : List G} (hw : ∀ r, r < n → (R.getD r []).length = n) : Aug n (at2 R) (fun r => bs.getD r 0) (augTo R bs n) := by
  have e1 : ∀ r, r < n → ∀ c, c < n → at2 (augTo R bs n) r c = at2 R r c := fun r hr c hc => by
    unfold at2
    rw [augTo_getD _ _ _ _ hr, getD_snoc, hw r hr, if_pos hc]
  have e2 : ∀ r, r < n → at2 (augTo R bs n) r n = bs.getD r 0 := fun r hr => by
    unfold at2
    rw [augTo_getD _ _ _ _ hr, getD_snoc, hw r hr, if_neg (by omega), if_pos rfl]
  refine ⟨augTo_length _ _ _, fun r hr => ?_, fun x => ?_, fun x => ?_⟩
  · rw [augTo_getD _ _ _ _ hr, List.length_append, hw r hr]; rfl
  · exact ⟨fun h r hr => (lin_congr (fun c hc => e1 r hr c hc)).trans (h r hr), fun h r hr => (lin_congr (fun c hc => (e1 r hr c hc).symm)).trans (h r hr)⟩
  · exact ⟨fun h r hr => (lin_congr (fun c hc => e1 r hr c hc)).trans ((h r hr).trans (e2 r hr).symm), fun h r hr => (lin_congr (fun c hc => (e1 r hr c hc).symm)).trans ((h r hr).trans (e2 r hr))⟩
end Go.Proofs.Ytiggohkkokalcaa
