/- The steps of package parity's solve on matrices. -/
import Derived.Test.YtiggohkkokalcaaSt
namespace Go.Proofs.Ytiggohkkokalcaa
set_option linter.unusedVariables false

theorem at2_rat (R : List (List G)) (r c : Nat) : at2 R r c = (rat R r).getD c 0 := rfl
theorem at2_swap {R : List (List G)} {n i p : Nat} (hl : R.length = n) (hi : i < n) (hp : p < n) (r c : Nat) : at2 (swapAt [] R i p) r c = tSwap i p (fun q => at2 R q c) r := by
  unfold at2 tSwap
  rw [swapAt_getD _ _ _ _ _ (by omega) (by omega)]
  split
  · rfl
  · split <;> rfl
theorem at2_set {R : List (List G)} {n i : Nat} (hl : R.length = n) (hi : i < n) (x : List G) (r c : Nat) : at2 (R.set i x) r c = if r = i then x.getD c 0 else at2 R r c := by
  rw [at2_rat, rat_set _ _ _ _ (by omega)]
  split <;> rfl
theorem at2_scale {R : List (List G)} {n i : Nat} (hl : R.length = n) (hi : i < n) (a : G) (r c : Nat) : at2 (R.set i (scaleG a (rat R i))) r c = tScale i a (fun q => at2 R q c) r := by
  rw [at2_set hl hi, scaleG_getD]
  rfl
theorem at2_add {R : List (List G)} {n i k : Nat} (hl : R.length = n) (hk : k < n) (a : G) (r c : Nat) (hc : c < (rat R k).length) : at2 (R.set k (sumG (fun _ => a) [rat R i] (rat R k))) r c = tAdd k i a (fun q => at2 R q c) r := by
  rw [at2_set hl hk, sumG_getD _ _ _ _ hc]
  unfold tAdd
  split
  · simp [xsum, term, at2, rat]
  · rfl

structure Prog (n L i k : Nat) (R B R1 B1 : List (List G)) : Prop where
  eqv : Eqv n L R B R1 B1
  unit : UnitTo n i R1
  one : at2 R1 i i = 1
  zero : ∀ r, r < k → r ≠ i → at2 R1 r i = 0
theorem Eqv.swap {n L i p : Nat} {R B R1 B1 : List (List G)} (h : Eqv n L R B R1 B1) (hi : i < n) (hp : p < n) : Eqv n L R B (swapAt [] R1 i p) (swapAt [] B1 i p) := by
  have l1 := h.lr; have l2 := h.lb
  refine h.step (rowSwap hi hp) (by rw [swapAt_length]; exact l1) (by rw [swapAt_length]; exact l2) (fun r hr => ?_) (fun r hr => ?_) (fun r hr c _ => at2_swap l1 hi hp r c) (fun r hr c _ => at2_swap l2 hi hp r c)
  · rw [swapAt_getD _ _ _ _ _ (by omega) (by omega)]; exact h.wr _ (sw_lt hi hp hr)
  · rw [swapAt_getD _ _ _ _ _ (by omega) (by omega)]; exact h.wb _ (sw_lt hi hp hr)
theorem Eqv.scale {n L i : Nat} {R B R1 B1 : List (List G)} (h : Eqv n L R B R1 B1) (hi : i < n) {a : G} (ha : a ≠ 0) : Eqv n L R B (R1.set i (scaleG a (rat R1 i))) (B1.set i (scaleG a (rat B1 i))) := by
  have l1 := h.lr; have l2 := h.lb
  refine h.step (rowScale hi ha) (by rw [List.length_set]; exact l1) (by rw [List.length_set]; exact l2) (fun r hr => ?_) (fun r hr => ?_) (fun r hr c _ => at2_scale l1 hi a r c) (fun r hr c _ => at2_scale l2 hi a r c)
  · have := rat_set R1 i r (scaleG a (rat R1 i)) (by omega)
    unfold rat at this ⊢
    rw [this]
    split
    · rw [scaleG_length]; exact h.wr i hi
    · exact h.wr r hr
  · have := rat_set B1 i r (scaleG a (rat B1 i)) (by omega)
    unfold rat at this ⊢
    rw [this]
    split
    · rw [scaleG_length]; exact h.wb i hi
    · exact h.wb r hr
theorem Eqv.add {n L i k : Nat} {R B R1 B1 : List (List G)} (h : Eqv n L R B R1 B1) (hi : i < n) (hk : k < n) (hne : k ≠ i) (a : G) : Eqv n L R B (R1.set k (sumG (fun _ => a) [rat R1 i] (rat R1 k))) (B1.set k (sumG (fun _ => a) [rat B1 i] (rat B1 k))) := by
  have l1 := h.lr; have l2 := h.lb
  refine h.step (rowAdd (c := a) hk hi hne) (by rw [List.length_set]; exact l1) (by rw [List.length_set]; exact l2) (fun r hr => ?_) (fun r hr => ?_) (fun r hr c hc => at2_add l1 hk a r c (by rw [show (rat R1 k).length = n from h.wr k hk]; exact hc)) (fun r hr c hc => at2_add l2 hk a r c (by rw [show (rat B1 k).length = L from h.wb k hk]; exact hc))
  · have := rat_set R1 k r (sumG (fun _ => a) [rat R1 i] (rat R1 k)) (by omega)
    unfold rat at this ⊢
    rw [this]
    split
    · rw [sumG_length]; exact h.wr k hk
    · exact h.wr r hr
  · have := rat_set B1 k r (sumG (fun _ => a) [rat B1 i] (rat B1 k)) (by omega)
    unfold rat at this ⊢
    rw [this]
    split
    · rw [sumG_length]; exact h.wb k hk
    · exact h.wb r hr
theorem UnitTo.swap {n i p : Nat} {R : List (List G)} (h : UnitTo n i R) (hl : R.length = n) (hi : i < n) (h1 : i ≤ p) (hp : p < n) : UnitTo n i (swapAt [] R i p) := by
  intro c hc r hr
  rw [at2_swap hl hi hp]
  unfold tSwap
  dsimp only
  by_cases e : r = i
  · rw [if_pos e, h c hc p hp, if_neg (by omega), if_neg (by omega)]
  · by_cases e2 : r = p
    · rw [if_neg e, if_pos e2, h c hc i hi, if_neg (by omega), if_neg (by omega)]
    · rw [if_neg e, if_neg e2, h c hc r hr]
theorem UnitTo.scale {n i : Nat} {R : List (List G)} (h : UnitTo n i R) (hl : R.length = n) (hi : i < n) (a : G) : UnitTo n i (R.set i (scaleG a (rat R i))) := by
  intro c hc r hr
  rw [at2_scale hl hi]
  unfold tScale
  dsimp only
  by_cases e : r = i
  · rw [if_pos e, h c hc i hi, if_neg (by omega), gm_zero, if_neg (by omega)]
  · rw [if_neg e, h c hc r hr]
theorem Prog.start {n L i : Nat} {R B R1 B1 : List (List G)} (h : Eqv n L R B R1 B1) (hu : UnitTo n i R1) (hi : i < n) (hz : at2 R1 i i ≠ 0) :
    Prog n L i 0 R B (R1.set i (scaleG (ginv (at2 R1 i i)) (rat R1 i))) (B1.set i (scaleG (ginv (at2 R1 i i)) (rat B1 i))) := by
  refine ⟨h.scale hi (ginv_ne _ hz), hu.scale h.lr hi _, ?_, fun r hr => by omega⟩
  rw [at2_scale h.lr hi]
  unfold tScale
  dsimp only
  rw [if_pos rfl, gm_comm, gm_inv _ hz]
theorem Prog.add {n L i k : Nat} {R B R1 B1 : List (List G)} (h : Prog n L i k R B R1 B1) (hi : i < n) (hk : k < n) (hne : k ≠ i) :
    Prog n L i (k + 1) R B (R1.set k (sumG (fun _ => at2 R1 k i) [rat R1 i] (rat R1 k))) (B1.set k (sumG (fun _ => at2 R1 k i) [rat B1 i] (rat B1 k))) := by
  have hl := h.eqv.lr
  have hw : ∀ c, c < n → c < (rat R1 k).length := fun c hc => by rw [show (rat R1 k).length = n from h.eqv.wr k hk]; exact hc
  refine ⟨h.eqv.add hi hk hne _, fun c hc r hr => ?_, ?_, fun r hr hri => ?_⟩
  · rw [at2_add hl hk _ r c (hw c (by omega))]
    unfold tAdd
    dsimp only
    by_cases e : r = k
    · rw [if_pos e, h.unit c hc k hk, h.unit c hc i hi, if_neg (show ¬ i = c by omega), gm_zero, e]; simp
    · rw [if_neg e, h.unit c hc r hr]
  · rw [at2_add hl hk _ i i (hw i hi)]
    unfold tAdd
    dsimp only
    rw [if_neg (Ne.symm hne), h.one]
  · rw [at2_add hl hk _ r i (hw i hi)]
    unfold tAdd
    dsimp only
    by_cases e : r = k
    · rw [if_pos e, h.one, gm_one]; simp
    · rw [if_neg e, h.zero r (by omega) hri]
theorem Prog.skip {n L i k : Nat} {R B R1 B1 : List (List G)} (h : Prog n L i k R B R1 B1) (hz : k = i ∨ at2 R1 k i = 0) : Prog n L i (k + 1) R B R1 B1 := by
  refine ⟨h.eqv, h.unit, h.one, fun r hr hri => ?_⟩
  by_cases e : r = k
  · subst e; exact hz.resolve_left hri
  · exact h.zero r (by omega) hri
theorem Prog.done {n L i : Nat} {R B R1 B1 : List (List G)} (h : Prog n L i n R B R1 B1) (hi : i < n) : UnitTo n (i + 1) R1 := by
  intro c hc r hr
  by_cases e : c < i
  · exact h.unit c e r hr
  · have : c = i := by omega
    subst this
    by_cases e2 : r = c
    · subst e2; rw [if_pos rfl, h.one]
    · rw [if_neg e2, h.zero r hr e2]
end Go.Proofs.Ytiggohkkokalcaa
