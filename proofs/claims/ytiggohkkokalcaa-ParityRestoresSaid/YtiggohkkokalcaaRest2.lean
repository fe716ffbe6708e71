/- The plain law of ParityRestores, second part: the lost blocks are the only solution. -/
import Derived.Test.YtiggohkkokalcaaRest1
namespace Go.Proofs.Ytiggohkkokalcaa
set_option linter.unusedVariables false
set_option linter.unusedSimpArgs false

theorem getD_app {l : List Nat} {x c : Nat} (h : c < l.length) : (l ++ [x]).getD c 0 = l.getD c 0 := by
  rw [List.getD_eq_getElem?_getD, List.getElem?_append_left h, List.getD_eq_getElem?_getD]
theorem xsum_filter (P : Nat → Bool) (g : Nat → G) (n : Nat) : xsum n (fun i => if P i = true then g i else 0) = xsum ((List.range n).filter P).length (fun c => g (((List.range n).filter P).getD c 0)) := by
  induction n with
  | zero => rfl
  | succ n ih =>
    rw [xsum, ih, List.range_succ, List.filter_append]
    cases h : P n
    · have e : List.filter P [n] = [] := by simp [h]
      rw [e, List.append_nil, if_neg (by simp)]
      simp
    · have e : List.filter P [n] = [n] := by simp [h]
      rw [e, if_pos rfl, List.length_append, List.length_singleton, xsum]
      congr 1
      · exact xsum_congr _ _ _ (fun c hc => by rw [getD_app hc])
      · simp [List.getD_eq_getElem?_getD]
theorem at2_over (bss : List (List G)) (i p : Nat) (h : (bss.getD i []).length ≤ p) : at2 bss i p = 0 := getD_over _ _ _ h
section
variable {data : List (List G)} {f : Nat} {gone : List Int}
theorem scene_sol (S : Scene data f gone) (p : Nat) (hp : p < longG data) :
    Sol (lostN (withoutG data gone 0) (sizesG data)).length (at2 (rowsG (lostN (withoutG data gone 0) (sizesG data)) (leftN (withoutG (makeG data f) gone data.length) (lngTo (sizesG data) data.length)) (lostN (withoutG data gone 0) (sizesG data)).length))
      (fun r => at2 (blksG (withoutG data gone 0) (withoutG (makeG data f) gone data.length) (leftN (withoutG (makeG data f) gone data.length) (lngTo (sizesG data) data.length)) (lostN (withoutG data gone 0) (sizesG data)).length) r p)
      (fun c => at2 data ((lostN (withoutG data gone 0) (sizesG data)).getD c 0) p) := by
  have hfew := scene_few S
  have e1 := withoutG_length data gone 0
  have e2 := withoutG_length (makeG data f) gone data.length
  rw [makeG_length] at e2
  intro r hr
  have hj := leftN_at (Nat.lt_of_lt_of_le hr hfew)
  rw [e2] at hj
  dsimp only
  show _ = ((blksG _ _ _ _).getD r []).getD p 0
  rw [blksG_getD _ _ _ _ _ hfew hr]
  have hrow : ∀ c, c < (lostN (withoutG data gone 0) (sizesG data)).length → at2 (rowsG (lostN (withoutG data gone 0) (sizesG data)) (leftN (withoutG (makeG data f) gone data.length) (lngTo (sizesG data) data.length)) (lostN (withoutG data gone 0) (sizesG data)).length) r c = fG ((leftN (withoutG (makeG data f) gone data.length) (lngTo (sizesG data) data.length)).getD r 0) ((lostN (withoutG data gone 0) (sizesG data)).getD c 0) := fun c hc => by
    unfold at2
    rw [rowsG_getD _ _ _ _ hfew hr, rowG_getD _ _ _ hc]
  generalize (leftN (withoutG (makeG data f) gone data.length) (lngTo (sizesG data) data.length)).getD r 0 = j at *
  have hg := fun h => hj.2 ((gone_iff j hj.1).2 ⟨h, by omega⟩)
  have hq : (withoutG (makeG data f) gone data.length).getD j [] = parG data j := by
    rw [withoutG_getD _ _ _ _ (by rw [makeG_length]; exact hj.1), if_neg hg, makeG_getD _ _ _ hj.1]
  unfold blkG
  rw [sumG_getD _ _ _ _ (by rw [hq, parG_length]; exact hp), hq, parG_getD _ _ _ hp, e1, ← xsum_add]
  have hx : xsum data.length (fun i => term (fG j) data p i ^^^ term (fun i => fG j i) (withoutG data gone 0) p i) = xsum data.length (fun i => if decide (lostAt (withoutG data gone 0) (sizesG data) i) = true then gm (fG j i) (at2 data i p) else 0) := by
    refine xsum_congr _ _ _ (fun i hi => ?_)
    unfold term
    have hd : at2 (withoutG data gone 0) i p = if inL gone i = true then 0 else at2 data i p := by
      unfold at2
      rw [withoutG_getD _ _ _ _ hi, Int.zero_add]
      split
      · rfl
      · rfl
    rw [hd]
    by_cases h : inL gone i = true
    · rw [if_pos h, gm_zero]
      by_cases h0 : 0 < (data.getD i []).length
      · rw [if_pos (decide_eq_true ((lost_iff i hi).2 ⟨h, h0⟩))]; simp
      · rw [if_neg (by rw [decide_eq_true_iff, lost_iff i hi]; exact fun hh => h0 hh.2), at2_over data i p (by omega), gm_zero]; simp
    · rw [if_neg h, if_neg (by rw [decide_eq_true_iff, lost_iff i hi]; exact fun hh => h hh.1)]; simp
  rw [hx, xsum_filter]
  have e3 : (List.range data.length).filter (fun i => decide (lostAt (withoutG data gone 0) (sizesG data) i)) = lostN (withoutG data gone 0) (sizesG data) := by unfold lostN; rw [e1]
  rw [e3]
  unfold lin
  exact xsum_congr _ _ _ (fun c hc => by rw [hrow c hc])
end
end Go.Proofs.Ytiggohkkokalcaa
