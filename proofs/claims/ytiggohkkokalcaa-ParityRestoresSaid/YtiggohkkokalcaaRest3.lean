/- The plain law of ParityRestores, third part: Repair gives the group. -/
import Derived.Test.YtiggohkkokalcaaRest2
namespace Go.Proofs.Ytiggohkkokalcaa
set_option linter.unusedVariables false
set_option linter.unusedSimpArgs false

section
variable {data : List (List G)} {f : Nat} {gone : List Int}
theorem scene_lng : lngN (withoutG data gone 0) (sizesG data) = longG data := by
  unfold lngN
  rw [withoutG_length, lngTo_sizes _ _ (Nat.le_refl _), Int.toNat_natCast]; rfl
theorem scene_X (S : Scene data f gone) {X : List (List G)} (h : Sols (withoutG data gone 0) (withoutG (makeG data f) gone data.length) (sizesG data) X) (c : Nat) (hc : c < (lostN (withoutG data gone 0) (sizesG data)).length) (p : Nat) (hp : p < longG data) :
    (X.getD c []).getD p 0 = (data.getD ((lostN (withoutG data gone 0) (sizesG data)).getD c 0) []).getD p 0 := by
  have hok := scene_ok S
  have e1 := withoutG_length data gone 0
  have e2 := withoutG_length (makeG data f) gone data.length
  rw [makeG_length] at e2
  have h3 := h.2.2 p (by rw [scene_lng]; exact hp)
  have h4 := scene_sol S p hp
  rw [e1] at h3
  have hI := rows_inj (lostN (withoutG data gone 0) (sizesG data)) (leftN (withoutG (makeG data f) gone data.length) (lngTo (sizesG data) data.length)) (lostN_sorted _ _) (leftN_sorted _ _) (fun c hc => by have := (lostN_at hc).1; have := S.h16; omega) (fun c hc => by have := (leftN_at hc).1; have := S.h4; omega) (scene_few S)
  exact sol_unique hI h3 h4 c hc
theorem scene_lost (S : Scene data f gone) (c : Nat) (hc : c < (lostN (withoutG data gone 0) (sizesG data)).length) :
    (lostN (withoutG data gone 0) (sizesG data)).getD c 0 < data.length ∧ inL gone ((lostN (withoutG data gone 0) (sizesG data)).getD c 0 : Nat) = true ∧
      sizeAt (sizesG data) (lostN (withoutG data gone 0) (sizesG data)) c = (data.getD ((lostN (withoutG data gone 0) (sizesG data)).getD c 0) []).length := by
  have h := lostN_at hc
  rw [withoutG_length] at h
  refine ⟨h.1, ((lost_iff _ h.1).1 h.2).1, ?_⟩
  unfold sizeAt
  rw [sizesG_getD _ _ h.1, Int.toNat_natCast]
theorem scene_tail (S : Scene data f gone) {X : List (List G)} (h : Sols (withoutG data gone 0) (withoutG (makeG data f) gone data.length) (sizesG data) X) : ¬ TailBad (withoutG data gone 0) (sizesG data) X := by
  rintro ⟨c, hc, hb⟩
  obtain ⟨h1, _, h2⟩ := scene_lost S c hc
  rw [notZero_iff] at hb
  obtain ⟨j, hj, hz⟩ := hb
  have hl := h.2.1 c hc
  rw [scene_lng] at hl
  rw [List.length_drop, hl] at hj
  apply hz
  have e : ((X.getD c []).drop (sizeAt (sizesG data) (lostN (withoutG data gone 0) (sizesG data)) c)).getD j 0 = (X.getD c []).getD (sizeAt (sizesG data) (lostN (withoutG data gone 0) (sizesG data)) c + j) 0 := by
    simp only [List.getD_eq_getElem?_getD, List.getElem?_drop]
  rw [e, scene_X S h c hc _ (by omega)]
  exact getD_over _ _ _ (by rw [h2]; omega)
theorem scene_take (S : Scene data f gone) {X : List (List G)} (h : Sols (withoutG data gone 0) (withoutG (makeG data f) gone data.length) (sizesG data) X) (c : Nat) (hc : c < (lostN (withoutG data gone 0) (sizesG data)).length) :
    (X.getD c []).take (sizeAt (sizesG data) (lostN (withoutG data gone 0) (sizesG data)) c) = data.getD ((lostN (withoutG data gone 0) (sizesG data)).getD c 0) [] := by
  obtain ⟨h1, _, h2⟩ := scene_lost S c hc
  have hl := h.2.1 c hc
  rw [scene_lng] at hl
  have hge := longG_ge data ((lostN (withoutG data gone 0) (sizesG data)).getD c 0)
  rw [h2]
  refine list_ext_getD 0 (by rw [List.length_take, hl]; omega) (fun p hp => ?_)
  rw [List.length_take, hl] at hp
  have e : ((X.getD c []).take (data.getD ((lostN (withoutG data gone 0) (sizesG data)).getD c 0) []).length).getD p 0 = (X.getD c []).getD p 0 := by
    rw [List.getD_eq_getElem?_getD, List.getElem?_take_of_lt (by omega), List.getD_eq_getElem?_getD]
    simp only [List.getD_eq_getElem?_getD]
  rw [e]
  exact scene_X S h c hc p (by omega)
theorem scene_out (S : Scene data f gone) {X : List (List G)} (h : Sols (withoutG data gone 0) (withoutG (makeG data f) gone data.length) (sizesG data) X) : outG (withoutG data gone 0) (sizesG data) X = data := by
  have key : ∀ r, r ≤ (lostN (withoutG data gone 0) (sizesG data)).length → ∀ i, i < data.length → (outTo (withoutG data gone 0) (sizesG data) X (lostN (withoutG data gone 0) (sizesG data)) r).getD i [] = if (∃ c, c < r ∧ (lostN (withoutG data gone 0) (sizesG data)).getD c 0 = i) then data.getD i [] else (withoutG data gone 0).getD i [] := by
    intro r
    induction r with
    | zero => intro _ i hi; rw [if_neg (by rintro ⟨c, hc, _⟩; omega)]; rfl
    | succ r ih =>
      intro hr i hi
      have hl := scene_lost S r (by omega)
      unfold outTo
      rw [scene_take S h r (by omega)]
      have hs := rat_set (outTo (withoutG data gone 0) (sizesG data) X (lostN (withoutG data gone 0) (sizesG data)) r) ((lostN (withoutG data gone 0) (sizesG data)).getD r 0) i (data.getD ((lostN (withoutG data gone 0) (sizesG data)).getD r 0) []) (by rw [outTo_length, withoutG_length]; exact hl.1)
      unfold rat at hs
      rw [hs]
      by_cases e : i = (lostN (withoutG data gone 0) (sizesG data)).getD r 0
      · rw [if_pos e, if_pos ⟨r, by omega, e.symm⟩, e]
      · rw [if_neg e, ih (by omega) i hi]
        by_cases h1 : ∃ c, c < r ∧ (lostN (withoutG data gone 0) (sizesG data)).getD c 0 = i
        · obtain ⟨c, hc, he⟩ := h1
          rw [if_pos ⟨c, hc, he⟩, if_pos ⟨c, by omega, he⟩]
        · rw [if_neg h1, if_neg]
          rintro ⟨c, hc, he⟩
          by_cases e2 : c = r
          · subst e2; exact e he.symm
          · exact h1 ⟨c, by omega, he⟩
  unfold outG
  refine list_ext_getD [] (by rw [outTo_length, withoutG_length]) (fun i hi => ?_)
  rw [outTo_length, withoutG_length] at hi
  rw [key _ (Nat.le_refl _) i hi]
  split
  · rfl
  · rename_i hn
    rw [withoutG_getD _ _ _ _ hi, Int.zero_add]
    split
    · rename_i hin
      by_cases h0 : 0 < (data.getD i []).length
      · exfalso
        have hm : i ∈ lostN (withoutG data gone 0) (sizesG data) := by
          unfold lostN
          rw [List.mem_filter, List.mem_range, withoutG_length, decide_eq_true_iff]
          exact ⟨hi, (lost_iff i hi).2 ⟨hin, h0⟩⟩
        obtain ⟨c, hc, he⟩ := List.getElem_of_mem hm
        exact hn ⟨c, hc, by rw [List.getD_eq_getElem?_getD, List.getElem?_eq_getElem hc]; exact he⟩
      · exact (List.eq_nil_of_length_eq_zero (by omega)).symm
    · rfl
theorem scene_sum (S : Scene data f gone) {X : List (List G)} (h : Sols (withoutG data gone 0) (withoutG (makeG data f) gone data.length) (sizesG data) X) : ¬ SumBad (withoutG data gone 0) (withoutG (makeG data f) gone data.length) (sizesG data) X := by
  have e1 := withoutG_length data gone 0
  have e2 := withoutG_length (makeG data f) gone data.length
  rw [makeG_length] at e2
  rintro ⟨c, hc, hb⟩
  rw [scene_out S h, e2] at hb
  rw [e1] at hb hc
  have hj := leftN_at hc
  rw [e2] at hj
  generalize (leftN (withoutG (makeG data f) gone data.length) (lngTo (sizesG data) data.length)).getD c 0 = j at *
  apply hb
  rw [withoutG_getD _ _ _ _ (by rw [makeG_length]; exact hj.1)]
  split
  · rename_i hin
    have h0 : ¬ 0 < longG data := fun h0 => hj.2 ((gone_iff j hj.1).2 ⟨hin, h0⟩)
    rw [makeG_getD _ _ _ hj.1]
    exact List.eq_nil_of_length_eq_zero (by rw [parG_length]; omega)
  · rfl
end
end Go.Proofs.Ytiggohkkokalcaa
