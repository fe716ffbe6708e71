/- The plain law of ParityRestores, first part: what is lost, and that enough is left. -/
import Derived.Test.YtiggohkkokalcaaLostW
import Derived.Test.YtiggohkkokalcaaRepOut
namespace Go.Proofs.Ytiggohkkokalcaa
set_option linter.unusedVariables false
set_option linter.unusedSimpArgs false

theorem nodup_len {l m : List Int} (h : l.Nodup) (hs : ∀ x ∈ l, x ∈ m) : l.length ≤ m.length := by
  induction l generalizing m with
  | nil => exact Nat.zero_le _
  | cons x l ih =>
    rw [List.nodup_cons] at h
    have hx : x ∈ m := hs x (by simp)
    have h1 := ih h.2 (m := m.erase x) (fun y hy => by
      rw [List.mem_erase_of_ne (fun e => h.1 (by rw [← e]; exact hy))]
      exact hs y (by simp [hy]))
    rw [List.length_erase_of_mem hx] at h1
    have := List.length_pos_of_mem hx
    rw [List.length_cons]
    omega
theorem sizesG_getD (data : List (List G)) (i : Nat) (h : i < data.length) : (sizesG data).getD i 0 = ((data.getD i []).length : Int) := by
  simp [sizesG, sizesTo, h]
theorem sizesG_length (data : List (List G)) : (sizesG data).length = data.length := sizesTo_length _ _
theorem withoutG_getD (data : List (List G)) (l : List Int) (first : Int) (i : Nat) (h : i < data.length) : (withoutG data l first).getD i [] = if inL l (first + (i : Int)) then [] else data.getD i [] := by
  unfold withoutG withoutTo
  rw [List.getD_eq_getElem?_getD, List.getElem?_map, List.getElem?_range h]
  rfl
theorem withoutG_length (data : List (List G)) (l : List Int) (first : Int) : (withoutG data l first).length = data.length := withoutTo_length _ _ _ _
theorem lngTo_sizes (data : List (List G)) (k : Nat) (h : k ≤ data.length) : lngTo (sizesG data) k = (longTo data k : Int) := by
  induction k with
  | zero => rfl
  | succ k ih =>
    unfold lngTo longTo
    rw [ih (by omega), sizesG_getD _ _ (by omega)]
    omega
/-- the scene: data, its parity blocks, what is lost -/
structure Scene (data : List (List G)) (f : Nat) (gone : List Int) : Prop where
  h16 : data.length ≤ 16
  h4 : f ≤ 4
  hl : longG data ≤ 65536
  nodup : gone.Nodup
  few : gone.length ≤ f
section
variable {data : List (List G)} {f : Nat} {gone : List Int}
theorem lost_iff (i : Nat) (hi : i < data.length) : lostAt (withoutG data gone 0) (sizesG data) i ↔ inL gone i = true ∧ 0 < (data.getD i []).length := by
  unfold lostAt
  rw [withoutG_getD _ _ _ _ hi, sizesG_getD _ _ hi, Int.zero_add]
  by_cases h : inL gone i = true
  · rw [if_pos h]; exact ⟨fun h2 => ⟨h, by have := h2.2; omega⟩, fun h2 => ⟨rfl, by have := h2.2; omega⟩⟩
  · rw [if_neg h]; exact ⟨fun h2 => absurd h2.2 (by have := h2.1; omega), fun h2 => absurd h2.1 h⟩
theorem gone_iff (j : Nat) (hj : j < f) : goneAt (withoutG (makeG data f) gone data.length) (lngTo (sizesG data) data.length) j ↔ inL gone ((data.length : Int) + j) = true ∧ 0 < longG data := by
  unfold goneAt
  rw [withoutG_getD _ _ _ _ (by rw [makeG_length]; exact hj), lngTo_sizes _ _ (Nat.le_refl _), makeG_getD _ _ _ hj]
  have : (longTo data data.length : Int) = (longG data : Int) := rfl
  rw [this]
  by_cases h : inL gone ((data.length : Int) + j) = true
  · rw [if_pos h]; exact ⟨fun h2 => ⟨h, by have := h2.2; omega⟩, fun h2 => ⟨rfl, by have := h2.2; omega⟩⟩
  · rw [if_neg h, parG_length]; exact ⟨fun h2 => absurd h2.2 (by have := h2.1; omega), fun h2 => absurd h2.1 h⟩
theorem filter_split {α : Type} (p : α → Bool) (l : List α) : (l.filter p).length + (l.filter fun x => !p x).length = l.length := by
  induction l with
  | nil => rfl
  | cons x l ih => cases h : p x <;> simp [List.filter_cons, h] <;> omega
theorem scene_few (S : Scene data f gone) : (lostN (withoutG data gone 0) (sizesG data)).length ≤ (leftN (withoutG (makeG data f) gone data.length) (lngTo (sizesG data) data.length)).length := by
  have e1 := withoutG_length data gone 0
  have e2 := withoutG_length (makeG data f) gone data.length
  rw [makeG_length] at e2
  have hs := filter_split (fun j => decide (¬ goneAt (withoutG (makeG data f) gone data.length) (lngTo (sizesG data) data.length) j)) (List.range f)
  rw [List.length_range] at hs
  have hle : (leftN (withoutG (makeG data f) gone data.length) (lngTo (sizesG data) data.length)).length = ((List.range f).filter fun j => decide (¬ goneAt (withoutG (makeG data f) gone data.length) (lngTo (sizesG data) data.length) j)).length := by unfold leftN; rw [e2]
  have key : ((lostN (withoutG data gone 0) (sizesG data)).map (fun i : Nat => (i : Int)) ++ ((List.range f).filter fun j => !decide (¬ goneAt (withoutG (makeG data f) gone data.length) (lngTo (sizesG data) data.length) j)).map (fun j : Nat => (data.length : Int) + (j : Int))).length ≤ gone.length := by
    refine nodup_len ?_ (fun x hx => ?_)
    · rw [List.nodup_append]
      refine ⟨?_, ?_, fun a ha b hb => ?_⟩
      · rw [List.nodup_iff_pairwise_ne, List.pairwise_map]
        exact (lostN_sorted _ _).imp (fun h => by omega)
      · rw [List.nodup_iff_pairwise_ne, List.pairwise_map]
        exact (List.Pairwise.filter _ List.pairwise_lt_range).imp (fun h => by omega)
      · rw [List.mem_map] at ha hb
        obtain ⟨i, hi, rfl⟩ := ha
        obtain ⟨j, hj, rfl⟩ := hb
        unfold lostN at hi
        rw [List.mem_filter, List.mem_range, e1] at hi
        omega
    · rw [List.mem_append, List.mem_map, List.mem_map] at hx
      rcases hx with ⟨i, hi, rfl⟩ | ⟨j, hj, rfl⟩
      · unfold lostN at hi
        rw [List.mem_filter, List.mem_range, e1, decide_eq_true_iff] at hi
        exact (inL_iff _ _).1 ((lost_iff i hi.1).1 hi.2).1
      · rw [List.mem_filter, List.mem_range] at hj
        have h2 : goneAt (withoutG (makeG data f) gone data.length) (lngTo (sizesG data) data.length) j := by simpa using hj.2
        exact (inL_iff _ _).1 ((gone_iff j hj.1).1 h2).1
  rw [List.length_append, List.length_map, List.length_map] at key
  have := S.few
  omega
theorem scene_ok (S : Scene data f gone) : ChkOK (withoutG data gone 0) (withoutG (makeG data f) gone data.length) (sizesG data) := by
  have e1 := withoutG_length data gone 0
  have e2 := withoutG_length (makeG data f) gone data.length
  rw [makeG_length] at e2
  refine ⟨by rw [e1]; exact S.h16, by rw [e2]; exact S.h4, by rw [e1, sizesG_length], fun i hi => ?_, fun i hi => ?_, fun j hj => ?_, by rw [e1]; exact scene_few S⟩
  · rw [e1] at hi
    rw [sizesG_getD _ _ hi]
    have := longG_ge data i
    have := S.hl
    omega
  · rw [e1] at hi
    rintro ⟨h1, h2⟩
    rw [lost_iff i hi] at h1
    rw [withoutG_getD _ _ _ _ hi, sizesG_getD _ _ hi, Int.zero_add] at h2
    by_cases h : inL gone i = true
    · rw [if_pos h] at h2
      simp only [List.length_nil] at h2
      exact h1 ⟨h, by omega⟩
    · rw [if_neg h] at h2; exact h2 rfl
  · rw [e2] at hj
    rw [e1]
    rintro ⟨h1, h2⟩
    rw [gone_iff j hj] at h1
    rw [withoutG_getD _ _ _ _ (by rw [makeG_length]; exact hj), lngTo_sizes _ _ (Nat.le_refl _), makeG_getD _ _ _ hj] at h2
    by_cases h : inL gone ((data.length : Int) + j) = true
    · rw [if_pos h] at h2
      simp only [List.length_nil] at h2
      exact h1 ⟨h, by unfold longG; omega⟩
    · rw [if_neg h, parG_length] at h2; exact h2 rfl
end
end Go.Proofs.Ytiggohkkokalcaa
