/- The plain law of ParityRestores, first part: what is lost, and that enough is left. The plain law of ParityRestores, second part: the lost blocks are the only solution. The plain law of ParityRestores, third part: Repair gives the group. The scene of a repair once more, with what is needed alone: not more data blocks are lost than parity blocks are left. -/
import Derived.Test.YtiggohkkokalcaaLostAll
import Derived.Test.YtiggohkkokalcaaCutAll
/-! The plain law of ParityRestores, first part: what is lost, and that enough is left. -/
namespace Go.Proofs.Ytiggohkkokalcaa
set_option linter.unusedVariables false
set_option linter.unusedSimpArgs false

theorem nodup_len {l m : List Int} (h : l.Nodup) (hs : ∀ x ∈ l, x ∈ m) : l.length ≤ m.length := by
  induction l generalizing m with
  | nil => exact Nat.zero_le _
  | cons x l ih =>
    rw [List.nodup_cons] at h
    have hx : x ∈ m := hs x (by simp)
    have h1 := ih h.2 (m := m.erase x) (fun y hy => by
      rw [List.mem_erase_of_ne (fun e => h.1 (by rw [← e]; exact hy))]
      exact hs y (by simp [hy]))
    rw [List.length_erase_of_mem hx] at h1
    have := List.length_pos_of_mem hx
    rw [List.length_cons]
    omega
theorem sizesG_getD (data : List (List G)) (i : Nat) (h : i < data.length) : (sizesG data).getD i 0 = ((data.getD i []).length : Int) := by
  simp [sizesG, sizesTo, h]
theorem sizesG_length (data : List (List G)) : (sizesG data).length = data.length := sizesTo_length _ _
theorem withoutG_getD (data : List (List G)) (l : List Int) (first : Int) (i : Nat) (h : i < data.length) : (withoutG data l first).getD i [] = if inL l (first + (i : Int)) then [] else data.getD i [] := by
  unfold withoutG withoutTo
  rw [List.getD_eq_getElem?_getD, List.getElem?_map, List.getElem?_range h]
  rfl
theorem withoutG_length (data : List (List G)) (l : List Int) (first : Int) : (withoutG data l first).length = data.length := withoutTo_length _ _ _ _
theorem lngTo_sizes (data : List (List G)) (k : Nat) (h : k ≤ data.length) : lngTo (sizesG data) k = (longTo data k : Int) := by
  induction k with
  | zero => rfl
  | succ k ih =>
    unfold lngTo longTo
    rw [ih (by omega), sizesG_getD _ _ (by omega)]
    omega
/-- the scene: data, its parity blocks, what is lost -/
structure Scene (data : List (List G)) (f : Nat) (gone : List Int) : Prop where
  h16 : data.length ≤ 16
  h4 : f ≤ 4
  hl : longG data ≤ 65536
  nodup : gone.Nodup
  few : gone.length ≤ f
section
variable {data : List (List G)} {f : Nat} {gone : List Int}
theorem lost_iff (i : Nat) (hi : i < data.length) : lostAt (withoutG data gone 0) (sizesG data) i ↔ inL gone i = true ∧ 0 < (data.getD i []).length := by
  unfold lostAt
  rw [withoutG_getD _ _ _ _ hi, sizesG_getD _ _ hi, Int.zero_add]
  by_cases h : inL gone i = true
  · rw [if_pos h]; exact ⟨fun h2 => ⟨h, by have := h2.2; omega⟩, fun h2 => ⟨rfl, by have := h2.2; omega⟩⟩
  · rw [if_neg h]; exact ⟨fun h2 => absurd h2.2 (by have := h2.1; omega), fun h2 => absurd h2.1 h⟩
theorem gone_iff (j : Nat) (hj : j < f) : goneAt (withoutG (makeG data f) gone data.length) (lngTo (sizesG data) data.length) j ↔ inL gone ((data.length : Int) + j) = true ∧ 0 < longG data := by
  unfold goneAt
  rw [withoutG_getD _ _ _ _ (by rw [makeG_length]; exact hj), lngTo_sizes _ _ (Nat.le_refl _), makeG_getD _ _ _ hj]
  have : (longTo data data.length : Int) = (longG data : Int) := rfl
  rw [this]
  by_cases h : inL gone ((data.length : Int) + j) = true
  · rw [if_pos h]; exact ⟨fun h2 => ⟨h, by have := h2.2; omega⟩, fun h2 => ⟨rfl, by have := h2.2; omega⟩⟩
  · rw [if_neg h, parG_length]; exact ⟨fun h2 => absurd h2.2 (by have := h2.1; omega), fun h2 => absurd h2.1 h⟩
theorem filter_split {α : Type} (p : α → Bool) (l : List α) : (l.filter p).length + (l.filter fun x => !p x).length = l.length := by
  induction l with
  | nil => rfl
  | cons x l ih => cases h : p x <;> simp [List.filter_cons, h] <;> omega
theorem scene_few (S : Scene data f gone) : (lostN (withoutG data gone 0) (sizesG data)).length ≤ (leftN (withoutG (makeG data f) gone data.length) (lngTo (sizesG data) data.length)).length := by
  have e1 := withoutG_length data gone 0
  have e2 := withoutG_length (makeG data f) gone data.length
  rw [makeG_length] at e2
  have hs := filter_split (fun j => decide (¬ goneAt (withoutG (makeG data f) gone data.length) (lngTo (sizesG data) data.length) j)) (List.range f)
  rw [List.length_range] at hs
  have hle : (leftN (withoutG (makeG data f) gone data.length) (lngTo (sizesG data) data.length)).length = ((List.range f).filter fun j => decide (¬ goneAt (withoutG (makeG data f) gone data.length) (lngTo (sizesG data) data.length) j)).length := by unfold leftN; rw [e2]
  have key : ((lostN (withoutG data gone 0) (sizesG data)).map (fun i : Nat => (i : Int)) ++ ((List.range f).filter fun j => !decide (¬ goneAt (withoutG (makeG data f) gone data.length) (lngTo (sizesG data) data.length) j)).map (fun j : Nat => (data.length : Int) + (j : Int))).length ≤ gone.length := by
    refine nodup_len ?_ (fun x hx => ?_)
    · rw [List.nodup_append]
      refine ⟨?_, ?_, fun a ha b hb => ?_⟩
      · rw [List.nodup_iff_pairwise_ne, List.pairwise_map]
        exact (lostN_sorted _ _).imp (fun h => by omega)
      · rw [List.nodup_iff_pairwise_ne, List.pairwise_map]
        exact (List.Pairwise.filter _ List.pairwise_lt_range).imp (fun h => by omega)
      · rw [List.mem_map] at ha hb
        obtain ⟨i, hi, rfl⟩ := ha
        obtain ⟨j, hj, rfl⟩ := hb
        unfold lostN at hi
        rw [List.mem_filter, List.mem_range, e1] at hi
        omega
    · rw [List.mem_append, List.mem_map, List.mem_map] at hx
      rcases hx with ⟨i, hi, rfl⟩ | ⟨j, hj, rfl⟩
      · unfold lostN at hi
        rw [List.mem_filter, List.mem_range, e1, decide_eq_true_iff] at hi
        exact (inL_iff _ _).1 ((lost_iff i hi.1).1 hi.2).1
      · rw [List.mem_filter, List.mem_range] at hj
        have h2 : goneAt (withoutG (makeG data f) gone data.length) (lngTo (sizesG data) data.length) j := by simpa using hj.2
        exact (inL_iff _ _).1 ((gone_iff j hj.1).1 h2).1
  rw [List.length_append, List.length_map, List.length_map] at key
  have := S.few
  omega
theorem scene_ok (S : Scene data f gone) : ChkOK (withoutG data gone 0) (withoutG (makeG data f) gone data.length) (sizesG data) := by
  have e1 := withoutG_length data gone 0
  have e2 := withoutG_length (makeG data f) gone data.length
  rw [makeG_length] at e2
  refine ⟨by rw [e1]; exact S.h16, by rw [e2]; exact S.h4, by rw [e1, sizesG_length], fun i hi => ?_, fun i hi => ?_, fun j hj => ?_, by rw [e1]; exact scene_few S⟩
  · rw [e1] at hi
    rw [sizesG_getD _ _ hi]
    have := longG_ge data i
    have := S.hl
    omega
  · rw [e1] at hi
    rintro ⟨h1, h2⟩
    rw [lost_iff i hi] at h1
    rw [withoutG_getD _ _ _ _ hi, sizesG_getD _ _ hi, Int.zero_add] at h2
    by_cases h : inL gone i = true
    · rw [if_pos h] at h2
      simp only [List.length_nil] at h2
      exact h1 ⟨h, by omega⟩
    · rw [if_neg h] at h2; exact h2 rfl
  · rw [e2] at hj
    rw [e1]
    rintro ⟨h1, h2⟩
    rw [gone_iff j hj] at h1
    rw [withoutG_getD _ _ _ _ (by rw [makeG_length]; exact hj), lngTo_sizes _ _ (Nat.le_refl _), makeG_getD _ _ _ hj] at h2
    by_cases h : inL gone ((data.length : Int) + j) = true
    · rw [if_pos h] at h2
      simp only [List.length_nil] at h2
      exact h1 ⟨h, by unfold longG; omega⟩
    · rw [if_neg h, parG_length] at h2; exact h2 rfl
end
end Go.Proofs.Ytiggohkkokalcaa

/-! The plain law of ParityRestores, second part: the lost blocks are the only solution. -/
namespace Go.Proofs.Ytiggohkkokalcaa
set_option linter.unusedVariables false
set_option linter.unusedSimpArgs false

theorem getD_app {l : List Nat} {x c : Nat} (h : c < l.length) : (l ++ [x]).getD c 0 = l.getD c 0 := by
  rw [List.getD_eq_getElem?_getD, List.getElem?_append_left h, List.getD_eq_getElem?_getD]
theorem xsum_filter (P : Nat → Bool) (g : Nat → G) (n : Nat) : xsum n (fun i => if P i = true then g i else 0) = xsum ((List.range n).filter P).length (fun c => g (((List.range n).filter P).getD c 0)) := by
  induction n with
  | zero => rfl
  | succ n ih =>
    rw [xsum, ih, List.range_succ, List.filter_append]
    cases h : P n
    · have e : List.filter P [n] = [] := by simp [h]
      rw [e, List.append_nil, if_neg (by simp)]
      simp
    · have e : List.filter P [n] = [n] := by simp [h]
      rw [e, if_pos rfl, List.length_append, List.length_singleton, xsum]
      congr 1
      · exact xsum_congr _ _ _ (fun c hc => by rw [getD_app hc])
      · simp [List.getD_eq_getElem?_getD]
theorem at2_over (bss : List (List G)) (i p : Nat) (h : (bss.getD i []).length ≤ p) : at2 bss i p = 0 := getD_over _ _ _ h
section
variable {data : List (List G)} {f : Nat} {gone : List Int}
theorem scene_sol (S : Scene data f gone) (p : Nat) (hp : p < longG data) :
    Sol (lostN (withoutG data gone 0) (sizesG data)).length (at2 (rowsG (lostN (withoutG data gone 0) (sizesG data)) (leftN (withoutG (makeG data f) gone data.length) (lngTo (sizesG data) data.length)) (lostN (withoutG data gone 0) (sizesG data)).length))
      (fun r => at2 (blksG (withoutG data gone 0) (withoutG (makeG data f) gone data.length) (leftN (withoutG (makeG data f) gone data.length) (lngTo (sizesG data) data.length)) (lostN (withoutG data gone 0) (sizesG data)).length) r p)
      (fun c => at2 data ((lostN (withoutG data gone 0) (sizesG data)).getD c 0) p) := by
  have hfew := scene_few S
  have e1 := withoutG_length data gone 0
  have e2 := withoutG_length (makeG data f) gone data.length
  rw [makeG_length] at e2
  intro r hr
  have hj := leftN_at (Nat.lt_of_lt_of_le hr hfew)
  rw [e2] at hj
  dsimp only
  show _ = ((blksG _ _ _ _).getD r []).getD p 0
  rw [blksG_getD _ _ _ _ _ hfew hr]
  have hrow : ∀ c, c < (lostN (withoutG data gone 0) (sizesG data)).length → at2 (rowsG (lostN (withoutG data gone 0) (sizesG data)) (leftN (withoutG (makeG data f) gone data.length) (lngTo (sizesG data) data.length)) (lostN (withoutG data gone 0) (sizesG data)).length) r c = fG ((leftN (withoutG (makeG data f) gone data.length) (lngTo (sizesG data) data.length)).getD r 0) ((lostN (withoutG data gone 0) (sizesG data)).getD c 0) := fun c hc => by
    unfold at2
    rw [rowsG_getD _ _ _ _ hfew hr, rowG_getD _ _ _ hc]
  generalize (leftN (withoutG (makeG data f) gone data.length) (lngTo (sizesG data) data.length)).getD r 0 = j at *
  have hg := fun h => hj.2 ((gone_iff j hj.1).2 ⟨h, by omega⟩)
  have hq : (withoutG (makeG data f) gone data.length).getD j [] = parG data j := by
    rw [withoutG_getD _ _ _ _ (by rw [makeG_length]; exact hj.1), if_neg hg, makeG_getD _ _ _ hj.1]
  unfold blkG
  rw [sumG_getD _ _ _ _ (by rw [hq, parG_length]; exact hp), hq, parG_getD _ _ _ hp, e1, ← xsum_add]
  have hx : xsum data.length (fun i => term (fG j) data p i ^^^ term (fun i => fG j i) (withoutG data gone 0) p i) = xsum data.length (fun i => if decide (lostAt (withoutG data gone 0) (sizesG data) i) = true then gm (fG j i) (at2 data i p) else 0) := by
    refine xsum_congr _ _ _ (fun i hi => ?_)
    unfold term
    have hd : at2 (withoutG data gone 0) i p = if inL gone i = true then 0 else at2 data i p := by
      unfold at2
      rw [withoutG_getD _ _ _ _ hi, Int.zero_add]
      split
      · rfl
      · rfl
    rw [hd]
    by_cases h : inL gone i = true
    · rw [if_pos h, gm_zero]
      by_cases h0 : 0 < (data.getD i []).length
      · rw [if_pos (decide_eq_true ((lost_iff i hi).2 ⟨h, h0⟩))]; simp
      · rw [if_neg (by rw [decide_eq_true_iff, lost_iff i hi]; exact fun hh => h0 hh.2), at2_over data i p (by omega), gm_zero]; simp
    · rw [if_neg h, if_neg (by rw [decide_eq_true_iff, lost_iff i hi]; exact fun hh => h hh.1)]; simp
  rw [hx, xsum_filter]
  have e3 : (List.range data.length).filter (fun i => decide (lostAt (withoutG data gone 0) (sizesG data) i)) = lostN (withoutG data gone 0) (sizesG data) := by unfold lostN; rw [e1]
  rw [e3]
  unfold lin
  exact xsum_congr _ _ _ (fun c hc => by rw [hrow c hc])
end
end Go.Proofs.Ytiggohkkokalcaa

/-! The plain law of ParityRestores, third part: Repair gives the group. -/
namespace Go.Proofs.Ytiggohkkokalcaa
set_option linter.unusedVariables false
set_option linter.unusedSimpArgs false

section
variable {data : List (List G)} {f : Nat} {gone : List Int}
theorem scene_lng : lngN (withoutG data gone 0) (sizesG data) = longG data := by
  unfold lngN
  rw [withoutG_length, lngTo_sizes _ _ (Nat.le_refl _), Int.toNat_natCast]; rfl
theorem scene_X (S : Scene data f gone) {X : List (List G)} (h : Sols (withoutG data gone 0) (withoutG (makeG data f) gone data.length) (sizesG data) X) (c : Nat) (hc : c < (lostN (withoutG data gone 0) (sizesG data)).length) (p : Nat) (hp : p < longG data) :
    (X.getD c []).getD p 0 = (data.getD ((lostN (withoutG data gone 0) (sizesG data)).getD c 0) []).getD p 0 := by
  have hok := scene_ok S
  have e1 := withoutG_length data gone 0
  have e2 := withoutG_length (makeG data f) gone data.length
  rw [makeG_length] at e2
  have h3 := h.2.2 p (by rw [scene_lng]; exact hp)
  have h4 := scene_sol S p hp
  rw [e1] at h3
  have hI := rows_inj (lostN (withoutG data gone 0) (sizesG data)) (leftN (withoutG (makeG data f) gone data.length) (lngTo (sizesG data) data.length)) (lostN_sorted _ _) (leftN_sorted _ _) (fun c hc => by have := (lostN_at hc).1; have := S.h16; omega) (fun c hc => by have := (leftN_at hc).1; have := S.h4; omega) (scene_few S)
  exact sol_unique hI h3 h4 c hc
theorem scene_lost (S : Scene data f gone) (c : Nat) (hc : c < (lostN (withoutG data gone 0) (sizesG data)).length) :
    (lostN (withoutG data gone 0) (sizesG data)).getD c 0 < data.length ∧ inL gone ((lostN (withoutG data gone 0) (sizesG data)).getD c 0 : Nat) = true ∧
      sizeAt (sizesG data) (lostN (withoutG data gone 0) (sizesG data)) c = (data.getD ((lostN (withoutG data gone 0) (sizesG data)).getD c 0) []).length := by
  have h := lostN_at hc
  rw [withoutG_length] at h
  refine ⟨h.1, ((lost_iff _ h.1).1 h.2).1, ?_⟩
  unfold sizeAt
  rw [sizesG_getD _ _ h.1, Int.toNat_natCast]
theorem scene_tail (S : Scene data f gone) {X : List (List G)} (h : Sols (withoutG data gone 0) (withoutG (makeG data f) gone data.length) (sizesG data) X) : ¬ TailBad (withoutG data gone 0) (sizesG data) X := by
  rintro ⟨c, hc, hb⟩
  obtain ⟨h1, _, h2⟩ := scene_lost S c hc
  rw [notZero_iff] at hb
  obtain ⟨j, hj, hz⟩ := hb
  have hl := h.2.1 c hc
  rw [scene_lng] at hl
  rw [List.length_drop, hl] at hj
  apply hz
  have e : ((X.getD c []).drop (sizeAt (sizesG data) (lostN (withoutG data gone 0) (sizesG data)) c)).getD j 0 = (X.getD c []).getD (sizeAt (sizesG data) (lostN (withoutG data gone 0) (sizesG data)) c + j) 0 := by
    simp only [List.getD_eq_getElem?_getD, List.getElem?_drop]
  rw [e, scene_X S h c hc _ (by omega)]
  exact getD_over _ _ _ (by rw [h2]; omega)
theorem scene_take (S : Scene data f gone) {X : List (List G)} (h : Sols (withoutG data gone 0) (withoutG (makeG data f) gone data.length) (sizesG data) X) (c : Nat) (hc : c < (lostN (withoutG data gone 0) (sizesG data)).length) :
    (X.getD c []).take (sizeAt (sizesG data) (lostN (withoutG data gone 0) (sizesG data)) c) = data.getD ((lostN (withoutG data gone 0) (sizesG data)).getD c 0) [] := by
  obtain ⟨h1, _, h2⟩ := scene_lost S c hc
  have hl := h.2.1 c hc
  rw [scene_lng] at hl
  have hge := longG_ge data ((lostN (withoutG data gone 0) (sizesG data)).getD c 0)
  rw [h2]
  refine list_ext_getD 0 (by rw [List.length_take, hl]; omega) (fun p hp => ?_)
  rw [List.length_take, hl] at hp
  have e : ((X.getD c []).take (data.getD ((lostN (withoutG data gone 0) (sizesG data)).getD c 0) []).length).getD p 0 = (X.getD c []).getD p 0 := by
    rw [List.getD_eq_getElem?_getD, List.getElem?_take_of_lt (by omega), List.getD_eq_getElem?_getD]
    simp only [List.getD_eq_getElem?_getD]
  rw [e]
  exact scene_X S h c hc p (by omega)
theorem scene_out (S : Scene data f gone) {X : List (List G)} (h : Sols (withoutG data gone 0) (withoutG (makeG data f) gone data.length) (sizesG data) X) : outG (withoutG data gone 0) (sizesG data) X = data := by
  have key : ∀ r, r ≤ (lostN (withoutG data gone 0) (sizesG data)).length → ∀ i, i < data.length → (outTo (withoutG data gone 0) (sizesG data) X (lostN (withoutG data gone 0) (sizesG data)) r).getD i [] = if (∃ c, c < r ∧ (lostN (withoutG data gone 0) (sizesG data)).getD c 0 = i) then data.getD i [] else (withoutG data gone 0).getD i [] := by
    intro r
    induction r with
    | zero => intro _ i hi; rw [if_neg (by rintro ⟨c, hc, _⟩; omega)]; rfl
    | succ r ih =>
      intro hr i hi
      have hl := scene_lost S r (by omega)
      unfold outTo
      rw [scene_take S h r (by omega)]
      have hs := rat_set (outTo (withoutG data gone 0) (sizesG data) X (lostN (withoutG data gone 0) (sizesG data)) r) ((lostN (withoutG data gone 0) (sizesG data)).getD r 0) i (data.getD ((lostN (withoutG data gone 0) (sizesG data)).getD r 0) []) (by rw [outTo_length, withoutG_length]; exact hl.1)
      unfold rat at hs
      rw [hs]
      by_cases e : i = (lostN (withoutG data gone 0) (sizesG data)).getD r 0
      · rw [if_pos e, if_pos ⟨r, by omega, e.symm⟩, e]
      · rw [if_neg e, ih (by omega) i hi]
        by_cases h1 : ∃ c, c < r ∧ (lostN (withoutG data gone 0) (sizesG data)).getD c 0 = i
        · obtain ⟨c, hc, he⟩ := h1
          rw [if_pos ⟨c, hc, he⟩, if_pos ⟨c, by omega, he⟩]
        · rw [if_neg h1, if_neg]
          rintro ⟨c, hc, he⟩
          by_cases e2 : c = r
          · subst e2; exact e he.symm
          · exact h1 ⟨c, by omega, he⟩
  unfold outG
  refine list_ext_getD [] (by rw [outTo_length, withoutG_length]) (fun i hi => ?_)
  rw [outTo_length, withoutG_length] at hi
  rw [key _ (Nat.le_refl _) i hi]
  split
  · rfl
  · rename_i hn
    rw [withoutG_getD _ _ _ _ hi, Int.zero_add]
    split
    · rename_i hin
      by_cases h0 : 0 < (data.getD i []).length
      · exfalso
        have hm : i ∈ lostN (withoutG data gone 0) (sizesG data) := by
          unfold lostN
          rw [List.mem_filter, List.mem_range, withoutG_length, decide_eq_true_iff]
          exact ⟨hi, (lost_iff i hi).2 ⟨hin, h0⟩⟩
        obtain ⟨c, hc, he⟩ := List.getElem_of_mem hm
        exact hn ⟨c, hc, by rw [List.getD_eq_getElem?_getD, List.getElem?_eq_getElem hc]; exact he⟩
      · exact (List.eq_nil_of_length_eq_zero (by omega)).symm
    · rfl
theorem scene_sum (S : Scene data f gone) {X : List (List G)} (h : Sols (withoutG data gone 0) (withoutG (makeG data f) gone data.length) (sizesG data) X) : ¬ SumBad (withoutG data gone 0) (withoutG (makeG data f) gone data.length) (sizesG data) X := by
  have e1 := withoutG_length data gone 0
  have e2 := withoutG_length (makeG data f) gone data.length
  rw [makeG_length] at e2
  rintro ⟨c, hc, hb⟩
  rw [scene_out S h, e2] at hb
  rw [e1] at hb hc
  have hj := leftN_at hc
  rw [e2] at hj
  generalize (leftN (withoutG (makeG data f) gone data.length) (lngTo (sizesG data) data.length)).getD c 0 = j at *
  apply hb
  rw [withoutG_getD _ _ _ _ (by rw [makeG_length]; exact hj.1)]
  split
  · rename_i hin
    have h0 : ¬ 0 < longG data := fun h0 => hj.2 ((gone_iff j hj.1).2 ⟨hin, h0⟩)
    rw [makeG_getD _ _ _ hj.1]
    exact List.eq_nil_of_length_eq_zero (by rw [parG_length]; omega)
  · rfl
end
end Go.Proofs.Ytiggohkkokalcaa

/-! The scene of a repair once more, with what is needed alone: not more data blocks are lost than parity blocks are left. -/
namespace Go.Proofs.Ytiggohkkokalcaa
set_option linter.unusedVariables false
set_option linter.unusedSimpArgs false

/-- data, its parity blocks, what is lost: enough is left -/
structure Scn (data : List (List G)) (f : Nat) (gone : List Int) : Prop where
  h16 : data.length ≤ 16
  h4 : f ≤ 4
  hl : longG data ≤ 65536
  few : (lostN (withoutG data gone 0) (sizesG data)).length ≤ (leftN (withoutG (makeG data f) gone data.length) (lngTo (sizesG data) data.length)).length
section
variable {data : List (List G)} {f : Nat} {gone : List Int}
theorem scn_few (S : Scn data f gone) : (lostN (withoutG data gone 0) (sizesG data)).length ≤ (leftN (withoutG (makeG data f) gone data.length) (lngTo (sizesG data) data.length)).length := S.few
theorem scn_ok (S : Scn data f gone) : ChkOK (withoutG data gone 0) (withoutG (makeG data f) gone data.length) (sizesG data) := by
  have e1 := withoutG_length data gone 0
  have e2 := withoutG_length (makeG data f) gone data.length
  rw [makeG_length] at e2
  refine ⟨by rw [e1]; exact S.h16, by rw [e2]; exact S.h4, by rw [e1, sizesG_length], fun i hi => ?_, fun i hi => ?_, fun j hj => ?_, by rw [e1]; exact scn_few S⟩
  · rw [e1] at hi
    rw [sizesG_getD _ _ hi]
    have := longG_ge data i
    have := S.hl
    omega
  · rw [e1] at hi
    rintro ⟨h1, h2⟩
    rw [lost_iff i hi] at h1
    rw [withoutG_getD _ _ _ _ hi, sizesG_getD _ _ hi, Int.zero_add] at h2
    by_cases h : inL gone i = true
    · rw [if_pos h] at h2
      simp only [List.length_nil] at h2
      exact h1 ⟨h, by omega⟩
    · rw [if_neg h] at h2; exact h2 rfl
  · rw [e2] at hj
    rw [e1]
    rintro ⟨h1, h2⟩
    rw [gone_iff j hj] at h1
    rw [withoutG_getD _ _ _ _ (by rw [makeG_length]; exact hj), lngTo_sizes _ _ (Nat.le_refl _), makeG_getD _ _ _ hj] at h2
    by_cases h : inL gone ((data.length : Int) + j) = true
    · rw [if_pos h] at h2
      simp only [List.length_nil] at h2
      exact h1 ⟨h, by unfold longG; omega⟩
    · rw [if_neg h, parG_length] at h2; exact h2 rfl
theorem scn_sol (S : Scn data f gone) (p : Nat) (hp : p < longG data) :
    Sol (lostN (withoutG data gone 0) (sizesG data)).length (at2 (rowsG (lostN (withoutG data gone 0) (sizesG data)) (leftN (withoutG (makeG data f) gone data.length) (lngTo (sizesG data) data.length)) (lostN (withoutG data gone 0) (sizesG data)).length))
      (fun r => at2 (blksG (withoutG data gone 0) (withoutG (makeG data f) gone data.length) (leftN (withoutG (makeG data f) gone data.length) (lngTo (sizesG data) data.length)) (lostN (withoutG data gone 0) (sizesG data)).length) r p)
      (fun c => at2 data ((lostN (withoutG data gone 0) (sizesG data)).getD c 0) p) := by
  have hfew := scn_few S
  have e1 := withoutG_length data gone 0
  have e2 := withoutG_length (makeG data f) gone data.length
  rw [makeG_length] at e2
  intro r hr
  have hj := leftN_at (Nat.lt_of_lt_of_le hr hfew)
  rw [e2] at hj
  dsimp only
  show _ = ((blksG _ _ _ _).getD r []).getD p 0
  rw [blksG_getD _ _ _ _ _ hfew hr]
  have hrow : ∀ c, c < (lostN (withoutG data gone 0) (sizesG data)).length → at2 (rowsG (lostN (withoutG data gone 0) (sizesG data)) (leftN (withoutG (makeG data f) gone data.length) (lngTo (sizesG data) data.length)) (lostN (withoutG data gone 0) (sizesG data)).length) r c = fG ((leftN (withoutG (makeG data f) gone data.length) (lngTo (sizesG data) data.length)).getD r 0) ((lostN (withoutG data gone 0) (sizesG data)).getD c 0) := fun c hc => by
    unfold at2
    rw [rowsG_getD _ _ _ _ hfew hr, rowG_getD _ _ _ hc]
  generalize (leftN (withoutG (makeG data f) gone data.length) (lngTo (sizesG data) data.length)).getD r 0 = j at *
  have hg := fun h => hj.2 ((gone_iff j hj.1).2 ⟨h, by omega⟩)
  have hq : (withoutG (makeG data f) gone data.length).getD j [] = parG data j := by
    rw [withoutG_getD _ _ _ _ (by rw [makeG_length]; exact hj.1), if_neg hg, makeG_getD _ _ _ hj.1]
  unfold blkG
  rw [sumG_getD _ _ _ _ (by rw [hq, parG_length]; exact hp), hq, parG_getD _ _ _ hp, e1, ← xsum_add]
  have hx : xsum data.length (fun i => term (fG j) data p i ^^^ term (fun i => fG j i) (withoutG data gone 0) p i) = xsum data.length (fun i => if decide (lostAt (withoutG data gone 0) (sizesG data) i) = true then gm (fG j i) (at2 data i p) else 0) := by
    refine xsum_congr _ _ _ (fun i hi => ?_)
    unfold term
    have hd : at2 (withoutG data gone 0) i p = if inL gone i = true then 0 else at2 data i p := by
      unfold at2
      rw [withoutG_getD _ _ _ _ hi, Int.zero_add]
      split
      · rfl
      · rfl
    rw [hd]
    by_cases h : inL gone i = true
    · rw [if_pos h, gm_zero]
      by_cases h0 : 0 < (data.getD i []).length
      · rw [if_pos (decide_eq_true ((lost_iff i hi).2 ⟨h, h0⟩))]; simp
      · rw [if_neg (by rw [decide_eq_true_iff, lost_iff i hi]; exact fun hh => h0 hh.2), at2_over data i p (by omega), gm_zero]; simp
    · rw [if_neg h, if_neg (by rw [decide_eq_true_iff, lost_iff i hi]; exact fun hh => h hh.1)]; simp
  rw [hx, xsum_filter]
  have e3 : (List.range data.length).filter (fun i => decide (lostAt (withoutG data gone 0) (sizesG data) i)) = lostN (withoutG data gone 0) (sizesG data) := by unfold lostN; rw [e1]
  rw [e3]
  unfold lin
  exact xsum_congr _ _ _ (fun c hc => by rw [hrow c hc])
theorem scn_lng : lngN (withoutG data gone 0) (sizesG data) = longG data := by
  unfold lngN
  rw [withoutG_length, lngTo_sizes _ _ (Nat.le_refl _), Int.toNat_natCast]; rfl
theorem scn_X (S : Scn data f gone) {X : List (List G)} (h : Sols (withoutG data gone 0) (withoutG (makeG data f) gone data.length) (sizesG data) X) (c : Nat) (hc : c < (lostN (withoutG data gone 0) (sizesG data)).length) (p : Nat) (hp : p < longG data) :
    (X.getD c []).getD p 0 = (data.getD ((lostN (withoutG data gone 0) (sizesG data)).getD c 0) []).getD p 0 := by
  have hok := scn_ok S
  have e1 := withoutG_length data gone 0
  have e2 := withoutG_length (makeG data f) gone data.length
  rw [makeG_length] at e2
  have h3 := h.2.2 p (by rw [scn_lng]; exact hp)
  have h4 := scn_sol S p hp
  rw [e1] at h3
  have hI := rows_inj (lostN (withoutG data gone 0) (sizesG data)) (leftN (withoutG (makeG data f) gone data.length) (lngTo (sizesG data) data.length)) (lostN_sorted _ _) (leftN_sorted _ _) (fun c hc => by have := (lostN_at hc).1; have := S.h16; omega) (fun c hc => by have := (leftN_at hc).1; have := S.h4; omega) (scn_few S)
  exact sol_unique hI h3 h4 c hc
theorem scn_lost (S : Scn data f gone) (c : Nat) (hc : c < (lostN (withoutG data gone 0) (sizesG data)).length) :
    (lostN (withoutG data gone 0) (sizesG data)).getD c 0 < data.length ∧ inL gone ((lostN (withoutG data gone 0) (sizesG data)).getD c 0 : Nat) = true ∧
      sizeAt (sizesG data) (lostN (withoutG data gone 0) (sizesG data)) c = (data.getD ((lostN (withoutG data gone 0) (sizesG data)).getD c 0) []).length := by
  have h := lostN_at hc
  rw [withoutG_length] at h
  refine ⟨h.1, ((lost_iff _ h.1).1 h.2).1, ?_⟩
  unfold sizeAt
  rw [sizesG_getD _ _ h.1, Int.toNat_natCast]
theorem scn_tail (S : Scn data f gone) {X : List (List G)} (h : Sols (withoutG data gone 0) (withoutG (makeG data f) gone data.length) (sizesG data) X) : ¬ TailBad (withoutG data gone 0) (sizesG data) X := by
  rintro ⟨c, hc, hb⟩
  obtain ⟨h1, _, h2⟩ := scn_lost S c hc
  rw [notZero_iff] at hb
  obtain ⟨j, hj, hz⟩ := hb
  have hl := h.2.1 c hc
  rw [scn_lng] at hl
  rw [List.length_drop, hl] at hj
  apply hz
  have e : ((X.getD c []).drop (sizeAt (sizesG data) (lostN (withoutG data gone 0) (sizesG data)) c)).getD j 0 = (X.getD c []).getD (sizeAt (sizesG data) (lostN (withoutG data gone 0) (sizesG data)) c + j) 0 := by
    simp only [List.getD_eq_getElem?_getD, List.getElem?_drop]
  rw [e, scn_X S h c hc _ (by omega)]
  exact getD_over _ _ _ (by rw [h2]; omega)
theorem scn_take (S : Scn data f gone) {X : List (List G)} (h : Sols (withoutG data gone 0) (withoutG (makeG data f) gone data.length) (sizesG data) X) (c : Nat) (hc : c < (lostN (withoutG data gone 0) (sizesG data)).length) :
    (X.getD c []).take (sizeAt (sizesG data) (lostN (withoutG data gone 0) (sizesG data)) c) = data.getD ((lostN (withoutG data gone 0) (sizesG data)).getD c 0) [] := by
  obtain ⟨h1, _, h2⟩ := scn_lost S c hc
  have hl := h.2.1 c hc
  rw [scn_lng] at hl
  have hge := longG_ge data ((lostN (withoutG data gone 0) (sizesG data)).getD c 0)
  rw [h2]
  refine list_ext_getD 0 (by rw [List.length_take, hl]; omega) (fun p hp => ?_)
  rw [List.length_take, hl] at hp
  have e : ((X.getD c []).take (data.getD ((lostN (withoutG data gone 0) (sizesG data)).getD c 0) []).length).getD p 0 = (X.getD c []).getD p 0 := by
    rw [List.getD_eq_getElem?_getD, List.getElem?_take_of_lt (by omega), List.getD_eq_getElem?_getD]
    simp only [List.getD_eq_getElem?_getD]
  rw [e]
  exact scn_X S h c hc p (by omega)
theorem scn_out (S : Scn data f gone) {X : List (List G)} (h : Sols (withoutG data gone 0) (withoutG (makeG data f) gone data.length) (sizesG data) X) : outG (withoutG data gone 0) (sizesG data) X = data := by
  have key : ∀ r, r ≤ (lostN (withoutG data gone 0) (sizesG data)).length → ∀ i, i < data.length → (outTo (withoutG data gone 0) (sizesG data) X (lostN (withoutG data gone 0) (sizesG data)) r).getD i [] = if (∃ c, c < r ∧ (lostN (withoutG data gone 0) (sizesG data)).getD c 0 = i) then data.getD i [] else (withoutG data gone 0).getD i [] := by
    intro r
    induction r with
    | zero => intro _ i hi; rw [if_neg (by rintro ⟨c, hc, _⟩; omega)]; rfl
    | succ r ih =>
      intro hr i hi
      have hl := scn_lost S r (by omega)
      unfold outTo
      rw [scn_take S h r (by omega)]
      have hs := rat_set (outTo (withoutG data gone 0) (sizesG data) X (lostN (withoutG data gone 0) (sizesG data)) r) ((lostN (withoutG data gone 0) (sizesG data)).getD r 0) i (data.getD ((lostN (withoutG data gone 0) (sizesG data)).getD r 0) []) (by rw [outTo_length, withoutG_length]; exact hl.1)
      unfold rat at hs
      rw [hs]
      by_cases e : i = (lostN (withoutG data gone 0) (sizesG data)).getD r 0
      · rw [if_pos e, if_pos ⟨r, by omega, e.symm⟩, e]
      · rw [if_neg e, ih (by omega) i hi]
        by_cases h1 : ∃ c, c < r ∧ (lostN (withoutG data gone 0) (sizesG data)).getD c 0 = i
        · obtain ⟨c, hc, he⟩ := h1
          rw [if_pos ⟨c, hc, he⟩, if_pos ⟨c, by omega, he⟩]
        · rw [if_neg h1, if_neg]
          rintro ⟨c, hc, he⟩
          by_cases e2 : c = r
          · subst e2; exact e he.symm
          · exact h1 ⟨c, by omega, he⟩
  unfold outG
  refine list_ext_getD [] (by rw [outTo_length, withoutG_length]) (fun i hi => ?_)
  rw [outTo_length, withoutG_length] at hi
  rw [key _ (Nat.le_refl _) i hi]
  split
  · rfl
  · rename_i hn
    rw [withoutG_getD _ _ _ _ hi, Int.zero_add]
    split
    · rename_i hin
      by_cases h0 : 0 < (data.getD i []).length
      · exfalso
        have hm : i ∈ lostN (withoutG data gone 0) (sizesG data) := by
          unfold lostN
          rw [List.mem_filter, List.mem_range, withoutG_length, decide_eq_true_iff]
          exact ⟨hi, (lost_iff i hi).2 ⟨hin, h0⟩⟩
        obtain ⟨c, hc, he⟩ := List.getElem_of_mem hm
        exact hn ⟨c, hc, by rw [List.getD_eq_getElem?_getD, List.getElem?_eq_getElem hc]; exact he⟩
      · exact (List.eq_nil_of_length_eq_zero (by omega)).symm
    · rfl
theorem scn_sum (S : Scn data f gone) {X : List (List G)} (h : Sols (withoutG data gone 0) (withoutG (makeG data f) gone data.length) (sizesG data) X) : ¬ SumBad (withoutG data gone 0) (withoutG (makeG data f) gone data.length) (sizesG data) X := by
  have e1 := withoutG_length data gone 0
  have e2 := withoutG_length (makeG data f) gone data.length
  rw [makeG_length] at e2
  rintro ⟨c, hc, hb⟩
  rw [scn_out S h, e2] at hb
  rw [e1] at hb hc
  have hj := leftN_at hc
  rw [e2] at hj
  generalize (leftN (withoutG (makeG data f) gone data.length) (lngTo (sizesG data) data.length)).getD c 0 = j at *
  apply hb
  rw [withoutG_getD _ _ _ _ (by rw [makeG_length]; exact hj.1)]
  split
  · rename_i hin
    have h0 : ¬ 0 < longG data := fun h0 => hj.2 ((gone_iff j hj.1).2 ⟨hin, h0⟩)
    rw [makeG_getD _ _ _ hj.1]
    exact List.eq_nil_of_length_eq_zero (by rw [parG_length]; omega)
  · rfl
/-- too much is lost: the error -/
theorem lost_err (h16 : data.length ≤ 16) (h4 : f ≤ 4) (hl : longG data ≤ 65536) (hm : (leftN (withoutG (makeG data f) gone data.length) (lngTo (sizesG data) data.length)).length < (lostN (withoutG data gone 0) (sizesG data)).length) :
    chkErr (withoutG data gone 0) (withoutG (makeG data f) gone data.length) (sizesG data) = 26 := by
  have e1 := withoutG_length data gone 0
  have e2 := withoutG_length (makeG data f) gone data.length
  rw [makeG_length] at e2
  unfold chkErr
  rw [lostTo_lostN, leftTo_leftN, List.length_map, List.length_map]
  rw [if_neg (by rw [e1, e2]; omega), if_neg, if_neg, if_pos (by rw [e1]; exact hm)]
  · rintro (⟨i, hi, h1, h2⟩ | ⟨j, hj, h1, h2⟩)
    · rw [e1] at hi
      rw [lost_iff i hi] at h1
      rw [withoutG_getD _ _ _ _ hi, sizesG_getD _ _ hi, Int.zero_add] at h2
      by_cases h : inL gone i = true
      · rw [if_pos h] at h2
        simp only [List.length_nil] at h2
        exact h1 ⟨h, by omega⟩
      · rw [if_neg h] at h2; exact h2 rfl
    · rw [e2] at hj
      rw [e1] at h1 h2
      rw [gone_iff j hj] at h1
      rw [withoutG_getD _ _ _ _ (by rw [makeG_length]; exact hj), lngTo_sizes _ _ (Nat.le_refl _), makeG_getD _ _ _ hj] at h2
      by_cases h : inL gone ((data.length : Int) + j) = true
      · rw [if_pos h] at h2
        simp only [List.length_nil] at h2
        exact h1 ⟨h, by unfold longG; omega⟩
      · rw [if_neg h, parG_length] at h2; exact h2 rfl
  · rw [e1, sizesG_length]
    rintro (h | h)
    · exact h rfl
    · rw [List.any_eq_true] at h
      obtain ⟨x, hx, hb⟩ := h
      obtain ⟨i, hi, rfl⟩ := List.getElem_of_mem hx
      have hi2 : i < data.length := by rw [sizesG_length] at hi; exact hi
      have e : (sizesG data)[i] = (sizesG data).getD i 0 := by rw [List.getD_eq_getElem?_getD, List.getElem?_eq_getElem hi]; rfl
      rw [e, sizesG_getD _ _ hi2] at hb
      have := longG_ge data i
      unfold badSize at hb
      have h3 := of_decide_eq_true hb
      omega
end
end Go.Proofs.Ytiggohkkokalcaa
