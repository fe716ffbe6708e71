/- Linearity: what the lists that ParityLinear builds have to satisfy, and that their parity blocks are linear. -/
import Derived.Test.YtiggohkkokalcaaMakePlain
namespace Go.Proofs.Ytiggohkkokalcaa

/-- rows o, s, t behind k places of a row b -/
structure RowOK (c : G) (b : List G) (k : Nat) (o s t : List G) : Prop where
  lo : o.length = k
  ls : s.length = k
  lt : t.length = k
  sum : ∀ i, i < k → s.getD i 0 = o.getD i 0 ^^^ b.getD i 0
  times : ∀ i, i < k → t.getD i 0 = gm c (b.getD i 0)
theorem getD_snoc {α : Type} (d : α) (l : List α) (x : α) (i : Nat) : (l ++ [x]).getD i d = if i < l.length then l.getD i d else if i = l.length then x else d := by
  simp only [List.getD_eq_getElem?_getD]
  by_cases h : i < l.length
  · rw [if_pos h, List.getElem?_append_left h]
  · rw [if_neg h, List.getElem?_append_right (by omega)]
    by_cases e : i = l.length
    · subst e; simp
    · rw [if_neg e, List.getElem?_eq_none (by simp; omega)]; rfl
theorem getD_over {α : Type} (d : α) (l : List α) (i : Nat) (h : l.length ≤ i) : l.getD i d = d := by
  rw [List.getD_eq_getElem?_getD, List.getElem?_eq_none h]; rfl
theorem RowOK.start (c : G) (b : List G) : RowOK c b 0 [] [] [] := ⟨rfl, rfl, rfl, fun i h => by omega, fun i h => by omega⟩
theorem RowOK.step {c : G} {b : List G} {k : Nat} {o s t : List G} (h : RowOK c b k o s t) (x : G) :
    RowOK c b (k + 1) (o ++ [x]) (s ++ [x ^^^ b.getD k 0]) (t ++ [gm c (b.getD k 0)]) := by
  obtain ⟨h1, h2, h3, h4, h5⟩ := h
  refine ⟨by simp [h1], by simp [h2], by simp [h3], fun i hi => ?_, fun i hi => ?_⟩
  · rw [getD_snoc, getD_snoc, h1, h2]
    by_cases e : i < k
    · rw [if_pos e, if_pos e]; exact h4 i e
    · rw [if_neg e, if_neg e]
      have : i = k := by omega
      subst this; rw [if_pos rfl, if_pos rfl]
  · rw [getD_snoc, h3]
    by_cases e : i < k
    · rw [if_pos e]; exact h5 i e
    · rw [if_neg e]
      have : i = k := by omega
      subst this; rw [if_pos rfl]
/-- lists O, S, T behind k rows of a list -/
structure LinOK (c : G) (data : List (List G)) (k : Nat) (O S T : List (List G)) : Prop where
  lO : O.length = k
  lS : S.length = k
  lT : T.length = k
  row : ∀ i, i < k → RowOK c (data.getD i []) (data.getD i []).length (O.getD i []) (S.getD i []) (T.getD i [])
theorem LinOK.start (c : G) (data : List (List G)) : LinOK c data 0 [] [] [] := ⟨rfl, rfl, rfl, fun i h => by omega⟩
theorem LinOK.step {c : G} {data : List (List G)} {k : Nat} {O S T : List (List G)} (h : LinOK c data k O S T) {o s t : List G} (hr : RowOK c (data.getD k []) (data.getD k []).length o s t) :
    LinOK c data (k + 1) (O ++ [o]) (S ++ [s]) (T ++ [t]) := by
  obtain ⟨h1, h2, h3, h4⟩ := h
  refine ⟨by simp [h1], by simp [h2], by simp [h3], fun i hi => ?_⟩
  rw [getD_snoc, getD_snoc, getD_snoc, h1, h2, h3]
  by_cases e : i < k
  · rw [if_pos e, if_pos e, if_pos e]; exact h4 i e
  · rw [if_neg e, if_neg e, if_neg e]
    have : i = k := by omega
    subst this; rw [if_pos rfl, if_pos rfl, if_pos rfl]; exact hr

theorem longTo_same (a b : List (List G)) : ∀ k, (∀ i, i < k → (a.getD i []).length = (b.getD i []).length) → longTo a k = longTo b k
  | 0, _ => rfl
  | k + 1, h => by rw [longTo, longTo, longTo_same a b k (fun i hi => h i (by omega)), h k (by omega)]
theorem xsum_congr (n : Nat) (f g : Nat → G) (h : ∀ i, i < n → f i = g i) : xsum n f = xsum n g := by
  induction n with
  | zero => rfl
  | succ n ih => rw [xsum, xsum, ih (fun i hi => h i (by omega)), h n (by omega)]
theorem xsum_add (n : Nat) (f g : Nat → G) : xsum n (fun i => f i ^^^ g i) = xsum n f ^^^ xsum n g := by
  induction n with
  | zero => simp [xsum]
  | succ n ih => rw [xsum, xsum, xsum, ih]; ac_rfl
theorem xsum_gm (n : Nat) (c : G) (f : Nat → G) : xsum n (fun i => gm c (f i)) = gm c (xsum n f) := by
  induction n with
  | zero => exact (gm_zero c).symm
  | succ n ih => rw [xsum, xsum, ih, gm_add]
theorem LinOK.long {c : G} {data O S T : List (List G)} (h : LinOK c data data.length O S T) : longG O = longG data ∧ longG S = longG data ∧ longG T = longG data := by
  unfold longG
  rw [h.lO, h.lS, h.lT]
  exact ⟨longTo_same _ _ _ (fun i hi => (h.row i hi).lo), longTo_same _ _ _ (fun i hi => (h.row i hi).ls), longTo_same _ _ _ (fun i hi => (h.row i hi).lt)⟩
theorem LinOK.par {c : G} {data O S T : List (List G)} (h : LinOK c data data.length O S T) (j p : Nat) (hp : p < longG data) :
    (parG S j).getD p 0 = (parG data j).getD p 0 ^^^ (parG O j).getD p 0 ∧ (parG T j).getD p 0 = gm c ((parG data j).getD p 0) := by
  obtain ⟨l1, l2, l3⟩ := h.long
  rw [parG_getD _ _ _ hp, parG_getD _ _ _ (by omega), parG_getD _ _ _ (by omega), parG_getD _ _ _ (by omega), h.lO, h.lS, h.lT]
  constructor
  · rw [← xsum_add]
    apply xsum_congr
    intro i hi
    have hr := h.row i hi
    unfold term at2
    rw [← gm_add]
    congr 1
    by_cases e : p < (data.getD i []).length
    · rw [hr.sum p e, BitVec.xor_comm]
    · rw [getD_over 0 _ p (by rw [hr.ls]; omega), getD_over 0 _ p (by omega), getD_over 0 _ p (by rw [hr.lo]; omega)]; simp
  · rw [← xsum_gm]
    apply xsum_congr
    intro i hi
    have hr := h.row i hi
    unfold term at2
    rw [gm_left_comm c]
    congr 1
    by_cases e : p < (data.getD i []).length
    · rw [hr.times p e]
    · rw [getD_over 0 _ p (by rw [hr.lt]; omega), getD_over 0 _ p (by omega), gm_zero]
theorem makeErr_ok (data : List (List G)) (n : Nat) (hn : n ≤ 4) (hl : data.length ≤ 16) (hm : longG data ≤ 65536) : makeErr data n = 0 := by
  unfold makeErr; rw [if_neg (by omega), if_neg (by omega)]
theorem makeOut_ok (data : List (List G)) (n : Nat) (h : makeErr data n = 0) : makeOut data n = makeG data n := by
  unfold makeOut; rw [if_pos h, Int.toNat_natCast]
end Go.Proofs.Ytiggohkkokalcaa
