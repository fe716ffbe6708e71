/- Words for the walk of the reference's Repair: matrices and rows of rows made, read, and changed row by row. -/
import Derived.Test.YtiggohkkokalcaaCutAll
namespace Go.Proofs.Ytiggohkkokalcaa
open Go.RowKit Go.Proofs.YtiggohkkokalcaaW.PrintWords Go.Proofs.YtiggohkkokalcaaW.PrintMore
set_option linter.unusedVariables false
set_option linter.unusedSimpArgs false

/-- a row whose elements may be shared, its values named -/
theorem Outs.ofN {w : World} {B : Nat} {ok : Nat → Prop} {v : Value} {bss : List (List G)} (h : Kd.N KGs 33 w B ok v bss) : ∃ vs, Outs w B bss.length v vs bss := by
  obtain ⟨h0, rows, hl, hR, hf⟩ := h
  obtain ⟨_, inner, ho, hr⟩ := hR
  have hil : inner.length = bss.length := by rw [hr.1, hl]; show bss.length * 1 = _; omega
  rw [hl] at ho
  refine ⟨inner, ho, hil, rfl, fun r hr2 => ?_⟩
  have hj : r < rows.length := by omega
  have hi : r < inner.length := by omega
  have hk := hf r _ _ (List.getElem?_eq_getElem hr2) (List.getElem?_eq_getElem hj)
  have h3 := (hr.2 r _ (List.getElem?_eq_getElem hj)).1
  have h4 : (inner.drop (r * 1)).take 1 = rows[r] := h3
  rw [Nat.mul_one, List.take_one, List.head?_drop, List.getElem?_eq_getElem hi] at h4
  rw [← h4] at hk
  have e1 : vat inner r = inner[r] := by unfold vat; rw [List.getD_eq_getElem?_getD, List.getElem?_eq_getElem hi]; rfl
  have e2 : rat bss r = bss[r] := by unfold rat; rw [List.getD_eq_getElem?_getD, List.getElem?_eq_getElem hr2]; rfl
  rw [e1, e2]
  obtain ⟨A1, c1, he, hl1, hf1⟩ := Kd.FK_slice_open hk
  simp only [Option.toList_some, List.cons.injEq, and_true] at he
  rw [he]
  exact Kd.V_mono ⟨A1, c1, rfl, hl1, hf1⟩ (fun k hk => hk.2)
/-- a matrix of empty rows -/
theorem Mat.made {w : World} {B n : Nat} {v : Value} {ok : Nat → Prop} (h : KSl.R 33 w B ok v (List.replicate n (none, 0, 0))) : Mat w B n v (List.replicate n nilS) (List.replicate n []) := by
  have h1 := Outs.made h
  have e1 : ∀ r, vat (List.replicate n nilS) r = nilS := fun r => by
    unfold vat
    rw [List.getD_eq_getElem?_getD, List.getElem?_replicate]
    split <;> rfl
  have e2 : ∀ r, rat (List.replicate n []) r = ([] : List G) := fun r => by
    unfold rat
    rw [List.getD_eq_getElem?_getD, List.getElem?_replicate]
    split <;> rfl
  refine ⟨h1.own, h1.lv, h1.lr, fun r hr => ?_, fun r s hr hs hne => ?_⟩
  · rw [e1, e2]; exact World.ownsRow_nil _ _ _ _
  · rw [e1]; exact .inl rfl
/-- a matrix, read -/
theorem Mat.outs {w : World} {B n : Nat} {v : Value} {vs : List Value} {R : List (List G)} (h : Mat w B n v vs R) : Outs w B n v vs R := by
  refine ⟨h.own, h.lv, h.lr, fun r hr => ?_⟩
  refine Kd.V_mono (h.row r hr).V (fun k hk he => ?_)
  rcases h.outer (h.row r hr) with h1 | h1
  · rw [h1] at he; cases he
  · exact h1 (he.symm.trans hk)
/-- behind an append to row i: its new value is stored -/
theorem Mat.replace {W w1 : World} {B n i g cap : Nat} {vs : List Value} {R : List (List G)} {u : Value} {x : List G} (h : Mat W B n (.slice (some ⟨g, 0, none⟩) n cap) vs R) (hi : i < n) (hg : W.grownBy w1 (vat vs i).ownBlock)
    (hu : OwnB w1 B u x) (hat : u.ownBlock = (vat vs i).ownBlock ∨ ∃ b, u.ownBlock = some b ∧ W.heap.size ≤ b) :
    Mat (w1.setCell ⟨g, i, none⟩ u) B n (.slice (some ⟨g, 0, none⟩) n cap) (vs.set i u) (R.set i x) ∧ w1.grownBy (w1.setCell ⟨g, i, none⟩ u) (some g) := by
  have hlv := h.lv
  have hlr := h.lr
  have ho1 : w1.ownsRow B 33 1 (.slice (some ⟨g, 0, none⟩) n cap) n vs := World.ownsRow.kept h.own hg (h.outer (h.row i hi))
  obtain ⟨o1, g1⟩ := ho1.stored i u
  have hou : Ap2 (.slice (some ⟨g, 0, none⟩) n cap) u := own_type_ne ho1 hu (by decide)
  have hlt : ∀ r, r < n → ∀ k, (vat vs r).ownBlock = some k → k < W.heap.size := fun r hr k hk => (World.ownsRow.lt (h.row r hr) k hk).2
  have key : ∀ r, r < n → r ≠ i → Ap2 u (vat vs r) := fun r hr hne => Ap2_new hat (h.ap i r hi hr (Ne.symm hne)) (hlt r hr) (fun he => by
    rcases hat with h1 | h1
    · exact .inl (h1.trans he)
    · exact .inr h1)
  refine ⟨⟨o1, by rw [List.length_set]; exact hlv, by rw [List.length_set]; exact hlr, fun r hr => ?_, fun r s hr hs hne => ?_⟩, g1⟩
  · rw [vat_set _ _ _ _ (by omega), rat_set _ _ _ _ (by omega)]
    by_cases e : r = i
    · rw [if_pos e, if_pos e]
      exact hu.grown g1 (Ap2.symm hou)
    · rw [if_neg e, if_neg e]
      exact ((h.row r hr).grown hg (h.ap r i hr hi e)).grown g1 (Ap2.symm (h.outer (h.row r hr)))
  · rw [vat_set _ _ _ _ (by omega), vat_set _ _ _ _ (by omega)]
    by_cases e : r = i
    · rw [if_pos e, if_neg (fun e2 => hne (e.trans e2.symm))]
      exact key s hs (fun e2 => hne (e.trans e2.symm))
    · rw [if_neg e]
      by_cases e2 : s = i
      · rw [if_pos e2]; exact (key r hr e).symm
      · rw [if_neg e2]; exact h.ap r s hr hs hne

/-! what the reference's Repair has found behind k places -/
def foundTo (X : List (List G)) (sz : Nat → Nat) (m k : Nat) : List (List G) := (List.range m).map fun r => (X.getD r []).take (min k (sz r))
theorem foundTo_length (X : List (List G)) (sz : Nat → Nat) (m k : Nat) : (foundTo X sz m k).length = m := by simp [foundTo]
theorem foundTo_getD (X : List (List G)) (sz : Nat → Nat) (m k r : Nat) (h : r < m) : (foundTo X sz m k).getD r [] = (X.getD r []).take (min k (sz r)) := by simp [foundTo, h]
theorem foundTo_zero (X : List (List G)) (sz : Nat → Nat) (m : Nat) : foundTo X sz m 0 = List.replicate m [] := by
  refine list_ext_getD [] (by simp [foundTo]) (fun r hr => ?_)
  rw [foundTo_length] at hr
  rw [foundTo_getD _ _ _ _ _ hr, Nat.zero_min, List.take_zero, List.getD_eq_getElem?_getD, List.getElem?_replicate]
  split <;> rfl
/-- .. and r blocks of the next place -/
def foundMid (X : List (List G)) (sz : Nat → Nat) (m k r : Nat) : List (List G) := (List.range m).map fun c => (X.getD c []).take (min (if c < r then k + 1 else k) (sz c))
theorem foundMid_length (X : List (List G)) (sz : Nat → Nat) (m k r : Nat) : (foundMid X sz m k r).length = m := by simp [foundMid]
theorem foundMid_getD (X : List (List G)) (sz : Nat → Nat) (m k r c : Nat) (h : c < m) : (foundMid X sz m k r).getD c [] = (X.getD c []).take (min (if c < r then k + 1 else k) (sz c)) := by simp [foundMid, h]
theorem foundMid_zero (X : List (List G)) (sz : Nat → Nat) (m k : Nat) : foundMid X sz m k 0 = foundTo X sz m k := by
  refine list_ext_getD [] (by simp [foundMid, foundTo]) (fun c hc => ?_)
  rw [foundMid_length] at hc
  rw [foundMid_getD _ _ _ _ _ _ hc, foundTo_getD _ _ _ _ _ hc, if_neg (by omega)]
theorem foundMid_end (X : List (List G)) (sz : Nat → Nat) (m k : Nat) : foundMid X sz m k m = foundTo X sz m (k + 1) := by
  refine list_ext_getD [] (by simp [foundMid, foundTo]) (fun c hc => ?_)
  rw [foundMid_length] at hc
  rw [foundMid_getD _ _ _ _ _ _ hc, foundTo_getD _ _ _ _ _ hc, if_pos (by omega)]
theorem take_getD_succ (l : List G) (k : Nat) (h : k < l.length) : l.take (k + 1) = l.take k ++ [l.getD k 0] := by
  rw [List.take_add_one, List.getElem?_eq_getElem h, List.getD_eq_getElem?_getD, List.getElem?_eq_getElem h]; rfl
theorem foundMid_hit (X : List (List G)) (sz : Nat → Nat) (m k r : Nat) (hr : r < m) (hk : k < sz r) (hl : k < (X.getD r []).length) :
    (foundMid X sz m k r).set r (rat (foundMid X sz m k r) r ++ [(X.getD r []).getD k 0]) = foundMid X sz m k (r + 1) := by
  refine list_ext_getD [] (by simp [foundMid]) (fun c hc => ?_)
  rw [List.length_set, foundMid_length] at hc
  have hs := rat_set (foundMid X sz m k r) r c (rat (foundMid X sz m k r) r ++ [(X.getD r []).getD k 0]) (by rw [foundMid_length]; exact hr)
  unfold rat at hs
  rw [foundMid_getD X sz m k (r + 1) c hc]
  unfold rat
  rw [hs, foundMid_getD _ _ _ _ _ _ hr, if_neg (Nat.lt_irrefl r), Nat.min_eq_left (by omega), ← take_getD_succ _ _ hl]
  by_cases e : c = r
  · subst e
    rw [if_pos rfl, if_pos (by omega), Nat.min_eq_left (by omega)]
  · rw [if_neg e, foundMid_getD _ _ _ _ _ _ hc]
    by_cases e2 : c < r
    · rw [if_pos e2, if_pos (by omega)]
    · rw [if_neg e2, if_neg (by omega)]
theorem foundMid_miss (X : List (List G)) (sz : Nat → Nat) (m k r : Nat) (hr : r < m) (hk : sz r ≤ k) : foundMid X sz m k (r + 1) = foundMid X sz m k r := by
  refine list_ext_getD [] (by simp [foundMid]) (fun c hc => ?_)
  rw [foundMid_length] at hc
  rw [foundMid_getD _ _ _ _ _ _ hc, foundMid_getD _ _ _ _ _ _ hc]
  by_cases e : c = r
  · subst e
    rw [if_pos (by omega), if_neg (by omega), Nat.min_eq_right (by omega), Nat.min_eq_right (by omega)]
  · by_cases e2 : c < r
    · rw [if_pos e2, if_pos (by omega)]
    · rw [if_neg e2, if_neg (by omega)]
/-- the right side at one place -/
def rightTo (bss pss : List (List G)) (left : List Nat) (k r : Nat) : List G := (List.range r).map fun c => (blkG bss pss (left.getD c 0)).getD k 0
theorem rightTo_length (bss pss : List (List G)) (left : List Nat) (k r : Nat) : (rightTo bss pss left k r).length = r := by simp [rightTo]
theorem rightTo_succ (bss pss : List (List G)) (left : List Nat) (k r : Nat) : rightTo bss pss left k (r + 1) = rightTo bss pss left k r ++ [(blkG bss pss (left.getD r 0)).getD k 0] := by simp [rightTo, List.range_succ]
theorem rightTo_getD (bss pss : List (List G)) (left : List Nat) (k r c : Nat) (h : c < r) : (rightTo bss pss left k r).getD c 0 = (blkG bss pss (left.getD c 0)).getD k 0 := by simp [rightTo, h]
theorem blk_getD (bss pss : List (List G)) (j k : Nat) (h : k < (pss.getD j []).length) : (blkG bss pss j).getD k 0 = (pss.getD j []).getD k 0 ^^^ xsum bss.length (term (fG j) bss k) := by
  unfold blkG
  rw [sumG_getD _ _ _ _ h]
theorem xsum_succ_in (bss : List (List G)) (j k i : Nat) (p : G) : p ^^^ xsum (i + 1) (term (fG j) bss k) = p ^^^ xsum i (term (fG j) bss k) ^^^ gm (fG j i) ((bss.getD i []).getD k 0) := by
  rw [xsum, BitVec.xor_assoc]; rfl
theorem xsum_succ_out (bss : List (List G)) (j k i : Nat) (p : G) (h : (bss.getD i []).length ≤ k) : p ^^^ xsum (i + 1) (term (fG j) bss k) = p ^^^ xsum i (term (fG j) bss k) := by
  rw [xsum_succ_in, getD_over 0 _ k h, gm_zero]; simp
/-- what the reference's Repair answers, of an X that solves the system -/
def RefPost (bss pss : List (List G)) (xs : List Int) (X : List (List G)) (w : World) (e : Ending) (w' : World) : Prop :=
  Below w.heap.size w w' ∧ (chkErr bss pss xs ≠ 0 → e = .returned (.tuple #[.slice none 0 0, .slice none 0 0, .int .i64 (chkErr bss pss xs)])) ∧
  (chkErr bss pss xs = 0 → ((TailBad bss xs X ∨ SumBad bss pss xs X) → e = .returned (.tuple #[.slice none 0 0, .slice none 0 0, .int .i64 18])) ∧
    (¬ (TailBad bss xs X ∨ SumBad bss pss xs X) → ∃ va vp, e = .returned (.tuple #[va, vp, .int .i64 0]) ∧ Vbb w' (fun _ => True) va (outG bss xs X) ∧ Vbb w' (fun _ => True) vp (makeG (outG bss xs X) pss.length)))
theorem RefPost.bad {bss pss : List (List G)} {xs : List Int} {X : List (List G)} {w w' : World} (h : chkErr bss pss xs ≠ 0) (hB : Below w.heap.size w w') :
    RefPost bss pss xs X w (.returned (.tuple #[.slice none 0 0, .slice none 0 0, .int .i64 (chkErr bss pss xs)])) w' := ⟨hB, fun _ => rfl, fun h0 => absurd h0 h⟩
theorem RefPost.sum {bss pss : List (List G)} {xs : List Int} {X : List (List G)} {w w' : World} (h : chkErr bss pss xs = 0) (hb : TailBad bss xs X ∨ SumBad bss pss xs X) (hB : Below w.heap.size w w') :
    RefPost bss pss xs X w (.returned (.tuple #[.slice none 0 0, .slice none 0 0, .int .i64 18])) w' := ⟨hB, fun h0 => absurd h h0, fun _ => ⟨fun _ => rfl, fun hn => absurd hb hn⟩⟩
/-- a byte behind the end -/
theorem tail_bad {bss : List (List G)} {xs : List Int} {X : List (List G)} {c k : Nat} (hc : c < (lostN bss xs).length) (hk : sizeAt xs (lostN bss xs) c ≤ k) (hl : k < (X.getD c []).length) (hz : (X.getD c []).getD k 0 ≠ 0) : TailBad bss xs X := by
  refine ⟨c, hc, (notZero_iff _).2 ⟨k - sizeAt xs (lostN bss xs) c, by rw [List.length_drop]; omega, ?_⟩⟩
  rw [List.getD_eq_getElem?_getD, List.getElem?_drop, show sizeAt xs (lostN bss xs) c + (k - sizeAt xs (lostN bss xs) c) = k by omega, ← List.getD_eq_getElem?_getD]
  exact hz
theorem tail_good {bss : List (List G)} {xs : List Int} {X : List (List G)} {L : Nat} (hl : ∀ c, c < (lostN bss xs).length → (X.getD c []).length = L) (h : ∀ k, k < L → ∀ c, c < (lostN bss xs).length → sizeAt xs (lostN bss xs) c ≤ k → (X.getD c []).getD k 0 = 0) : ¬ TailBad bss xs X := by
  rintro ⟨c, hc, hb⟩
  obtain ⟨j, hj, hz⟩ := (notZero_iff _).1 hb
  rw [List.length_drop, hl c hc] at hj
  apply hz
  rw [List.getD_eq_getElem?_getD, List.getElem?_drop, ← List.getD_eq_getElem?_getD]
  exact h _ (by omega) c hc (by omega)
end Go.Proofs.Ytiggohkkokalcaa
