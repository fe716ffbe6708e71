/- Two matrices of the call's own, as package parity's solve turns them: the rows of factors and the blocks. -/
import Derived.Test.YtiggohkkokalcaaSmall2
import Derived.Test.YtiggohkkokalcaaGaussAll
namespace Go.Proofs.Ytiggohkkokalcaa
open Go.RowKit Go.Proofs.YtiggohkkokalcaaW.PrintWords
set_option linter.unusedVariables false
set_option linter.unusedSimpArgs false

/-- two rows lie in different blocks -/
def Ap2 (a b : Value) : Prop := a.ownBlock = none ∨ a.ownBlock ≠ b.ownBlock
theorem Ap2.symm {a b : Value} (h : Ap2 a b) : Ap2 b a := by
  unfold Ap2 at *
  rcases h with h | h
  · cases hb : b.ownBlock
    · exact .inl rfl
    · right; rw [h]; simp
  · exact .inr (Ne.symm h)
def nilS : Value := .slice none 0 0
/-- entry r of a list of values -/
def vat (vs : List Value) (r : Nat) : Value := vs.getD r nilS
def rat (R : List (List G)) (r : Nat) : List G := R.getD r []
/-- v is a row of rows of bytes, all of the call's own: the rows' values vs, what they read R -/
structure Mat (w : World) (B n : Nat) (v : Value) (vs : List Value) (R : List (List G)) : Prop where
  own : w.ownsRow B 33 1 v n vs
  lv : vs.length = n
  lr : R.length = n
  row : ∀ r, r < n → OwnB w B (vat vs r) (rat R r)
  ap : ∀ r s, r < n → s < n → r ≠ s → Ap2 (vat vs r) (vat vs s)
/-- no row of the one lies where a row of the other does -/
def Far (n m : Nat) (v : Value) (vs : List Value) (vb : Value) (bs : List Value) : Prop := Ap2 v vb ∧ ∀ r s, r < n → s < m → Ap2 (vat vs r) (vat bs s)

theorem Mat.slice {w : World} {B n : Nat} {v : Value} {vs : List Value} {R : List (List G)} (h : Mat w B n v vs R) : ∃ A c, v = .slice A n c := own_slice h.own
theorem Mat.below {w w1 : World} {B n : Nat} {v : Value} {vs : List Value} {R : List (List G)} (h : Mat w B n v vs R) (hb : Below w.heap.size w w1) : Mat w1 B n v vs R :=
  ⟨pw_own_below h.own hb, h.lv, h.lr, fun r hr => (h.row r hr).below hb, h.ap⟩
theorem Mat.drewN {w : World} {B n : Nat} {v : Value} {vs : List Value} {R : List (List G)} (h : Mat w B n v vs R) (k : Nat) : Mat (w.drewN k) B n v vs R := h.below (below_drewN (Below.refl _ _) k)
theorem Mat.drew {w : World} {B n : Nat} {v : Value} {vs : List Value} {R : List (List G)} (h : Mat w B n v vs R) : Mat w.drew B n v vs R := h.drewN 1
theorem Mat.grown {w w1 : World} {B n : Nat} {v : Value} {vs : List Value} {R : List (List G)} (h : Mat w B n v vs R) {row : Option Nat} (hg : w.grownBy w1 row) (h1 : v.ownBlock = none ∨ v.ownBlock ≠ row) (h2 : ∀ r, r < n → (vat vs r).ownBlock = none ∨ (vat vs r).ownBlock ≠ row) : Mat w1 B n v vs R :=
  ⟨World.ownsRow.kept h.own hg h1, h.lv, h.lr, fun r hr => (h.row r hr).grown hg (h2 r hr), h.ap⟩
theorem rat_set (R : List (List G)) (i r : Nat) (x : List G) (hi : i < R.length) : rat (R.set i x) r = if r = i then x else rat R r := by
  unfold rat
  rw [List.getD_eq_getElem?_getD, List.getElem?_set]
  by_cases h : i = r
  · subst h; simp [hi]
  · rw [if_neg h, if_neg (fun e => h e.symm), List.getD_eq_getElem?_getD]
theorem vat_set (vs : List Value) (i r : Nat) (x : Value) (hi : i < vs.length) : vat (vs.set i x) r = if r = i then x else vat vs r := by
  unfold vat
  rw [List.getD_eq_getElem?_getD, List.getElem?_set]
  by_cases h : i = r
  · subst h; simp [hi]
  · rw [if_neg h, if_neg (fun e => h e.symm), List.getD_eq_getElem?_getD]
/-- the outer row and an inner one lie apart: by their types -/
theorem Mat.outer {w : World} {B B' n : Nat} {v u : Value} {vs : List Value} {R : List (List G)} {x : List G} (h : Mat w B n v vs R) (hu : OwnB w B' u x) : Ap2 v u := own_type_ne h.own hu (by decide)
/-- row i was written -/
theorem Mat.wrote {w w1 : World} {B n i : Nat} {v : Value} {vs : List Value} {R : List (List G)} (h : Mat w B n v vs R) (hi : i < n) (hg : w.grownBy w1 (vat vs i).ownBlock) {x : List G} (hx : OwnB w1 0 (vat vs i) x) : Mat w1 B n v vs (R.set i x) := by
  refine ⟨World.ownsRow.kept h.own hg (h.outer (h.row i hi)), h.lv, by rw [List.length_set]; exact h.lr, fun r hr => ?_, h.ap⟩
  rw [rat_set R i r x (by rw [h.lr]; exact hi)]
  by_cases e : r = i
  · subst e
    rw [if_pos rfl]
    have hb : ∀ k, (vat vs r).ownBlock = some k → B ≤ k := fun k hk => ((World.ownsRow.lt (h.row r hi)) k hk).1
    exact Kd.own_raise hx hb
  · rw [if_neg e]
    exact (h.row r hr).grown hg (h.ap r i hr hi e)
/-- a row of the other matrix was written -/
theorem Mat.other {w w1 : World} {B B' n m i : Nat} {v vb : Value} {vs bs : List Value} {R C : List (List G)} (h : Mat w B n v vs R) (k : Mat w B' m vb bs C) (hf : Far n m v vs vb bs) (hi : i < m) (hg : w.grownBy w1 (vat bs i).ownBlock) : Mat w1 B n v vs R :=
  h.grown hg (h.outer (k.row i hi)) (fun r hr => hf.2 r i hr hi)
theorem Far.symm {n m : Nat} {v vb : Value} {vs bs : List Value} (h : Far n m v vs vb bs) : Far m n vb bs v vs := ⟨h.1.symm, fun r s hr hs => (h.2 s r hs hr).symm⟩
theorem Mat.form {w : World} {B n : Nat} {v : Value} {vs : List Value} {R : List (List G)} (h : Mat w B n v vs R) (hn : 0 < n) : ∃ g cap, v = .slice (some ⟨g, 0, none⟩) n cap ∧ B ≤ g ∧ g < w.heap.size := World.ownsRow.form h.own hn
theorem Mat.cell {w : World} {B n g cap : Nat} {vs : List Value} {R : List (List G)} (h : Mat w B n (.slice (some ⟨g, 0, none⟩) n cap) vs R) (r : Nat) (hr : r < n) : w.cell? ⟨g, r, none⟩ = some (vat vs r) ∧ w.frozen? ⟨g, r, none⟩ = false := by
  refine ⟨?_, h.own.frozenAt r⟩
  rw [h.own.cellAt r (by omega)]
  unfold vat
  rw [List.getD_eq_getElem?_getD]
  have : r < vs.length := by rw [h.lv]; exact hr
  rw [List.getElem?_eq_getElem this]; rfl
theorem Mat.block {w : World} {B n i : Nat} {v : Value} {vs : List Value} {R : List (List G)} (h : Mat w B n v vs R) (hi : i < n) : ∀ k, (vat vs i).ownBlock = some k → B ≤ k := fun k hk => ((World.ownsRow.lt (h.row i hi)) k hk).1
theorem below_row {w w1 : World} {B : Nat} {row : Option Nat} (hg : w.grownBy w1 row) (hB : B ≤ w.heap.size) (hr : ∀ k, row = some k → B ≤ k) : Below B w w1 := (Below.refl B w).grown hg hB hr
/-- two entries are exchanged -/
def swapAt {α : Type} (d : α) (l : List α) (i p : Nat) : List α := (l.set i (l.getD p d)).set p (l.getD i d)
theorem swapAt_length {α : Type} (d : α) (l : List α) (i p : Nat) : (swapAt d l i p).length = l.length := by simp [swapAt]
theorem swapAt_getD {α : Type} (d : α) (l : List α) (i p r : Nat) (hi : i < l.length) (hp : p < l.length) : (swapAt d l i p).getD r d = l.getD (if r = i then p else if r = p then i else r) d := by
  unfold swapAt
  simp only [List.getD_eq_getElem?_getD, List.getElem?_set, List.length_set]
  by_cases h1 : r = i
  · subst h1
    rw [if_pos rfl]
    by_cases h2 : p = r
    · subst h2; simp [hp]
    · rw [if_neg h2, if_pos rfl, if_pos hi]; rfl
  · rw [if_neg h1]
    by_cases h2 : r = p
    · subst h2; rw [if_pos rfl, if_pos rfl, if_pos hp]; rfl
    · rw [if_neg h2, if_neg (fun e => h2 e.symm), if_neg (fun e => h1 e.symm)]
theorem sw_lt {n i p r : Nat} (hi : i < n) (hp : p < n) (hr : r < n) : (if r = i then p else if r = p then i else r) < n := by
  split
  · exact hp
  · split
    · exact hi
    · exact hr
theorem sw_ne {i p r s : Nat} (h : r ≠ s) : (if r = i then p else if r = p then i else r) ≠ (if s = i then p else if s = p then i else s) := by
  split <;> split <;> (try split) <;> (try split) <;> omega
theorem Mat.swap {w : World} {B n g cap i p : Nat} {vs : List Value} {R : List (List G)} (h : Mat w B n (.slice (some ⟨g, 0, none⟩) n cap) vs R) (hi : i < n) (hp : p < n) :
    Mat ((w.setCell ⟨g, i, none⟩ (vat vs p)).setCell ⟨g, p, none⟩ (vat vs i)) B n (.slice (some ⟨g, 0, none⟩) n cap) (swapAt nilS vs i p) (swapAt [] R i p) ∧
      w.grownBy ((w.setCell ⟨g, i, none⟩ (vat vs p)).setCell ⟨g, p, none⟩ (vat vs i)) (some g) := by
  obtain ⟨o1, g1⟩ := h.own.stored i (vat vs p)
  obtain ⟨o2, g2⟩ := o1.stored p (vat vs i)
  have hg := grown_tr g1 g2
  have hl := h.lv; have hlr := h.lr
  refine ⟨⟨o2, by rw [swapAt_length]; exact hl, by rw [swapAt_length]; exact hlr, fun r hr => ?_, fun r s hr hs hne => ?_⟩, hg⟩
  · unfold vat rat
    rw [swapAt_getD _ _ _ _ _ (by omega) (by omega), swapAt_getD _ _ _ _ _ (by omega) (by omega)]
    have key : ∀ q, q < n → OwnB ((w.setCell ⟨g, i, none⟩ (vat vs p)).setCell ⟨g, p, none⟩ (vat vs i)) B (vs.getD q nilS) (R.getD q []) := fun q hq =>
      (h.row q hq).grown hg (Ap2.symm (h.outer (h.row q hq)))
    split
    · exact key p hp
    · split
      · exact key i hi
      · exact key r hr
  · unfold vat
    rw [swapAt_getD _ _ _ _ _ (by omega) (by omega), swapAt_getD _ _ _ _ _ (by omega) (by omega)]
    exact h.ap _ _ (sw_lt hi hp hr) (sw_lt hi hp hs) (sw_ne hne)
theorem Far.swap {n m i p : Nat} {v vb : Value} {vs bs : List Value} (h : Far n m v vs vb bs) (hl : vs.length = n) (hi : i < n) (hp : p < n) : Far n m v (swapAt nilS vs i p) vb bs := by
  refine ⟨h.1, fun r s hr hs => ?_⟩
  have := h.2 (if r = i then p else if r = p then i else r) s (sw_lt hi hp hr) hs
  unfold vat at *
  rw [swapAt_getD _ _ _ _ _ (by omega) (by omega)]
  exact this
end Go.Proofs.Ytiggohkkokalcaa
