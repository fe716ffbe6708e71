/- Sums over the field: what package parity's sum computes. -/
import Derived.Test.YtiggohkkokalcaaGf
namespace Go.Proofs.Ytiggohkkokalcaa

/-- the sum of f 0 .. f (n - 1) -/
def xsum : Nat → (Nat → G) → G
  | 0, _ => 0
  | n + 1, f => xsum n f ^^^ f n
def at2 (bss : List (List G)) (i k : Nat) : G := (bss.getD i []).getD k 0
/-- the summand of block i at place k -/
def term (c : Nat → G) (bss : List (List G)) (k i : Nat) : G := gm (c i) (at2 bss i k)
/-- behind i blocks, and k places of the next one -/
def sumMid (c : Nat → G) (bss : List (List G)) (ts : List G) (i k : Nat) : List G :=
  (List.range ts.length).map fun p => ts.getD p 0 ^^^ xsum (if p < k then i + 1 else i) (term c bss p)
def sumG (c : Nat → G) (bss : List (List G)) (ts : List G) : List G :=
  (List.range ts.length).map fun p => ts.getD p 0 ^^^ xsum bss.length (term c bss p)

theorem sumMid_length (c : Nat → G) (bss : List (List G)) (ts : List G) (i k : Nat) : (sumMid c bss ts i k).length = ts.length := by simp [sumMid]
theorem sumG_length (c : Nat → G) (bss : List (List G)) (ts : List G) : (sumG c bss ts).length = ts.length := by simp [sumG]
theorem sumMid_getD (c : Nat → G) (bss : List (List G)) (ts : List G) (i k p : Nat) (hp : p < ts.length) :
    (sumMid c bss ts i k).getD p 0 = ts.getD p 0 ^^^ xsum (if p < k then i + 1 else i) (term c bss p) := by
  simp [sumMid, hp]
theorem sumG_getD (c : Nat → G) (bss : List (List G)) (ts : List G) (p : Nat) (hp : p < ts.length) :
    (sumG c bss ts).getD p 0 = ts.getD p 0 ^^^ xsum bss.length (term c bss p) := by
  simp [sumG, hp]
theorem list_ext_getD {α : Type} (d : α) {l m : List α} (hl : l.length = m.length) (h : ∀ p, p < l.length → l.getD p d = m.getD p d) : l = m := by
  apply List.ext_getElem hl
  intro i h1 h2
  have := h i h1
  simpa [List.getD_eq_getElem?_getD, h1, h2] using this
theorem sumMid_start (c : Nat → G) (bss : List (List G)) (ts : List G) : sumMid c bss ts 0 0 = ts := by
  apply list_ext_getD 0 (by simp [sumMid])
  intro p hp
  rw [sumMid_getD _ _ _ _ _ _ (by simpa [sumMid] using hp)]
  simp [xsum]
theorem sumMid_next (c : Nat → G) (bss : List (List G)) (ts : List G) (i : Nat) : sumMid c bss ts i (bss.getD i []).length = sumMid c bss ts (i + 1) 0 := by
  apply list_ext_getD 0 (by simp [sumMid])
  intro p hp
  have hp' : p < ts.length := by simpa [sumMid] using hp
  rw [sumMid_getD _ _ _ _ _ _ hp', sumMid_getD _ _ _ _ _ _ hp']
  by_cases h : p < (bss.getD i []).length
  · rw [if_pos h, if_neg (by omega)]
  · rw [if_neg h, if_neg (by omega)]
    have : term c bss p i = 0 := by
      unfold term at2
      rw [List.getD_eq_getElem?_getD (l := bss.getD i []), List.getElem?_eq_none (by omega)]
      exact gm_zero _
    rw [xsum, this]; simp
theorem sumMid_set (c : Nat → G) (bss : List (List G)) (ts : List G) (i k : Nat) :
    (sumMid c bss ts i k).set k ((sumMid c bss ts i k).getD k 0 ^^^ gm (c i) ((bss.getD i []).getD k 0)) = sumMid c bss ts i (k + 1) := by
  apply list_ext_getD 0 (by simp [sumMid])
  intro p hp
  have hp' : p < ts.length := by simpa [sumMid] using hp
  rw [sumMid_getD _ _ _ _ (k + 1) _ hp', List.getD_eq_getElem?_getD, List.getElem?_set]
  by_cases h : k = p
  · subst h
    rw [if_pos rfl, if_pos (by rw [sumMid_length]; exact hp'), Option.getD_some, sumMid_getD _ _ _ _ _ _ hp', if_neg (by omega), if_pos (by omega), BitVec.xor_assoc]
    rfl
  · rw [if_neg h, ← List.getD_eq_getElem?_getD, sumMid_getD _ _ _ _ _ _ hp']
    by_cases h2 : p < k
    · rw [if_pos h2, if_pos (by omega)]
    · rw [if_neg h2, if_neg (by omega)]
theorem sumMid_end (c : Nat → G) (bss : List (List G)) (ts : List G) : sumMid c bss ts bss.length 0 = sumG c bss ts := by
  apply list_ext_getD 0 (by simp [sumMid, sumG])
  intro p hp
  have hp' : p < ts.length := by simpa [sumMid] using hp
  rw [sumMid_getD _ _ _ _ _ _ hp', sumG_getD _ _ _ _ hp', if_neg (by omega)]
end Go.Proofs.Ytiggohkkokalcaa
