/- What package parity's Make computes. -/
import Derived.Test.YtiggohkkokalcaaSumPlain
import Derived.Test.YtiggohkkokalcaaFac
namespace Go.Proofs.Ytiggohkkokalcaa

/-- the greatest length among the first k blocks -/
def longTo (bss : List (List G)) : Nat → Nat
  | 0 => 0
  | k + 1 => max (longTo bss k) (bss.getD k []).length
def longG (bss : List (List G)) : Nat := longTo bss bss.length
theorem longTo_ge (bss : List (List G)) : ∀ k i, i < k → (bss.getD i []).length ≤ longTo bss k
  | 0, _, h => by omega
  | k + 1, i, h => by
    by_cases e : i = k
    · subst e; exact Nat.le_max_right _ _
    · exact Nat.le_trans (longTo_ge bss k i (by omega)) (Nat.le_max_left _ _)
theorem longG_ge (bss : List (List G)) (i : Nat) : (bss.getD i []).length ≤ longG bss := by
  by_cases h : i < bss.length
  · exact longTo_ge bss _ i h
  · rw [List.getD_eq_getElem?_getD, List.getElem?_eq_none (by omega)]; exact Nat.zero_le _
theorem longTo_le (bss : List (List G)) (m : Nat) (h : ∀ i, i < bss.length → (bss.getD i []).length ≤ m) : ∀ k, k ≤ bss.length → longTo bss k ≤ m
  | 0, _ => Nat.zero_le _
  | k + 1, hk => Nat.max_le.2 ⟨longTo_le bss m h k (by omega), h k (by omega)⟩
/-- parity block j -/
def parG (data : List (List G)) (j : Nat) : List G := sumG (fG j) data (List.replicate (longG data) 0)
/-- the first n parity blocks -/
def makeG (data : List (List G)) (n : Nat) : List (List G) := (List.range n).map (parG data)
theorem parG_length (data : List (List G)) (j : Nat) : (parG data j).length = longG data := by simp [parG, sumG_length]
theorem makeG_length (data : List (List G)) (n : Nat) : (makeG data n).length = n := by simp [makeG]
theorem makeG_succ (data : List (List G)) (n : Nat) : makeG data (n + 1) = makeG data n ++ [parG data n] := by simp [makeG, List.range_succ]
theorem makeG_getD (data : List (List G)) (n j : Nat) (h : j < n) : (makeG data n).getD j [] = parG data j := by simp [makeG, h]
theorem parG_getD (data : List (List G)) (j p : Nat) (hp : p < longG data) : (parG data j).getD p 0 = xsum data.length (term (fG j) data p) := by
  rw [parG, sumG_getD _ _ _ _ (by simpa using hp)]
  simp [hp]
/-- the error of Make -/
def makeErr (data : List (List G)) (n : Int) : Int := if n < 0 ∨ 4 < n then 1 else if 16 < data.length ∨ 65536 < longG data then 4 else 0
/-- the blocks of Make -/
def makeOut (data : List (List G)) (n : Int) : List (List G) := if makeErr data n = 0 then makeG data n.toNat else []
end Go.Proofs.Ytiggohkkokalcaa
