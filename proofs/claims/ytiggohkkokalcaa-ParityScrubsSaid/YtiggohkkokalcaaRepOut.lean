/- What Repair puts in the place of the lost blocks. -/
import Derived.Test.YtiggohkkokalcaaCut
namespace Go.Proofs.Ytiggohkkokalcaa
set_option linter.unusedVariables false

theorem outTo_length (bss : List (List G)) (xs : List Int) (X : List (List G)) (lost : List Nat) (r : Nat) : (outTo bss xs X lost r).length = bss.length := by
  induction r with
  | zero => rfl
  | succ r ih => unfold outTo; rw [List.length_set, ih]
theorem outTo_bound (bss : List (List G)) (xs : List Int) (X : List (List G)) (lost : List Nat) (L : Nat) (hb : ∀ i, (bss.getD i []).length ≤ L) (hx : ∀ c, c < lost.length → (X.getD c []).length ≤ L) :
    ∀ r, r ≤ lost.length → ∀ i, ((outTo bss xs X lost r).getD i []).length ≤ L
  | 0, _, i => hb i
  | r + 1, hr, i => by
    unfold outTo
    by_cases hi : lost.getD r 0 < (outTo bss xs X lost r).length
    · have := rat_set (outTo bss xs X lost r) (lost.getD r 0) i ((X.getD r []).take (sizeAt xs lost r)) hi
      unfold rat at this
      rw [this]
      split
      · rw [List.length_take]; have := hx r (by omega); omega
      · exact outTo_bound bss xs X lost L hb hx r (by omega) i
    · rw [List.set_eq_of_length_le (by omega)]
      exact outTo_bound bss xs X lost L hb hx r (by omega) i
theorem outTo_make (bss : List (List G)) (xs : List Int) (X : List (List G)) (lost : List Nat) (L m : Nat) (hb : ∀ i, (bss.getD i []).length ≤ L) (hx : ∀ c, c < lost.length → (X.getD c []).length ≤ L) (hL : L ≤ 65536) (hm : m ≤ 4) (hn : bss.length ≤ 16) :
    makeErr (outTo bss xs X lost lost.length) m = 0 ∧ makeOut (outTo bss xs X lost lost.length) m = makeG (outTo bss xs X lost lost.length) m := by
  have h := makeErr_ok (outTo bss xs X lost lost.length) m hm (by rw [outTo_length]; exact hn) (Nat.le_trans (longTo_le _ L (fun i _ => outTo_bound bss xs X lost L hb hx _ (Nat.le_refl _) i) _ (Nat.le_refl _)) hL)
  exact ⟨h, makeOut_ok _ _ h⟩
end Go.Proofs.Ytiggohkkokalcaa
