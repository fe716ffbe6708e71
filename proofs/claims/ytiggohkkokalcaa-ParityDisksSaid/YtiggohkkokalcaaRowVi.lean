/- A slice of ints that came in, as the row's frame tells it, reads a list. -/
import Derived.Test.YtiggohkkokalcaaGen
import Derived.Test.YtiggohkkokalcaaLives
namespace Go.Proofs.Ytiggohkkokalcaa
open Go.RowKit Go.Proofs.YtiggohkkokalcaaW.PrintWords

theorem vi_of_row {w : World} {a : Option Addr} {len cap : Nat} {zs : List Int}
    (h : (a = none ∧ len = 0 ∧ cap = 0 ∧ zs = []) ∨ ∃ x, a = some x ∧ len ≤ cap ∧ cap ≤ maxLen ∧ zs.length = cap ∧ (∀ i, i < zs.length → w.cell? (x.add i) = some (.int .i64 (zs.getD i 0))) ∧ ∀ n ∈ zs, (Lit.int .i64 n).wf = true) :
    ∃ xs, Vi w (fun _ => True) (.slice a len cap) xs := by
  rcases h with ⟨rfl, rfl, rfl, rfl⟩ | ⟨x, rfl, hl, hm, hz, hc, _⟩
  · exact ⟨[], Kd.V_nil _ _ _ _ _⟩
  · have hlen : (zs.take len).length = len := by rw [List.length_take]; omega
    refine ⟨zs.take len, ?_⟩
    have := V_of_cells (d := Kd.int .i64) (e := 3) (base := 0) (c := cap) (W := w) (ok := fun _ => True) (ad := x) (xs := zs.take len) (by omega) (by rw [hlen]; unfold maxLen at hm; omega) trivial (fun j y hj => ?_)
    · rwa [hlen] at this
    · have hj2 : j < (zs.take len).length := (List.getElem?_eq_some_iff.1 hj).1
      refine ⟨[.int .i64 y], rfl, fun _ _ => rfl, fun i u hu => ?_⟩
      match i with
      | 0 =>
        simp only [List.getElem?_cons_zero, Option.some.injEq] at hu
        subst hu
        have := hc j (by omega)
        rw [show j * (Kd.int .i64).sz + 0 = j by show j * 1 + 0 = j; omega, this]
        rw [List.getElem?_take_of_lt (by omega)] at hj
        rw [List.getD_eq_getElem?_getD, hj]; rfl
      | i + 1 => simp at hu
end Go.Proofs.Ytiggohkkokalcaa
