/- What both Repairs answer, as one function of a solution of the system. -/
import Derived.Test.YtiggohkkokalcaaRepWords
namespace Go.Proofs.Ytiggohkkokalcaa
open Go.RowKit Go.Proofs.YtiggohkkokalcaaW.PrintWords Go.Proofs.YtiggohkkokalcaaW.PrintMore
set_option linter.unusedVariables false

section
variable (bss pss : List (List G)) (xs : List Int) (X : List (List G))
def RepBad : Prop := TailBad bss xs X ∨ SumBad bss pss xs X
open Classical in
noncomputable def ansE : Int := if chkErr bss pss xs = 0 then (if RepBad bss pss xs X then 18 else 0) else chkErr bss pss xs
open Classical in
noncomputable def ansA : List (List G) := if chkErr bss pss xs = 0 ∧ ¬ RepBad bss pss xs X then outG bss xs X else []
open Classical in
noncomputable def ansB : List (List G) := if chkErr bss pss xs = 0 ∧ ¬ RepBad bss pss xs X then makeG (outG bss xs X) pss.length else []
end
/-- the answer, read -/
def Ans (bss pss : List (List G)) (xs : List Int) (X : List (List G)) (w : World) (e : Ending) (w' : World) : Prop :=
  ∃ va vb, e = .returned (.tuple #[va, vb, .int .i64 (ansE bss pss xs X)]) ∧ Vbb w' (fun _ => True) va (ansA bss pss xs X) ∧ Vbb w' (fun _ => True) vb (ansB bss pss xs X) ∧ Below w.heap.size w w'
theorem ans_of {bss pss : List (List G)} {xs : List Int} {X : List (List G)} {w : World} {e : Ending} {w' : World} (hB : Below w.heap.size w w')
    (h1 : chkErr bss pss xs ≠ 0 → e = .returned (.tuple #[.slice none 0 0, .slice none 0 0, .int .i64 (chkErr bss pss xs)]))
    (h2 : chkErr bss pss xs = 0 → ((TailBad bss xs X ∨ SumBad bss pss xs X) → e = .returned (.tuple #[.slice none 0 0, .slice none 0 0, .int .i64 18])) ∧
      (¬ (TailBad bss xs X ∨ SumBad bss pss xs X) → ∃ va vp, e = .returned (.tuple #[va, vp, .int .i64 0]) ∧ Vbb w' (fun _ => True) va (outG bss xs X) ∧ Vbb w' (fun _ => True) vp (makeG (outG bss xs X) pss.length))) :
    Ans bss pss xs X w e w' := by
  unfold Ans ansE ansA ansB
  by_cases h : chkErr bss pss xs = 0
  · by_cases hb : RepBad bss pss xs X
    · refine ⟨.slice none 0 0, .slice none 0 0, ?_, ?_, ?_, hB⟩
      · rw [if_pos h, if_pos hb]; exact (h2 h).1 hb
      · rw [if_neg (fun h3 => h3.2 hb)]; exact Kd.V_nil _ _ _ _ _
      · rw [if_neg (fun h3 => h3.2 hb)]; exact Kd.V_nil _ _ _ _ _
    · obtain ⟨va, vp, h3, h4, h5⟩ := (h2 h).2 hb
      refine ⟨va, vp, ?_, ?_, ?_, hB⟩
      · rw [if_pos h, if_neg hb]; exact h3
      · rw [if_pos ⟨h, hb⟩]; exact h4
      · rw [if_pos ⟨h, hb⟩]; exact h5
  · refine ⟨.slice none 0 0, .slice none 0 0, ?_, ?_, ?_, hB⟩
    · rw [if_neg h]; exact h1 h
    · rw [if_neg (fun h3 => h h3.1)]; exact Kd.V_nil _ _ _ _ _
    · rw [if_neg (fun h3 => h h3.1)]; exact Kd.V_nil _ _ _ _ _
theorem RefPost.ans {bss pss : List (List G)} {xs : List Int} {X : List (List G)} {w : World} {e : Ending} {w' : World} (h : RefPost bss pss xs X w e w') : Ans bss pss xs X w e w' := ans_of h.1 h.2.1 h.2.2
theorem RepPost.ans {bss pss : List (List G)} {xs : List Int} {w : World} {e : Ending} {w' : World} (h : RepPost bss pss xs w e w') : ∃ X, (chkErr bss pss xs = 0 → Sols bss pss xs X) ∧ Ans bss pss xs X w e w' := by
  by_cases h0 : chkErr bss pss xs = 0
  · obtain ⟨X, hX, h3, h4⟩ := h.2.2 h0
    exact ⟨X, fun _ => hX, ans_of h.1 h.2.1 (fun _ => ⟨h3, h4⟩)⟩
  · exact ⟨[], fun h1 => absurd h1 h0, ans_of h.1 h.2.1 (fun h1 => absurd h1 h0)⟩
/-- too many blocks -/
theorem ansE_limit {bss pss : List (List G)} {xs : List Int} {X : List (List G)} (h : 16 < bss.length ∨ 4 < pss.length) : ansE bss pss xs X = 4 := by
  have hc : chkErr bss pss xs = 4 := by unfold chkErr; rw [if_pos h]
  unfold ansE
  rw [if_neg (by rw [hc]; decide), hc]
/-- an index made from a number -/
theorem idx_at (a : Int) (s : Nat) (h : 0 < s) : ∃ i : Nat, i < s ∧ (a.tmod s + s).tmod s = i ∧ (a.tmod s + s) % s = i ∧ -(s : Int) < a.tmod s ∧ a.tmod s < s := by
  have h1 := tmod_rng a s (by omega)
  have h2 : (a.tmod s + s).tmod s = (a.tmod s + s) % s := Int.tmod_eq_emod_of_nonneg (by omega)
  have h3 : 0 ≤ (a.tmod s + s) % s := Int.emod_nonneg _ (by omega)
  have h4 : (a.tmod s + s) % s < s := Int.emod_lt_of_pos _ (by omega)
  exact ⟨((a.tmod s + s) % s).toNat, by omega, by rw [h2]; omega, by omega, h1.1, h1.2⟩
end Go.Proofs.Ytiggohkkokalcaa
