/- Package parity's sum at one row, as solve calls it. -/
import Derived.Test.YtiggohkkokalcaaSteps
namespace Go.Proofs.Ytiggohkkokalcaa
open Go.RowKit Go.Proofs.YtiggohkkokalcaaW.PrintWords Go.Proofs.YtiggohkkokalcaaW.PrintMore
set_option linter.unusedVariables false
set_option linter.unusedSimpArgs false

/-- a row of one row that was just made -/
theorem V_row1 (W : World) (ok : Nat → Prop) (u : Value) (l : List G) (h : Vb W ok u l) (hok : ok W.heap.size) :
    Vbb (W.alloc (.cells #[u] 33)) ok (.slice (some ⟨W.heap.size, 0, none⟩) 1 1) [l] := by
  refine V_of_cells (d := KGs) (e := 33) (xs := [l]) (Nat.le_refl _) (by simp) hok (fun j x hx => ?_)
  match j with
  | 0 =>
    simp only [List.getElem?_cons_zero, Option.some.injEq] at hx
    subst hx
    refine ⟨[u], rfl, ?_, fun i y hy => ?_⟩
    · have h2 : Vb (W.alloc (.cells #[u] 33)) ok u l := Kd.V_below h (below_alloc (Below.refl _ _) _)
      obtain ⟨A, c, rfl, hc, hf⟩ := h2
      exact Kd.FK_slice_mk hc hf
    · match i with
      | 0 =>
        simp only [List.getElem?_cons_zero, Option.some.injEq] at hy
        subst hy
        exact World.cell?_alloc_new _ _ _ _
      | i + 1 => simp at hy
  | j + 1 => simp at hx

theorem sum1_any (ts us : List G) (b : G) (v u : Value) (cp : Addr) (W : World) (B : Nat) (HO : OwnB W 0 v ts) (HU : OwnB W B u us) (hap : Ap2 u v) (hl : us.length ≤ ts.length)
    (hc : W.cell? cp = some (.int .u8 (toI b))) (hcp : some cp.block ≠ v.ownBlock) :
    Calls Try.prog 40 #[v, .func (.func 76) #[] #[.pointer (some cp)], .slice (some ⟨W.heap.size, 0, none⟩) 1 1] (W.alloc (.cells #[u] 33)) fun e w' => e = .returned (.tuple #[]) ∧ W.grownBy w' v.ownBlock ∧ OwnB w' 0 v (sumG (fun _ => b) [us] ts) := by
  have hB := below_alloc (Below.refl W.heap.size W) (.cells #[u] 33)
  have hV : Vb W (fun k => some k ≠ v.ownBlock) u us := Kd.V_mono HU.V (fun k hk he => by
    rcases hap with h | h
    · rw [h] at hk; cases hk
    · exact h (hk.symm.trans he))
  refine (sum_any 76 cp (fun _ => b) [us] ts v _ _ (HO.below hB) (V_row1 W _ u us hV (fun he => ?_)) (fun i => ?_) callFunc76 (fun i hi W1 hg => ?_)).mono ?_
  · exact absurd ((World.ownsRow.lt HO _ he.symm).2) (Nat.lt_irrefl _)
  · match i with
    | 0 => exact hl
    | i + 1 => simp
  · exact solve2_any i b cp W1 (hg.cell (pw_cell_below hB hc) hcp)
  · rintro e w' ⟨h1, h2, h3⟩
    exact ⟨h1, grown_tr (grown_of_below hB _) h2, h3⟩
theorem sum1_drew (ts us : List G) (b : G) (v u : Value) (cp : Addr) (W : World) (B : Nat) (HO : OwnB W 0 v ts) (HU : OwnB W B u us) (hap : Ap2 u v) (hl : us.length ≤ ts.length)
    (hc : W.cell? cp = some (.int .u8 (toI b))) (hcp : some cp.block ≠ v.ownBlock) :
    Calls Try.prog 40 #[v, .func (.func 76) #[] #[.pointer (some cp)], .slice (some ⟨W.heap.size, 0, none⟩) 1 1] (W.alloc (.cells #[u] 33)).drew fun e w' => e = .returned (.tuple #[]) ∧ W.grownBy w' v.ownBlock ∧ OwnB w' 0 v (sumG (fun _ => b) [us] ts) := by
  have h := sum1_any ts us b v u cp W.drew B HO.drew HU.drew hap hl hc hcp
  refine Calls.mono (show Calls Try.prog 40 #[v, .func (.func 76) #[] #[.pointer (some cp)], .slice (some ⟨W.heap.size, 0, none⟩) 1 1] (W.alloc (.cells #[u] 33)).drew _ from h) ?_
  rintro e w' ⟨h1, h2, h3⟩
  exact ⟨h1, grown_tr (grown_drew (grown_refl _ _)) h2, h3⟩
end Go.Proofs.Ytiggohkkokalcaa
