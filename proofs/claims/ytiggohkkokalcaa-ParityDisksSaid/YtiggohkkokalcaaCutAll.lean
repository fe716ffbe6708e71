/- Package parity's Repair: parts of a block. What Repair puts in the place of the lost blocks. -/
import Derived.Test.YtiggohkkokalcaaOuts
/-! Package parity's Repair: parts of a block. -/
namespace Go.Proofs.Ytiggohkkokalcaa
open Go.RowKit Go.Proofs.YtiggohkkokalcaaW.PrintWords Go.Proofs.YtiggohkkokalcaaW.PrintMore
set_option linter.unusedVariables false

theorem info5' : ∃ i, Try.prog.info? 5 = some i ∧ i.size = 1 := by
  obtain ⟨i, hi, he⟩ := Option.map_eq_some_iff.1 info5
  simp only [Prod.mk.injEq] at he
  exact ⟨i, hi, he.2.1⟩
/-- b[z:] -/
theorem run_drop (A : Option Addr) (L c z : Nat) (hz : z ≤ L) (hc : L ≤ c) :
    ∃ A', (∀ W : World, (Instr.slice 33 (.slice A L c) (some (.int .i64 (z : Int))) none none).run Try.prog W = .ok (.slice A' (L - z) (c - z)) W) ∧
      (∀ (W : World) (ok : Nat → Prop) (xs : List G), Vb W ok (.slice A L c) xs → Vb W ok (.slice A' (L - z) (c - z)) (xs.drop z)) := by
  obtain ⟨i, hi, hs⟩ := info5'
  refine ⟨if c = z then A else A.map (·.add z), fun W => ?_, fun W ok xs h => ?_⟩
  · have hel : Try.prog.elem 33 = 5 := by simp [Program.elem, Try.underlying33]
    have hu : Try.prog.underlying 33 = some (.slice (Try.prog.elem 33)) := by rw [hel]; exact Try.underlying33
    rw [run_slice_l W 33 A L c hu .i64 z (by omega) (by omega), hel]
    simp [sizeOf, typeInfo, hi, hs, sliced, Result.andThen]
  · obtain ⟨h1, h2, h3⟩ := Kd.V_at h
    subst h1
    have h4 := Kd.F_cut h3 hz hc
    have e : KG.sz = 1 := rfl
    rw [e, Nat.mul_one, List.length_drop] at h4
    have := Kd.V_mk (e := 5) (base := 0) (c := c - z) (by rw [List.length_drop]; omega) (show Kd.F KG W ok (if c = z then A else A.map (·.add z)) (xs.drop z).length (xs.drop z) by rw [List.length_drop]; exact h4)
    rwa [List.length_drop] at this
/-- b[:z] -/
theorem run_take (A : Option Addr) (L c z : Nat) (hz : z ≤ L) (hc : L ≤ c) :
    (∀ W : World, (Instr.slice 33 (.slice A L c) none (some (.int .i64 (z : Int))) none).run Try.prog W = .ok (.slice A z c) W) ∧
      (∀ (W : World) (ok : Nat → Prop) (xs : List G), Vb W ok (.slice A L c) xs → Vb W ok (.slice A z c) (xs.take z)) := by
  obtain ⟨i, hi, hs⟩ := info5'
  refine ⟨fun W => ?_, fun W ok xs h => ?_⟩
  · have hel : Try.prog.elem 33 = 5 := by simp [Program.elem, Try.underlying33]
    have hu : Try.prog.underlying 33 = some (.slice (Try.prog.elem 33)) := by rw [hel]; exact Try.underlying33
    have ha : (A.map fun x => x.add 0) = A := by cases A <;> simp [Addr.add]
    rw [run_slice_h W 33 A L c hu .i64 z (by omega) (by omega), hel]
    simp [sizeOf, typeInfo, hi, hs, sliced, Result.andThen, ha]
  · obtain ⟨h1, h2, h3⟩ := Kd.V_at h
    subst h1
    have h4 := Kd.F_take h3 hz
    have hl : (xs.take z).length = z := by rw [List.length_take]; omega
    have := Kd.V_mk (e := 5) (base := 0) (c := c) (by rw [hl]; omega) h4
    rwa [hl] at this
end Go.Proofs.Ytiggohkkokalcaa

/-! What Repair puts in the place of the lost blocks. -/
namespace Go.Proofs.Ytiggohkkokalcaa
set_option linter.unusedVariables false

theorem outTo_length (bss : List (List G)) (xs : List Int) (X : List (List G)) (lost : List Nat) (r : Nat) : (outTo bss xs X lost r).length = bss.length := by
  induction r with
  | zero => rfl
  | succ r ih => unfold outTo; rw [List.length_set, ih]
theorem outTo_bound (bss : List (List G)) (xs : List Int) (X : List (List G)) (lost : List Nat) (L : Nat) (hb : ∀ i, (bss.getD i []).length ≤ L) (hx : ∀ c, c < lost.length → (X.getD c []).length ≤ L) :
    ∀ r, r ≤ lost.length → ∀ i, ((outTo bss xs X lost r).getD i []).length ≤ L
  | 0, _, i => hb i
  | r + 1, hr, i => by
    unfold outTo
    by_cases hi : lost.getD r 0 < (outTo bss xs X lost r).length
    · have := rat_set (outTo bss xs X lost r) (lost.getD r 0) i ((X.getD r []).take (sizeAt xs lost r)) hi
      unfold rat at this
      rw [this]
      split
      · rw [List.length_take]; have := hx r (by omega); omega
      · exact outTo_bound bss xs X lost L hb hx r (by omega) i
    · rw [List.set_eq_of_length_le (by omega)]
      exact outTo_bound bss xs X lost L hb hx r (by omega) i
theorem outTo_make (bss : List (List G)) (xs : List Int) (X : List (List G)) (lost : List Nat) (L m : Nat) (hb : ∀ i, (bss.getD i []).length ≤ L) (hx : ∀ c, c < lost.length → (X.getD c []).length ≤ L) (hL : L ≤ 65536) (hm : m ≤ 4) (hn : bss.length ≤ 16) :
    makeErr (outTo bss xs X lost lost.length) m = 0 ∧ makeOut (outTo bss xs X lost lost.length) m = makeG (outTo bss xs X lost lost.length) m := by
  have h := makeErr_ok (outTo bss xs X lost lost.length) m hm (by rw [outTo_length]; exact hn) (Nat.le_trans (longTo_le _ L (fun i _ => outTo_bound bss xs X lost L hb hx _ (Nat.le_refl _) i) _ (Nat.le_refl _)) hL)
  exact ⟨h, makeOut_ok _ _ h⟩
end Go.Proofs.Ytiggohkkokalcaa
