/- Package parity's Repair: parts of a block. -/
import Derived.Test.YtiggohkkokalcaaOuts
namespace Go.Proofs.Ytiggohkkokalcaa
open Go.RowKit Go.Proofs.YtiggohkkokalcaaW.PrintWords Go.Proofs.YtiggohkkokalcaaW.PrintMore
set_option linter.unusedVariables false

theorem info5' : ∃ i, Try.prog.info? 5 = some i ∧ i.size = 1 := by
  obtain ⟨i, hi, he⟩ := Option.map_eq_some_iff.1 info5
  simp only [Prod.mk.injEq] at he
  exact ⟨i, hi, he.2.1⟩
/-- b[z:] -/
theorem run_drop (A : Option Addr) (L c z : Nat) (hz : z ≤ L) (hc : L ≤ c) :
    ∃ A', (∀ W : World, (Instr.slice 33 (.slice A L c) (some (.int .i64 (z : Int))) none none).run Try.prog W = .ok (.slice A' (L - z) (c - z)) W) ∧
      (∀ (W : World) (ok : Nat → Prop) (xs : List G), Vb W ok (.slice A L c) xs → Vb W ok (.slice A' (L - z) (c - z)) (xs.drop z)) := by
  obtain ⟨i, hi, hs⟩ := info5'
  refine ⟨if c = z then A else A.map (·.add z), fun W => ?_, fun W ok xs h => ?_⟩
  · have hel : Try.prog.elem 33 = 5 := by simp [Program.elem, Try.underlying33]
    have hu : Try.prog.underlying 33 = some (.slice (Try.prog.elem 33)) := by rw [hel]; exact Try.underlying33
    rw [run_slice_l W 33 A L c hu .i64 z (by omega) (by omega), hel]
    simp [sizeOf, typeInfo, hi, hs, sliced, Result.andThen]
  · obtain ⟨h1, h2, h3⟩ := Kd.V_at h
    subst h1
    have h4 := Kd.F_cut h3 hz hc
    have e : KG.sz = 1 := rfl
    rw [e, Nat.mul_one, List.length_drop] at h4
    have := Kd.V_mk (e := 5) (base := 0) (c := c - z) (by rw [List.length_drop]; omega) (show Kd.F KG W ok (if c = z then A else A.map (·.add z)) (xs.drop z).length (xs.drop z) by rw [List.length_drop]; exact h4)
    rwa [List.length_drop] at this
/-- b[:z] -/
theorem run_take (A : Option Addr) (L c z : Nat) (hz : z ≤ L) (hc : L ≤ c) :
    (∀ W : World, (Instr.slice 33 (.slice A L c) none (some (.int .i64 (z : Int))) none).run Try.prog W = .ok (.slice A z c) W) ∧
      (∀ (W : World) (ok : Nat → Prop) (xs : List G), Vb W ok (.slice A L c) xs → Vb W ok (.slice A z c) (xs.take z)) := by
  obtain ⟨i, hi, hs⟩ := info5'
  refine ⟨fun W => ?_, fun W ok xs h => ?_⟩
  · have hel : Try.prog.elem 33 = 5 := by simp [Program.elem, Try.underlying33]
    have hu : Try.prog.underlying 33 = some (.slice (Try.prog.elem 33)) := by rw [hel]; exact Try.underlying33
    have ha : (A.map fun x => x.add 0) = A := by cases A <;> simp [Addr.add]
    rw [run_slice_h W 33 A L c hu .i64 z (by omega) (by omega), hel]
    simp [sizeOf, typeInfo, hi, hs, sliced, Result.andThen, ha]
  · obtain ⟨h1, h2, h3⟩ := Kd.V_at h
    subst h1
    have h4 := Kd.F_take h3 hz
    have hl : (xs.take z).length = z := by rw [List.length_take]; omega
    have := Kd.V_mk (e := 5) (base := 0) (c := c) (by rw [hl]; omega) h4
    rwa [hl] at this
end Go.Proofs.Ytiggohkkokalcaa
