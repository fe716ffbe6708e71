/- The walk of package parity's factor: the inverse of the sum of two points. -/
import Derived.Test.YtiggohkkokalcaaTab
namespace Go.Proofs.Ytiggohkkokalcaa
open Go.RowKit

/-- the point of parity block j and data block i -/
def cG (j i : Nat) : G := BitVec.ofNat 8 (j ^^^ (4 + i))
/-- the factor of data block i in parity block j -/
def fG (j i : Nat) : G := ginv (cG j i)
theorem cG_conv : ∀ j : Nat, j < 4 → ∀ i : Nat, i < 16 → IntKind.u8.wrap (bits .xor .i64 (j : Int) (4 + (i : Int))) = toI (cG j i) := by decide +kernel
theorem cG_ne : ∀ j : Nat, j < 4 → ∀ i : Nat, i < 16 → cG j i ≠ 0 := by decide +kernel

set_option maxHeartbeats 400000 in
theorem factor_any (j i : Nat) (w : World) (hj : j < 4) (hi : i < 16) :
    Calls Try.prog 42 #[.int .i64 j, .int .i64 i] w fun e w' => e = .returned (.int .u8 (toI (fG j i))) ∧ Below w.heap.size w w' := by
  have hc := cG_conv j hj i hi
  have hinv := fun W => inv_pos (cG j i) W (cG_ne j hj i hi)
  have HI := Lib.hid hinv
  clear hinv
  rw [fG]
  generalize toI (ginv (cG j i)) = r at *
  generalize toI (cG j i) = x at *
  go_enter Try.func42, Try.ntmps42
  go_wp2_with fail
  refine (HI.out _).mono ?_
  rintro e w1 ⟨rfl, hB⟩
  go_wp2
  go_ret
  exact ⟨rfl, hB⟩
end Go.Proofs.Ytiggohkkokalcaa
