/-
  No cell of these rows narrows 'for every input' (looked for: loops, veiled, ifaces, maps, wideKeys, modest, calm, conditions, laid).
  DERIVED. THE GIVEN ROWS OF THIS SEAT. 8 by the template 'for every input the law returns true; each argument reads behind the call as it read before'; 0 by the template 'total and deterministic' (their statements: YtiggohkkokalcaaTotals.lean).
  GIVEN WITH THE SEED: the statements are not yours to turn. If you find one false, say at which input.
  Laid BY PROGRAM, IN A SANDBOX (cutbox-rows.mjs): the forced cells as the released guide's own fill.sh prints them over the translation 5f7d2732475b2709… (all of the seat's roots in one cut). By AI agents, Wed Nov 11 2026. No macro, syntax, notation, axiom, sorry.
-/
import Derived.Test.YtiggohkkokalcaaChecked
import GoSem.Claim
import GoSem.ClaimJoined
import GoSem.ClaimMapViews
import Derived.JoinedTies
import Derived.KernelRfl
namespace Go.Proofs.Ytiggohkkokalcaa
/- THE CELL 'sum', in the pinned program and in every row, IS THE sha256 OF THE DUMP (.gsa) THAT YtiggohkkokalcaaProg.lean LOADS. Nothing in Lean hashes anything: it is a label: what it is worth is what the hold of that sum in a sandbox is worth. -/
noncomputable def Try.pinned : Pinned := { name := "ytiggohkkokalcaa", sum := "5f7d2732475b27092ebbd4b84e6b2043237bbfe9208e7cb8b28c5854a3be6ce4", checked := Try.checked }
namespace Rows
def none {H : Type} : Left H := { results := [], args := [] }

/-- 'skymosaiclaw28.ParityField': WHATEVER THE INPUT: true; the input reads as it did. -/
def parityFieldSpec : ChangeSpec := { name := "parityField", fn := fun _ => fun
  | [d1, d2, d3] => { results := [.lit (.bool true)], args := [d1, d2, d3] }
  | _ => none }
def parityFieldRow : OpenClaim := { program := "ytiggohkkokalcaa", sum := "5f7d2732475b27092ebbd4b84e6b2043237bbfe9208e7cb8b28c5854a3be6ce4", func := "skymosaic/skymosaiclaw28.ParityField", spec := "parityField", unfollowed := true, recurses := true, apart := false }
def ParityFieldSaid : Prop := parityFieldRow.holds Try.pinned (OpenSpec.ofChange parityFieldSpec)

/-- ITS FALSE NEIGHBOUR: 'it returns false'. Refute it at one input. -/
def parityFieldWrong : ChangeSpec := { name := "parityField", fn := fun _ => fun
  | [d1, d2, d3] => { results := [.lit (.bool false)], args := [d1, d2, d3] }
  | _ => none }
def ParityFieldWrongFalsely : Prop := parityFieldRow.holds Try.pinned (OpenSpec.ofChange parityFieldWrong)

/-- 'skymosaiclaw28.ParityMakes': WHATEVER THE INPUT: true; the input reads as it did. -/
def parityMakesSpec : ChangeSpec := { name := "parityMakes", fn := fun _ => fun
  | [d1, d2, d3] => { results := [.lit (.bool true)], args := [d1, d2, d3] }
  | _ => none }
def parityMakesRow : OpenClaim := { program := "ytiggohkkokalcaa", sum := "5f7d2732475b27092ebbd4b84e6b2043237bbfe9208e7cb8b28c5854a3be6ce4", func := "skymosaic/skymosaiclaw28.ParityMakes", spec := "parityMakes", unfollowed := true, recurses := true, apart := false }
def ParityMakesSaid : Prop := parityMakesRow.holds Try.pinned (OpenSpec.ofChange parityMakesSpec)

/-- ITS FALSE NEIGHBOUR: 'it returns false'. Refute it at one input. -/
def parityMakesWrong : ChangeSpec := { name := "parityMakes", fn := fun _ => fun
  | [d1, d2, d3] => { results := [.lit (.bool false)], args := [d1, d2, d3] }
  | _ => none }
def ParityMakesWrongFalsely : Prop := parityMakesRow.holds Try.pinned (OpenSpec.ofChange parityMakesWrong)

/-- 'skymosaiclaw28.ParityLinear': WHATEVER THE INPUT: true; the input reads as it did. -/
def parityLinearSpec : ChangeSpec := { name := "parityLinear", fn := fun _ => fun
  | [d1, d2, d3] => { results := [.lit (.bool true)], args := [d1, d2, d3] }
  | _ => none }
def parityLinearRow : OpenClaim := { program := "ytiggohkkokalcaa", sum := "5f7d2732475b27092ebbd4b84e6b2043237bbfe9208e7cb8b28c5854a3be6ce4", func := "skymosaic/skymosaiclaw28.ParityLinear", spec := "parityLinear", unfollowed := true, recurses := true, apart := false }
def ParityLinearSaid : Prop := parityLinearRow.holds Try.pinned (OpenSpec.ofChange parityLinearSpec)

/-- ITS FALSE NEIGHBOUR: 'it returns false'. Refute it at one input. -/
def parityLinearWrong : ChangeSpec := { name := "parityLinear", fn := fun _ => fun
  | [d1, d2, d3] => { results := [.lit (.bool false)], args := [d1, d2, d3] }
  | _ => none }
def ParityLinearWrongFalsely : Prop := parityLinearRow.holds Try.pinned (OpenSpec.ofChange parityLinearWrong)

/-- 'skymosaiclaw28.ParityScrubs': WHATEVER THE INPUT: true; the input reads as it did. -/
def parityScrubsSpec : ChangeSpec := { name := "parityScrubs", fn := fun _ => fun
  | [d1, d2, d3, d4] => { results := [.lit (.bool true)], args := [d1, d2, d3, d4] }
  | _ => none }
def parityScrubsRow : OpenClaim := { program := "ytiggohkkokalcaa", sum := "5f7d2732475b27092ebbd4b84e6b2043237bbfe9208e7cb8b28c5854a3be6ce4", func := "skymosaic/skymosaiclaw28.ParityScrubs", spec := "parityScrubs", unfollowed := true, recurses := true, apart := false }
def ParityScrubsSaid : Prop := parityScrubsRow.holds Try.pinned (OpenSpec.ofChange parityScrubsSpec)

/-- ITS FALSE NEIGHBOUR: 'it returns false'. Refute it at one input. -/
def parityScrubsWrong : ChangeSpec := { name := "parityScrubs", fn := fun _ => fun
  | [d1, d2, d3, d4] => { results := [.lit (.bool false)], args := [d1, d2, d3, d4] }
  | _ => none }
def ParityScrubsWrongFalsely : Prop := parityScrubsRow.holds Try.pinned (OpenSpec.ofChange parityScrubsWrong)

/-- 'skymosaiclaw28.ParityRepairs': WHATEVER THE INPUT: true; the input reads as it did. -/
def parityRepairsSpec : ChangeSpec := { name := "parityRepairs", fn := fun _ => fun
  | [d1, d2, d3, d4, d5, d6] => { results := [.lit (.bool true)], args := [d1, d2, d3, d4, d5, d6] }
  | _ => none }
def parityRepairsRow : OpenClaim := { program := "ytiggohkkokalcaa", sum := "5f7d2732475b27092ebbd4b84e6b2043237bbfe9208e7cb8b28c5854a3be6ce4", func := "skymosaic/skymosaiclaw28.ParityRepairs", spec := "parityRepairs", unfollowed := true, recurses := true, apart := false }
def ParityRepairsSaid : Prop := parityRepairsRow.holds Try.pinned (OpenSpec.ofChange parityRepairsSpec)

/-- ITS FALSE NEIGHBOUR: 'it returns false'. Refute it at one input. -/
def parityRepairsWrong : ChangeSpec := { name := "parityRepairs", fn := fun _ => fun
  | [d1, d2, d3, d4, d5, d6] => { results := [.lit (.bool false)], args := [d1, d2, d3, d4, d5, d6] }
  | _ => none }
def ParityRepairsWrongFalsely : Prop := parityRepairsRow.holds Try.pinned (OpenSpec.ofChange parityRepairsWrong)

/-- 'skymosaiclaw28.ParityRestores': WHATEVER THE INPUT: true; the input reads as it did. -/
def parityRestoresSpec : ChangeSpec := { name := "parityRestores", fn := fun _ => fun
  | [d1, d2, d3] => { results := [.lit (.bool true)], args := [d1, d2, d3] }
  | _ => none }
def parityRestoresRow : OpenClaim := { program := "ytiggohkkokalcaa", sum := "5f7d2732475b27092ebbd4b84e6b2043237bbfe9208e7cb8b28c5854a3be6ce4", func := "skymosaic/skymosaiclaw28.ParityRestores", spec := "parityRestores", unfollowed := true, recurses := true, apart := false }
def ParityRestoresSaid : Prop := parityRestoresRow.holds Try.pinned (OpenSpec.ofChange parityRestoresSpec)

/-- ITS FALSE NEIGHBOUR: 'it returns false'. Refute it at one input. -/
def parityRestoresWrong : ChangeSpec := { name := "parityRestores", fn := fun _ => fun
  | [d1, d2, d3] => { results := [.lit (.bool false)], args := [d1, d2, d3] }
  | _ => none }
def ParityRestoresWrongFalsely : Prop := parityRestoresRow.holds Try.pinned (OpenSpec.ofChange parityRestoresWrong)

/-- 'skymosaiclaw28.ParityHeals': WHATEVER THE INPUT: true; the input reads as it did. -/
def parityHealsSpec : ChangeSpec := { name := "parityHeals", fn := fun _ => fun
  | [d1, d2, d3, d4] => { results := [.lit (.bool true)], args := [d1, d2, d3, d4] }
  | _ => none }
def parityHealsRow : OpenClaim := { program := "ytiggohkkokalcaa", sum := "5f7d2732475b27092ebbd4b84e6b2043237bbfe9208e7cb8b28c5854a3be6ce4", func := "skymosaic/skymosaiclaw28.ParityHeals", spec := "parityHeals", unfollowed := true, recurses := true, apart := false }
def ParityHealsSaid : Prop := parityHealsRow.holds Try.pinned (OpenSpec.ofChange parityHealsSpec)

/-- ITS FALSE NEIGHBOUR: 'it returns false'. Refute it at one input. -/
def parityHealsWrong : ChangeSpec := { name := "parityHeals", fn := fun _ => fun
  | [d1, d2, d3, d4] => { results := [.lit (.bool false)], args := [d1, d2, d3, d4] }
  | _ => none }
def ParityHealsWrongFalsely : Prop := parityHealsRow.holds Try.pinned (OpenSpec.ofChange parityHealsWrong)

/-- 'skymosaiclaw28.ParityDisks': WHATEVER THE INPUT: true; the input reads as it did. -/
def parityDisksSpec : ChangeSpec := { name := "parityDisks", fn := fun _ => fun
  | [d1, d2, d3, d4] => { results := [.lit (.bool true)], args := [d1, d2, d3, d4] }
  | _ => none }
def parityDisksRow : OpenClaim := { program := "ytiggohkkokalcaa", sum := "5f7d2732475b27092ebbd4b84e6b2043237bbfe9208e7cb8b28c5854a3be6ce4", func := "skymosaic/skymosaiclaw28.ParityDisks", spec := "parityDisks", unfollowed := true, recurses := true, apart := false }
def ParityDisksSaid : Prop := parityDisksRow.holds Try.pinned (OpenSpec.ofChange parityDisksSpec)

/-- ITS FALSE NEIGHBOUR: 'it returns false'. Refute it at one input. -/
def parityDisksWrong : ChangeSpec := { name := "parityDisks", fn := fun _ => fun
  | [d1, d2, d3, d4] => { results := [.lit (.bool false)], args := [d1, d2, d3, d4] }
  | _ => none }
def ParityDisksWrongFalsely : Prop := parityDisksRow.holds Try.pinned (OpenSpec.ofChange parityDisksWrong)

/- THE SECOND FORM. 'bulk': how many values and letters a reading holds, each counted each time it is reached (what is shared counts as often as it is met; a slice's spare places count too). A statement '..UptoSaid' is the law's where the arguments, and the package variables that the reading takes, are together of bulk at most 1048576: NARROWER than '..Said'. Prove '..Said' where nothing that the law and all that it calls make is longer than what came in: it says more and counts as full. Else prove '..UptoSaid'. A law counts once. -/
mutual
def uptoBulk {H : Type} : DataW H → Nat
  | .lit (.string bytes) => bytes.length + 1
  | .lit _ => 1
  | .nil => 1
  | .ptr d => uptoBulk d + 1
  | .slice elems spare => uptoBulkAll elems + uptoBulkAll spare + 1
  | .agg parts => uptoBulkAll parts + 1
  | .iface _ d => uptoBulk d + 1
  | .map entries => uptoBulkEntries entries + 1
  | .held _ => 1
def uptoBulkAll {H : Type} : List (DataW H) → Nat
  | [] => 0
  | d :: r => uptoBulk d + uptoBulkAll r
def uptoBulkEntries {H : Type} : List (Lit × DataW H) → Nat
  | [] => 0
  | x :: r => uptoBulkEntry x + uptoBulkEntries r
def uptoBulkEntry {H : Type} : Lit × DataW H → Nat
  | (.string bytes, d) => bytes.length + uptoBulk d + 1
  | (_, d) => uptoBulk d + 1
 end
def uptoSmall : (H : Type) → List (DataW H) → Bool := fun _ ds => decide (uptoBulkAll ds ≤ 1048576)
def OpenSpec.upto (s : _root_.Go.ChangeSpec) : _root_.Go.OpenSpec := { _root_.Go.OpenSpec.ofChange s with cond := some uptoSmall }

/-- 'skymosaiclaw28.ParityField', WHERE WHAT IT READS IS OF BULK AT MOST 1048576: true; the input reads as it did. -/
def parityFieldUptoRow : OpenClaim := { program := "ytiggohkkokalcaa", sum := "5f7d2732475b27092ebbd4b84e6b2043237bbfe9208e7cb8b28c5854a3be6ce4", func := "skymosaic/skymosaiclaw28.ParityField", spec := "parityField", unfollowed := true, recurses := true, apart := false, narrowed := true }
def ParityFieldUptoSaid : Prop := parityFieldUptoRow.holds Try.pinned (OpenSpec.upto parityFieldSpec)

/-- 'skymosaiclaw28.ParityMakes', WHERE WHAT IT READS IS OF BULK AT MOST 1048576: true; the input reads as it did. -/
def parityMakesUptoRow : OpenClaim := { program := "ytiggohkkokalcaa", sum := "5f7d2732475b27092ebbd4b84e6b2043237bbfe9208e7cb8b28c5854a3be6ce4", func := "skymosaic/skymosaiclaw28.ParityMakes", spec := "parityMakes", unfollowed := true, recurses := true, apart := false, narrowed := true }
def ParityMakesUptoSaid : Prop := parityMakesUptoRow.holds Try.pinned (OpenSpec.upto parityMakesSpec)

/-- 'skymosaiclaw28.ParityLinear', WHERE WHAT IT READS IS OF BULK AT MOST 1048576: true; the input reads as it did. -/
def parityLinearUptoRow : OpenClaim := { program := "ytiggohkkokalcaa", sum := "5f7d2732475b27092ebbd4b84e6b2043237bbfe9208e7cb8b28c5854a3be6ce4", func := "skymosaic/skymosaiclaw28.ParityLinear", spec := "parityLinear", unfollowed := true, recurses := true, apart := false, narrowed := true }
def ParityLinearUptoSaid : Prop := parityLinearUptoRow.holds Try.pinned (OpenSpec.upto parityLinearSpec)

/-- 'skymosaiclaw28.ParityScrubs', WHERE WHAT IT READS IS OF BULK AT MOST 1048576: true; the input reads as it did. -/
def parityScrubsUptoRow : OpenClaim := { program := "ytiggohkkokalcaa", sum := "5f7d2732475b27092ebbd4b84e6b2043237bbfe9208e7cb8b28c5854a3be6ce4", func := "skymosaic/skymosaiclaw28.ParityScrubs", spec := "parityScrubs", unfollowed := true, recurses := true, apart := false, narrowed := true }
def ParityScrubsUptoSaid : Prop := parityScrubsUptoRow.holds Try.pinned (OpenSpec.upto parityScrubsSpec)

/-- 'skymosaiclaw28.ParityRepairs', WHERE WHAT IT READS IS OF BULK AT MOST 1048576: true; the input reads as it did. -/
def parityRepairsUptoRow : OpenClaim := { program := "ytiggohkkokalcaa", sum := "5f7d2732475b27092ebbd4b84e6b2043237bbfe9208e7cb8b28c5854a3be6ce4", func := "skymosaic/skymosaiclaw28.ParityRepairs", spec := "parityRepairs", unfollowed := true, recurses := true, apart := false, narrowed := true }
def ParityRepairsUptoSaid : Prop := parityRepairsUptoRow.holds Try.pinned (OpenSpec.upto parityRepairsSpec)

/-- 'skymosaiclaw28.ParityRestores', WHERE WHAT IT READS IS OF BULK AT MOST 1048576: true; the input reads as it did. -/
def parityRestoresUptoRow : OpenClaim := { program := "ytiggohkkokalcaa", sum := "5f7d2732475b27092ebbd4b84e6b2043237bbfe9208e7cb8b28c5854a3be6ce4", func := "skymosaic/skymosaiclaw28.ParityRestores", spec := "parityRestores", unfollowed := true, recurses := true, apart := false, narrowed := true }
def ParityRestoresUptoSaid : Prop := parityRestoresUptoRow.holds Try.pinned (OpenSpec.upto parityRestoresSpec)

/-- 'skymosaiclaw28.ParityHeals', WHERE WHAT IT READS IS OF BULK AT MOST 1048576: true; the input reads as it did. -/
def parityHealsUptoRow : OpenClaim := { program := "ytiggohkkokalcaa", sum := "5f7d2732475b27092ebbd4b84e6b2043237bbfe9208e7cb8b28c5854a3be6ce4", func := "skymosaic/skymosaiclaw28.ParityHeals", spec := "parityHeals", unfollowed := true, recurses := true, apart := false, narrowed := true }
def ParityHealsUptoSaid : Prop := parityHealsUptoRow.holds Try.pinned (OpenSpec.upto parityHealsSpec)

/-- 'skymosaiclaw28.ParityDisks', WHERE WHAT IT READS IS OF BULK AT MOST 1048576: true; the input reads as it did. -/
def parityDisksUptoRow : OpenClaim := { program := "ytiggohkkokalcaa", sum := "5f7d2732475b27092ebbd4b84e6b2043237bbfe9208e7cb8b28c5854a3be6ce4", func := "skymosaic/skymosaiclaw28.ParityDisks", spec := "parityDisks", unfollowed := true, recurses := true, apart := false, narrowed := true }
def ParityDisksUptoSaid : Prop := parityDisksUptoRow.holds Try.pinned (OpenSpec.upto parityDisksSpec)

end Rows
end Go.Proofs.Ytiggohkkokalcaa
