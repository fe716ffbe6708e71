/- What package parity's check answers, in plain lists; rows of ints of the call's own, and appends to rows. -/
import Derived.Test.YtiggohkkokalcaaOne
namespace Go.Proofs.Ytiggohkkokalcaa
open Go.RowKit Go.Proofs.YtiggohkkokalcaaW.PrintWords Go.Proofs.YtiggohkkokalcaaW.PrintMore
set_option linter.unusedVariables false
set_option linter.unusedSimpArgs false

def encI (a : Int) : Value := .int .i64 a
def OwnI (w : World) (base : Nat) (v : Value) (xs : List Int) : Prop := w.ownsRow base 3 1 v xs.length (encs encI xs)
theorem OwnI.V {w : World} {base : Nat} {v : Value} {xs : List Int} (h : OwnI w base v xs) : Vi w (fun k => some k = v.ownBlock) v xs := Kd.R_V (Kd.R_of_own (enc := encI) (h1 := fun _ => rfl) h (fun _ hk => hk.symm))
theorem OwnI.below {w w1 : World} {base : Nat} {v : Value} {bs : List Int} (h : OwnI w base v bs) (hb : Below w.heap.size w w1) : OwnI w1 base v bs := pw_own_below h hb
theorem OwnI.grown {w w1 : World} {base : Nat} {v : Value} {bs : List Int} (h : OwnI w base v bs) {row : Option Nat} (hg : w.grownBy w1 row) (hne : v.ownBlock = none ∨ v.ownBlock ≠ row) : OwnI w1 base v bs := World.ownsRow.kept h hg hne
theorem OwnI.nil (w : World) (base : Nat) : OwnI w base (.slice none 0 0) [] := World.ownsRow_nil _ _ _ _
theorem OwnI.lt {w : World} {base : Nat} {v : Value} {xs : List Int} (h : OwnI w base v xs) : ∀ k, v.ownBlock = some k → base ≤ k ∧ k < w.heap.size := fun k hk => World.ownsRow.lt h k hk
theorem OwnB.lt {w : World} {base : Nat} {v : Value} {xs : List G} (h : OwnB w base v xs) : ∀ k, v.ownBlock = some k → base ≤ k ∧ k < w.heap.size := fun k hk => World.ownsRow.lt h k hk
/-- what was grown lies apart from an elder row -/
theorem Ap2_new {W : World} {v v1 u : Value} (hat : v1.ownBlock = v.ownBlock ∨ ∃ b, v1.ownBlock = some b ∧ W.heap.size ≤ b) (hap : Ap2 v u) (hu : ∀ k, u.ownBlock = some k → k < W.heap.size) (hv : v.ownBlock = none → v1.ownBlock = none ∨ ∃ b, v1.ownBlock = some b ∧ W.heap.size ≤ b) : Ap2 v1 u := by
  have key : (∃ b, v1.ownBlock = some b ∧ W.heap.size ≤ b) → Ap2 v1 u := by
    rintro ⟨b, hb, hl⟩
    refine .inr (fun he => ?_)
    have := hu b (by rw [← he, hb])
    omega
  rcases hat with h | h
  · rcases hap with h2 | h2
    · exact .inl (by rw [h, h2])
    · exact .inr (by rw [h]; exact h2)
  · exact key h
section
variable {ops : Array Oper} {rest : List Oper} {o : Oper} {a : Act} {Q : Exit → Act → World → Prop}
theorem info3 : (Try.prog.info? 3).map (fun i => (i.zero, i.size, i.bytes)) = some (some (.int .i64 0), 1, 8) := by kernel_rfl
/-- append(v, x): an int, to a row of the call's own -/
theorem app_int {w0 W : World} (B : Nat) (hgd : o.guard = none) (s x : Operand) (ho : o.op = .call { callee := .builtin .append, args := #[s, x], argTypes := #[29, 29] })
    (v : Value) (xs : List Int) (g : Int) (hs : a.eval s = v) (hx : a.eval x = .slice (some ⟨W.heap.size, 0, none⟩) 1 1) (HO : OwnI W B v xs)
    (HB : Below B w0 W) (hbase : B ≤ W.heap.size) (hl : xs.length ≤ 70000)
    (h : ∀ v1 w1, OwnI w1 B v1 (xs ++ [g]) → Below B w0 w1 → W.grownBy w1 v.ownBlock → (v1.ownBlock = v.ownBlock ∨ ∃ b, v1.ownBlock = some b ∧ W.heap.size ≤ b) → wpList Try.prog ops Q rest (a.put o.dst v1) w1) :
    wpList Try.prog ops Q (o :: rest) a (W.alloc (.cells #[.int .i64 g] 3)) := by
  refine print_append_cells B hgd s x 29 3 (.int .i64 0) 1 8 ho Try.underlying29 info3 rfl (by decide) (by omega) v xs.length (encs encI xs) [.int .i64 g] hs hx rfl (fun u hu => by rw [List.mem_singleton] at hu; subst hu; rfl) HO HB hbase (by omega) ?_
  intro v1 w1 h1 h2 h3 h4
  refine h v1 w1 ?_ h2 h3 h4
  unfold OwnI
  rw [List.length_append, encs, List.map_append]
  exact h1
/-- append(v, x): a byte, to a row of the call's own -/
theorem app_own {w0 W : World} (B : Nat) (hgd : o.guard = none) (s x : Operand) (ho : o.op = .call { callee := .builtin .append, args := #[s, x], argTypes := #[33, 33] })
    (v : Value) (xs : List G) (g : G) (hs : a.eval s = v) (hx : a.eval x = .slice (some ⟨W.heap.size, 0, none⟩) 1 1) (HO : OwnB W B v xs)
    (HB : Below B w0 W) (hbase : B ≤ W.heap.size) (hl : xs.length ≤ 70000)
    (h : ∀ v1 w1, OwnB w1 B v1 (xs ++ [g]) → Below B w0 w1 → W.grownBy w1 v.ownBlock → (v1.ownBlock = v.ownBlock ∨ ∃ b, v1.ownBlock = some b ∧ W.heap.size ≤ b) → wpList Try.prog ops Q rest (a.put o.dst v1) w1) :
    wpList Try.prog ops Q (o :: rest) a (W.alloc (.cells #[.int .u8 (toI g)] 5)) := by
  refine print_append_cells B hgd s x 33 5 (.int .u8 0) 1 1 ho Try.underlying33 info5 rfl (by decide) (by omega) v xs.length (encs encG xs) [.int .u8 (toI g)] hs hx rfl (fun u hu => by rw [List.mem_singleton] at hu; subst hu; rfl) HO HB hbase (by omega) ?_
  intro v1 w1 h1 h2 h3 h4
  refine h v1 w1 ?_ h2 h3 h4
  unfold OwnB
  rw [List.length_append, encs, List.map_append]
  exact h1
end
/-! check -/
def lostAt (bss : List (List G)) (xs : List Int) (i : Nat) : Prop := (bss.getD i []).length = 0 ∧ 0 < xs.getD i 0
def badAt (bss : List (List G)) (xs : List Int) (i : Nat) : Prop := ¬ lostAt bss xs i ∧ ((bss.getD i []).length : Int) ≠ xs.getD i 0
def goneAt (pss : List (List G)) (l : Int) (j : Nat) : Prop := (pss.getD j []).length = 0 ∧ 0 < l
def badP (pss : List (List G)) (l : Int) (j : Nat) : Prop := ¬ goneAt pss l j ∧ ((pss.getD j []).length : Int) ≠ l
instance (bss : List (List G)) (xs : List Int) (i : Nat) : Decidable (lostAt bss xs i) := by unfold lostAt; infer_instance
instance (pss : List (List G)) (l : Int) (j : Nat) : Decidable (goneAt pss l j) := by unfold goneAt; infer_instance
def lngTo (xs : List Int) : Nat → Int
  | 0 => 0
  | k + 1 => max (lngTo xs k) (xs.getD k 0)
def lostTo (bss : List (List G)) (xs : List Int) : Nat → List Int
  | 0 => []
  | k + 1 => if lostAt bss xs k then lostTo bss xs k ++ [(k : Int)] else lostTo bss xs k
def leftTo (pss : List (List G)) (l : Int) : Nat → List Int
  | 0 => []
  | k + 1 => if goneAt pss l k then leftTo pss l k else leftTo pss l k ++ [(k : Int)]
theorem lostTo_length (bss : List (List G)) (xs : List Int) (k : Nat) : (lostTo bss xs k).length ≤ k := by
  induction k with
  | zero => simp [lostTo]
  | succ k ih => unfold lostTo; split <;> (try rw [List.length_append]) <;> (try simp only [List.length_singleton]) <;> omega
theorem leftTo_length (pss : List (List G)) (l : Int) (k : Nat) : (leftTo pss l k).length ≤ k := by
  induction k with
  | zero => simp [leftTo]
  | succ k ih => unfold leftTo; split <;> (try rw [List.length_append]) <;> (try simp only [List.length_singleton]) <;> omega
open Classical in
/-- check's error -/
noncomputable def chkErr (bss pss : List (List G)) (xs : List Int) : Int :=
  if 16 < bss.length ∨ 4 < pss.length then 4 else if xs.length ≠ bss.length ∨ xs.any badSize = true then 1
  else if (∃ i, i < bss.length ∧ badAt bss xs i) ∨ (∃ j, j < pss.length ∧ badP pss (lngTo xs bss.length) j) then 1
  else if (leftTo pss (lngTo xs bss.length) pss.length).length < (lostTo bss xs bss.length).length then 26 else 0
end Go.Proofs.Ytiggohkkokalcaa
