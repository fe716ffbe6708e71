/- Several rows of the call's own, each in blocks of its own: what an append to one leaves of the others. -/
import Derived.Test.YtiggohkkokalcaaMake
namespace Go.Proofs.Ytiggohkkokalcaa
open Go.RowKit Go.Proofs.YtiggohkkokalcaaW.PrintWords
set_option linter.unusedVariables false

/-- block q is the own block of none of them -/
def Ap (us : List Value) (q : Nat) : Prop := ∀ u ∈ us, some q ≠ u.ownBlock
/-- their own blocks are there -/
def Lt (W : World) (us : List Value) : Prop := ∀ u ∈ us, ∀ k, u.ownBlock = some k → k < W.heap.size
theorem Lt.nil (W : World) : Lt W [] := fun u hu => by simp at hu
theorem Lt.cons {W : World} {u : Value} {us : List Value} (h : ∀ k, u.ownBlock = some k → k < W.heap.size) (hs : Lt W us) : Lt W (u :: us) := fun x hx => by
  rcases List.mem_cons.1 hx with rfl | hx
  · exact h
  · exact hs x hx
theorem Lt.N {α : Type} {d : Kd α} {e B : Nat} {W : World} {ok : Nat → Prop} {u : Value} {us : List Value} {xs : List α} (h : Kd.N d e W B ok u xs) (hs : Lt W us) : Lt W (u :: us) := Lt.cons (Kd.N_lt h) hs
theorem Ap_fresh {W : World} {us : List Value} (h : Lt W us) : ∀ k, W.heap.size ≤ k → Ap us k := fun k hk u hu he => by
  have := h u hu k he.symm
  omega
theorem N_upd {α : Type} {d : Kd α} {e B : Nat} {W w1 : World} {us us' : List Value} {v x x1 : Value} {xs : List α} (h : Kd.N d e W B (Ap us) v xs) (hx : x ∈ us) (hg : W.grownBy w1 x.ownBlock)
    (hat : x1.ownBlock = x.ownBlock ∨ ∃ b, x1.ownBlock = some b ∧ W.heap.size ≤ b) (hus : ∀ u ∈ us', u = x1 ∨ u ∈ us) : Kd.N d e w1 B (Ap us') v xs := by
  have h1 : Kd.N d e W B (fun k => Ap us k ∧ some k ≠ x.ownBlock) v xs := Kd.N_mono h (fun k hk => ⟨hk, hk x hx⟩)
  have h2 := Kd.N_after h1 hg hat
  refine Kd.N_mono h2 (fun k hk u hu => ?_)
  rcases hus u hu with rfl | hu
  · exact hk.2
  · exact hk.1 u hu
theorem N_sub {α : Type} {d : Kd α} {e B : Nat} {W : World} {us us' : List Value} {v : Value} {xs : List α} (h : Kd.N d e W B (Ap us) v xs) (hus : ∀ u ∈ us', u ∈ us ∨ u.ownBlock = none) : Kd.N d e W B (Ap us') v xs :=
  Kd.N_mono h (fun k hk u hu => by
    rcases hus u hu with hu | hu
    · exact hk u hu
    · rw [hu]; simp)
section
variable {ops : Array Oper} {rest : List Oper} {o : Oper} {a : Act} {Q : Exit → Act → World → Prop}
/-- append(v, b): a byte -/
theorem app_byte {w0 W : World} (B : Nat) (hgd : o.guard = none) (s x : Operand) (ho : o.op = .call { callee := .builtin .append, args := #[s, x], argTypes := #[33, 33] })
    (v : Value) (xs : List G) (g : G) (us : List Value) (hs : a.eval s = v) (hx : a.eval x = .slice (some ⟨W.heap.size, 0, none⟩) 1 1) (HO : Kd.N KG 5 W B (Ap us) v xs) (HL : Lt W us)
    (HB : Below B w0 W) (hbase : B ≤ W.heap.size) (hl : xs.length ≤ 70000)
    (h : ∀ v1 w1, Kd.N KG 5 w1 B (Ap us) v1 (xs ++ [g]) → Below B w0 w1 → W.grownBy w1 v.ownBlock → (v1.ownBlock = v.ownBlock ∨ ∃ b, v1.ownBlock = some b ∧ W.heap.size ≤ b) → wpList Try.prog ops Q rest (a.put o.dst v1) w1) :
    wpList Try.prog ops Q (o :: rest) a (W.alloc (.cells #[.int .u8 (toI g)] 5)) :=
  Kd.N_append KG B hgd s x 33 5 (.int .u8 0) 1 ho Try.underlying33 info5 rfl (by decide) (by omega) v xs g [.int .u8 (toI g)] (Ap us) (fun _ => False) hs hx (fun _ _ => rfl) (fun _ hk => hk.elim) (Ap_fresh HL) HO HB hbase (by omega) h
/-- append(v, b): a row -/
theorem app_row {w0 W : World} (B : Nat) (hgd : o.guard = none) (s x : Operand) (ho : o.op = .call { callee := .builtin .append, args := #[s, x], argTypes := #[30, 30] })
    (v vb : Value) (xs : List (List G)) (bs : List G) (us : List Value) (okp : Nat → Prop) (hs : a.eval s = v) (hx : a.eval x = .slice (some ⟨W.heap.size, 0, none⟩) 1 1) (HV : Vb W okp vb bs)
    (hokp : ∀ k, okp k → Ap us k ∧ some k ≠ v.ownBlock) (HO : Kd.N KGs 33 W B (Ap us) v xs) (HL : Lt W us)
    (HB : Below B w0 W) (hbase : B ≤ W.heap.size) (hl : xs.length ≤ 70000)
    (h : ∀ v1 w1, Kd.N KGs 33 w1 B (Ap us) v1 (xs ++ [bs]) → Below B w0 w1 → W.grownBy w1 v.ownBlock → (v1.ownBlock = v.ownBlock ∨ ∃ b, v1.ownBlock = some b ∧ W.heap.size ≤ b) → wpList Try.prog ops Q rest (a.put o.dst v1) w1) :
    wpList Try.prog ops Q (o :: rest) a (W.alloc (.cells #[vb] 33)) := by
  obtain ⟨A, c, rfl, hc, hf⟩ := HV
  exact Kd.N_append KGs B hgd s x 30 33 (.slice none 0 0) 24 ho Try.underlying30 info33 rfl (by decide) (by omega) v xs bs [.slice A bs.length c] (Ap us) okp hs hx (Kd.FK_slice_mk hc hf) hokp (Ap_fresh HL) HO HB hbase (by omega) h
end
theorem own_none : (Value.slice none 0 0).ownBlock = none := rfl
end Go.Proofs.Ytiggohkkokalcaa
