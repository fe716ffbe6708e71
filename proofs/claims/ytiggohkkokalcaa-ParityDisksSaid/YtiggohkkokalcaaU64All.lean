/- Rows of words: what is read of them, what is stored, what is appended; a row of four such rows. Rows of truth values; a row of two bytes. -/
import Derived.Test.YtiggohkkokalcaaScrubAll
import Derived.Test.YtiggohkkokalcaaLives
/-! Rows of words: what is read of them, what is stored, what is appended; a row of four such rows. -/
namespace Go.Proofs.Ytiggohkkokalcaa
open Go.RowKit Go.Shelf Go.Proofs.YtiggohkkokalcaaW.PrintWords Go.Proofs.YtiggohkkokalcaaW.PrintMore
set_option linter.unusedVariables false
set_option linter.unusedSimpArgs false

theorem OwnU.len {W : World} {B : Nat} {v : Value} {xs : List Nat} (h : OwnU W B v xs) : ∃ A c, v = .slice A xs.length c ∧ xs.length ≤ c := by
  obtain ⟨A, c, e, h1, _⟩ := V_open h.V
  exact ⟨A, c, e, h1⟩
theorem OwnU.form {w : World} {base : Nat} {v : Value} {xs : List Nat} (h : OwnU w base v xs) (hl : 0 < xs.length) : ∃ g cap, v = .slice (some ⟨g, 0, none⟩) xs.length cap ∧ base ≤ g ∧ g < w.heap.size :=
  World.ownsRow.form h hl
theorem OwnU.at_ {w : World} {base g n cap : Nat} {xs : List Nat} (h : OwnU w base (.slice (some ⟨g, 0, none⟩) n cap) xs) (i : Nat) (hi : i < xs.length) :
    w.cell? ⟨g, i, none⟩ = some (.int .u64 (xs.getD i 0 : Nat)) ∧ w.frozen? ⟨g, i, none⟩ = false := by
  have hn : n = xs.length := by
    rcases h.2 with ⟨h', _⟩ | ⟨g', cap', cur, h', _⟩
    · cases h'
    · injection h'
  subst hn
  have := own_at_of (enc := encN) (d := (0 : Nat)) h (i : Int) (by omega) (by omega)
  rw [Int.toNat_natCast] at this
  exact ⟨by rw [this.1]; simp [rdOf, encN], this.2⟩
theorem OwnU.set_ {w : World} {base g n cap : Nat} {xs : List Nat} (h : OwnU w base (.slice (some ⟨g, 0, none⟩) n cap) xs) (i : Nat) (x : Nat) :
    OwnU (w.setCell ⟨g, i, none⟩ (.int .u64 (x : Int))) base (.slice (some ⟨g, 0, none⟩) n cap) (xs.set i x) ∧ w.grownBy (w.setCell ⟨g, i, none⟩ (.int .u64 (x : Int))) (some g) := by
  have hn : n = xs.length := by
    rcases h.2 with ⟨h', _⟩ | ⟨g', cap', cur, h', _⟩
    · cases h'
    · injection h'
  subst hn
  have := own_store_of (enc := encN) h (i : Int) x
  rw [Int.toNat_natCast] at this
  refine ⟨?_, this.2⟩
  have h1 := this.1
  unfold OwnU
  rw [List.length_set]
  exact h1
theorem OwnU.grown {w w1 : World} {base : Nat} {v : Value} {bs : List Nat} (h : OwnU w base v bs) {row : Option Nat} (hg : w.grownBy w1 row) (hne : v.ownBlock = none ∨ v.ownBlock ≠ row) : OwnU w1 base v bs :=
  World.ownsRow.kept h hg hne
theorem OwnU.drew {w : World} {base : Nat} {v : Value} {bs : List Nat} (h : OwnU w base v bs) : OwnU w.drew base v bs := h
theorem ownU_of_N {W : World} {B : Nat} {ok : Nat → Prop} {v : Value} {bs : List Nat} (h : Kd.N KU 40 W B ok v bs) : OwnU W B v bs := by
  obtain ⟨h0, rows, hl, hR, hf⟩ := h
  obtain ⟨_, inner, ho, hr⟩ := hR
  have hil : inner.length = bs.length := by rw [hr.1, hl]; show bs.length * 1 = _; omega
  have he : inner = encs encN bs := by
    apply List.ext_getElem (by rw [hil, encs_length])
    intro j h1 h2
    have hj : j < rows.length := by omega
    have hjb : j < bs.length := by omega
    have hk := Kd.FK_now (hf j _ _ (List.getElem?_eq_getElem hjb) (List.getElem?_eq_getElem hj))
    have hk' : rows[j] = [encN bs[j]] := hk
    have h3 := (hr.2 j _ (List.getElem?_eq_getElem hj)).1
    have h4 : (inner.drop (j * 1)).take 1 = [encN bs[j]] := by rw [← hk']; exact h3
    rw [Nat.mul_one, List.take_one, List.head?_drop, List.getElem?_eq_getElem h1] at h4
    simp only [Option.toList_some, List.cons.injEq, and_true] at h4
    rw [h4]; simp [encs]
  rw [he, hl] at ho
  exact ho
/-- what a slice value of words reads -/
abbrev Vu (W : World) (ok : Nat → Prop) (v : Value) (xs : List Nat) : Prop := Kd.V KU 40 W 0 ok v xs
abbrev KUs : Kd (List Nat) := Kd.slice 40 KU
theorem FKu_one {α : Type} {d : Kd α} {e base : Nat} {W W1 : World} {ok : Nat → Prop} {v : Value} {xs : List α} (h : Kd.V d e W base ok v xs) (hb : Below W.heap.size W W1) : Kd.FK (Kd.slice e d) W1 ok xs [v] := by
  obtain ⟨A, c, rfl, hc, hf⟩ := Kd.V_below h hb
  exact Kd.FK_slice_mk hc hf
/-- a row of four rows that was just made -/
theorem Vu_four (W : World) (ok : Nat → Prop) (v0 v1 v2 v3 : Value) (x0 x1 x2 x3 : List Nat) (h0 : Vu W ok v0 x0) (h1 : Vu W ok v1 x1) (h2 : Vu W ok v2 x2) (h3 : Vu W ok v3 x3) (hok : ok W.heap.size) :
    Kd.V KUs 41 (W.alloc (.cells #[v0, v1, v2, v3] 41)) 0 ok (.slice (some ⟨W.heap.size, 0, none⟩) 4 4) [x0, x1, x2, x3] := by
  have hb := below_alloc (Below.refl _ W) (.cells #[v0, v1, v2, v3] 41)
  refine V_of_cells (d := KUs) (e := 41) (xs := [x0, x1, x2, x3]) (Nat.le_refl _) (by simp) hok (fun j x hx => ?_)
  match j with
  | 0 =>
    simp only [List.getElem?_cons_zero, Option.some.injEq] at hx
    subst hx
    refine ⟨[v0], rfl, FKu_one h0 hb, fun i y hy => ?_⟩
    match i with
    | 0 => simp only [List.getElem?_cons_zero, Option.some.injEq] at hy; subst hy; exact World.cell?_alloc_new _ _ _ _
    | i + 1 => simp at hy
  | 1 =>
    simp only [List.getElem?_cons_succ, List.getElem?_cons_zero, Option.some.injEq] at hx
    subst hx
    refine ⟨[v1], rfl, FKu_one h1 hb, fun i y hy => ?_⟩
    match i with
    | 0 => simp only [List.getElem?_cons_zero, Option.some.injEq] at hy; subst hy; exact World.cell?_alloc_new _ _ _ _
    | i + 1 => simp at hy
  | 2 =>
    simp only [List.getElem?_cons_succ, List.getElem?_cons_zero, Option.some.injEq] at hx
    subst hx
    refine ⟨[v2], rfl, FKu_one h2 hb, fun i y hy => ?_⟩
    match i with
    | 0 => simp only [List.getElem?_cons_zero, Option.some.injEq] at hy; subst hy; exact World.cell?_alloc_new _ _ _ _
    | i + 1 => simp at hy
  | 3 =>
    simp only [List.getElem?_cons_succ, List.getElem?_cons_zero, Option.some.injEq] at hx
    subst hx
    refine ⟨[v3], rfl, FKu_one h3 hb, fun i y hy => ?_⟩
    match i with
    | 0 => simp only [List.getElem?_cons_zero, Option.some.injEq] at hy; subst hy; exact World.cell?_alloc_new _ _ _ _
    | i + 1 => simp at hy
  | j + 4 => simp at hx
/-- a row of one word that was just made -/
theorem V_u1 (W : World) (g : Nat) : Vu (W.alloc (.cells #[.int .u64 (g : Int)] 40)) (fun k => k = W.heap.size) (.slice (some ⟨W.heap.size, 0, none⟩) 1 1) [g] := by
  refine V_of_cells (d := KU) (e := 40) (xs := [g]) (Nat.le_refl _) (by simp) rfl (fun j x hx => ?_)
  match j with
  | 0 =>
    simp only [List.getElem?_cons_zero, Option.some.injEq] at hx
    subst hx
    refine ⟨[.int .u64 (g : Int)], rfl, fun _ _ => rfl, fun i y hy => ?_⟩
    match i with
    | 0 =>
      simp only [List.getElem?_cons_zero, Option.some.injEq] at hy
      subst hy
      exact World.cell?_alloc_new _ _ _ _
    | i + 1 => simp at hy
  | j + 1 => simp at hx
/-- append(v, ys...): words, at a step of a region that draws its order -/
theorem app_urows_step {ops : Array Oper} {o : Oper} {a : Act} {K : Act → World → Prop} {Q : Exit → Act → World → Prop} {E : Prop} {w0 W : World} (B : Nat) (hgd : o.guard = none) (s x : Operand)
    (ho : o.op = .call { callee := .builtin .append, args := #[s, x], argTypes := #[41, 41] }) (v : Value) (xs ys : List Nat) (A : Option Addr) (m c : Nat) (ok okp : Nat → Prop) (hs : a.eval s = v) (hx : a.eval x = .slice A m c)
    (HO : Kd.N KU 40 W B (fun _ => True) v xs) (HV : Vu W okp (.slice A m c) ys) (hokp : ∀ k, okp k → some k ≠ v.ownBlock) (HB : Below B w0 W) (hbase : B ≤ W.heap.size) (hl : xs.length + m ≤ 140000)
    (h : ∀ v1 w1, OwnU w1 B v1 (xs ++ ys) → Below B w0 w1 → W.grownBy w1 v.ownBlock → (v1.ownBlock = v.ownBlock ∨ ∃ b, v1.ownBlock = some b ∧ W.heap.size ≤ b) → K (a.put o.dst v1) w1) :
    if Region.wanted o (yielded ops a.tmps) = true then Oper.wp Try.prog o a W K Q else E := by
  have hw : Region.wanted o (yielded ops a.tmps) = true := by simp [Region.wanted, hgd]
  rw [if_pos hw]
  have h1 := Kd.N_append_rows_step (P := Try.prog) (ops := ops) (o := o) (a := a) (Q := Q) (Kc := K) KU (w0 := w0) B hw s x 41 40 (.int .u64 0) 8 ho Try.underlying41 info40 rfl (by decide) (by omega) v xs ys A m c (fun _ => True) okp hs hx HO (Kd.V_F HV) (fun k hk => ⟨trivial, hokp k hk⟩) (fun _ _ => trivial) HB hbase (by omega) (fun v1 w1 hN hB hg hat => h v1 w1 (ownU_of_N hN) hB hg hat)
  rwa [if_pos hw] at h1
theorem u1_apart {W w1 : World} {v1 : Value} {g u q : Nat} {r : Option Nat} (hr : r = some u) (h : Vu W (fun k => k = q) (.slice (some ⟨q, 0, none⟩) 1 1) [g]) (hqu : q ≠ u) (hq : q < W.heap.size) (hg : W.grownBy w1 r)
    (hat : v1.ownBlock = r ∨ ∃ b, v1.ownBlock = some b ∧ W.heap.size ≤ b) : Vu w1 (fun k => some k ≠ v1.ownBlock) (.slice (some ⟨q, 0, none⟩) 1 1) [g] := by
  subst hr
  refine Kd.V_mono (Kd.V_grown h hg (fun k hk he => by injection he with he; omega)) (fun k hk he => ?_)
  subst hk
  rcases hat with h | ⟨b, hb, hl⟩
  · rw [h] at he; injection he with he; exact hqu he
  · rw [hb] at he; injection he with he; omega
theorem u1_new (w1 : World) (x : Nat) (v1 : Value) {B : Nat} {xs : List Nat} (h : OwnU w1 B v1 xs) : Vu (w1.alloc (.cells #[.int .u64 (x : Int)] 40)) (fun k => some k ≠ v1.ownBlock) (.slice (some ⟨w1.heap.size, 0, none⟩) 1 1) [x] :=
  Kd.V_mono (V_u1 w1 x) (fun q hq he => by subst hq; exact absurd (World.ownsRow.lt h _ he.symm).2 (Nat.lt_irrefl _))
theorem step_at {ops : Array Oper} {o : Oper} {a : Act} {W : World} {K : Act → World → Prop} {Q : Exit → Act → World → Prop} {E : Prop} (N : Tmp) (hd : o.dst = some N)
    (h : if Region.wanted o (yielded ops a.tmps) = true then Oper.wp Try.prog o a W K Q else E) : if Region.wanted o (yielded ops a.tmps) = true then Oper.wp Try.prog o a W K Q else E := h
theorem V_take {α : Type} {d : Kd α} {e base n c m : Nat} {W : World} {ok : Nat → Prop} {A : Option Addr} {xs : List α} (h : Kd.V d e W base ok (.slice A n c) xs) (hm : m ≤ xs.length) : Kd.V d e W base ok (.slice A m c) (xs.take m) := by
  obtain ⟨hn, hc, hf⟩ := Kd.V_at h
  have h1 := Kd.F_take hf hm
  have hl : (xs.take m).length = m := by rw [List.length_take]; omega
  have h2 := Kd.V_mk (base := base) (e := e) (c := c) (by omega : (xs.take m).length ≤ c) h1
  rw [hl] at h2
  exact h2
def minOne (n : Nat) : Nat := min 1 n
theorem min_one_len (ats : Array TypeId) (ty : TypeId) (n : Nat) : Builtin.min_ ats ty #[.int .i64 1, .int .i64 (n : Int)] = pure (.int .i64 (minOne n : Nat)) := by
  rw [min_two, min2_int]
  have : (if (n : Int) < 1 then (n : Int) else 1) = ((minOne n : Nat) : Int) := by unfold minOne; split <;> omega
  rw [this]
  rfl
theorem OwnU.N {W : World} {B : Nat} {v : Value} {xs : List Nat} (h : OwnU W B v xs) : Kd.N KU 40 W B (fun _ => True) v xs :=
  Kd.N_mono (Kd.R_N (Kd.R_of_own (enc := encN) (h1 := fun _ => rfl) h (fun _ hk => hk.symm) : Kd.R KU 40 W B (fun k => some k = v.ownBlock) v xs)) (fun _ _ => trivial)
end Go.Proofs.Ytiggohkkokalcaa

/-! Rows of truth values; a row of two bytes. -/
namespace Go.Proofs.Ytiggohkkokalcaa
open Go.RowKit Go.Proofs.YtiggohkkokalcaaW.PrintWords Go.Proofs.YtiggohkkokalcaaW.PrintMore
set_option linter.unusedVariables false
set_option linter.unusedSimpArgs false

def encT (b : Bool) : Value := .bool b
abbrev KT : Kd Bool := Kd.scalar encT (fun _ => rfl)
theorem info4 : (Try.prog.info? 4).map (fun i => (i.zero, i.size, i.bytes)) = some (some (.bool false), 1, 1) := by kernel_rfl
/-- v is a row of truth values that nobody else has (from block base on) -/
def OwnT (w : World) (base : Nat) (v : Value) (xs : List Bool) : Prop := w.ownsRow base 4 1 v xs.length (encs encT xs)
theorem OwnT.V {w : World} {base : Nat} {v : Value} {xs : List Bool} (h : OwnT w base v xs) : Kd.V KT 4 w 0 (fun k => some k = v.ownBlock) v xs := Kd.R_V (Kd.R_of_own (enc := encT) (h1 := fun _ => rfl) h (fun _ hk => hk.symm))
theorem OwnT.form {w : World} {base : Nat} {v : Value} {xs : List Bool} (h : OwnT w base v xs) (hl : 0 < xs.length) : ∃ g cap, v = .slice (some ⟨g, 0, none⟩) xs.length cap ∧ base ≤ g ∧ g < w.heap.size :=
  World.ownsRow.form h hl
theorem OwnT.at_ {w : World} {base g n cap : Nat} {xs : List Bool} (h : OwnT w base (.slice (some ⟨g, 0, none⟩) n cap) xs) (i : Nat) (hi : i < xs.length) :
    w.cell? ⟨g, i, none⟩ = some (.bool (xs.getD i false)) ∧ w.frozen? ⟨g, i, none⟩ = false := by
  have hn : n = xs.length := by
    rcases h.2 with ⟨h', _⟩ | ⟨g', cap', cur, h', _⟩
    · cases h'
    · injection h'
  subst hn
  have := own_at_of (enc := encT) (d := false) h (i : Int) (by omega) (by omega)
  rw [Int.toNat_natCast] at this
  exact ⟨by rw [this.1]; simp [rdOf, encT], this.2⟩
theorem OwnT.set_ {w : World} {base g n cap : Nat} {xs : List Bool} (h : OwnT w base (.slice (some ⟨g, 0, none⟩) n cap) xs) (i : Nat) (x : Bool) :
    OwnT (w.setCell ⟨g, i, none⟩ (.bool x)) base (.slice (some ⟨g, 0, none⟩) n cap) (xs.set i x) ∧ w.grownBy (w.setCell ⟨g, i, none⟩ (.bool x)) (some g) := by
  have hn : n = xs.length := by
    rcases h.2 with ⟨h', _⟩ | ⟨g', cap', cur, h', _⟩
    · cases h'
    · injection h'
  subst hn
  have := own_store_of (enc := encT) h (i : Int) x
  rw [Int.toNat_natCast] at this
  refine ⟨?_, this.2⟩
  have h1 := this.1
  unfold OwnT
  rw [List.length_set]
  exact h1
theorem OwnT.grown {w w1 : World} {base : Nat} {v : Value} {bs : List Bool} (h : OwnT w base v bs) {row : Option Nat} (hg : w.grownBy w1 row) (hne : v.ownBlock = none ∨ v.ownBlock ≠ row) : OwnT w1 base v bs :=
  World.ownsRow.kept h hg hne
theorem OwnT.below {w w1 : World} {base : Nat} {v : Value} {bs : List Bool} (h : OwnT w base v bs) (hb : Below w.heap.size w w1) : OwnT w1 base v bs := pw_own_below h hb
theorem OwnT.lower {w : World} {B B' : Nat} {v : Value} {xs : List Bool} (h : OwnT w B v xs) (hb : B' ≤ B) : OwnT w B' v xs := by
  obtain ⟨h0, h | ⟨g, cap, cur, h1, h2, h3⟩⟩ := h
  · exact ⟨h0, .inl h⟩
  · exact ⟨h0, .inr ⟨g, cap, cur, h1, Nat.le_trans hb h2, h3⟩⟩
/-- a row of two bytes that was just made -/
theorem V_byte2 (W : World) (a b : G) : Vb (W.alloc (.cells #[.int .u8 (toI a), .int .u8 (toI b)] 5)) (fun k => k = W.heap.size) (.slice (some ⟨W.heap.size, 0, none⟩) 2 2) [a, b] := by
  refine V_of_cells (d := KG) (e := 5) (xs := [a, b]) (Nat.le_refl _) (by simp) rfl (fun j x hx => ?_)
  match j with
  | 0 =>
    simp only [List.getElem?_cons_zero, Option.some.injEq] at hx
    subst hx
    refine ⟨[.int .u8 (toI a)], rfl, fun _ _ => rfl, fun i y hy => ?_⟩
    match i with
    | 0 =>
      simp only [List.getElem?_cons_zero, Option.some.injEq] at hy
      subst hy
      exact World.cell?_alloc_new _ _ _ _
    | i + 1 => simp at hy
  | 1 =>
    simp only [List.getElem?_cons_succ, List.getElem?_cons_zero, Option.some.injEq] at hx
    subst hx
    refine ⟨[.int .u8 (toI b)], rfl, fun _ _ => rfl, fun i y hy => ?_⟩
    match i with
    | 0 =>
      simp only [List.getElem?_cons_zero, Option.some.injEq] at hy
      subst hy
      exact World.cell?_alloc_new _ _ _ _
    | i + 1 => simp at hy
  | j + 2 => simp at hx
end Go.Proofs.Ytiggohkkokalcaa
