/- Rows of bytes of the field and rows of such rows: what is read of them, and what is stored, in the walk's spelling. -/
import Derived.Test.YtiggohkkokalcaaTab
import Derived.Test.YtiggohkkokalcaaWMore
import Derived.Test.YtiggohkkokalcaaWN
import Derived.Test.YtiggohkkokalcaaWShare
namespace Go.Proofs.Ytiggohkkokalcaa
open Go.RowKit Go.Proofs.YtiggohkkokalcaaW.PrintWords

/-- a byte in memory -/
def encG (a : G) : Value := .int .u8 (toI a)
theorem encG_eq (a : G) : encG a = .int .u8 (toI a) := rfl
/-- rows of bytes -/
def KG : Kd G := Kd.scalar encG (fun _ => rfl)
/-- rows of rows of bytes -/
def KGs : Kd (List G) := Kd.slice 5 KG

section
variable {α : Type} {W w1 : World} {ok : Nat → Prop} {v : Value}
/-- What a slice value of bytes reads. -/
abbrev Vb (W : World) (ok : Nat → Prop) (v : Value) (bs : List G) : Prop := Kd.V KG 5 W 0 ok v bs
/-- What a slice value of rows of bytes reads. -/
abbrev Vbb (W : World) (ok : Nat → Prop) (v : Value) (bss : List (List G)) : Prop := Kd.V KGs 33 W 0 ok v bss

theorem V_max {d : Kd α} {e base : Nat} {xs : List α} (h : Kd.V d e W base ok v xs) : xs.length ≤ 9223372036854775807 := by
  obtain ⟨A, c, _, _, hf⟩ := h
  exact Kd.F_max hf
theorem V_open {d : Kd α} {e base : Nat} {xs : List α} (h : Kd.V d e W base ok v xs) : ∃ A c, v = .slice A xs.length c ∧ xs.length ≤ c ∧ xs.length ≤ 9223372036854775807 := by
  have hm := V_max h
  obtain ⟨A, c, he, hc, hf⟩ := h
  exact ⟨A, c, he, hc, hm⟩
/-- the cell of a scalar row -/
theorem V_scalar {enc : α → Value} {h1 : ∀ x, (enc x).oneCell' = true} {e base n c : Nat} {A : Option Addr} {xs : List α} (h : Kd.V (Kd.scalar enc h1) e W base ok (.slice A n c) xs) (z : α) (i : Nat) (hi : i < xs.length) :
    ∃ ad, A = some ad ∧ W.cell? (ad.add i) = some (enc (xs.getD i z)) ∧ ok ad.block := by
  obtain ⟨hn, hc, hf⟩ := Kd.V_at h
  obtain ⟨ad, cs, he, hcl, hK, hcc, hok⟩ := Kd.F_get hf z (i : Int) (by omega) (by omega)
  have hk : cs = [enc (xs.getD (i : Int).toNat z)] := Kd.FK_now hK
  subst hk
  refine ⟨ad, he, ?_, hok (by show 0 < 1; omega)⟩
  have := hcc 0 _ rfl
  rw [Int.toNat_natCast] at this
  rwa [show i * (Kd.scalar enc h1).sz + 0 = i by show i * 1 + 0 = i; omega] at this
theorem Vb_cell {n c : Nat} {A : Option Addr} {bs : List G} (h : Vb W ok (.slice A n c) bs) (i : Nat) (hi : i < bs.length) :
    ∃ ad, A = some ad ∧ W.cell? (ad.add i) = some (.int .u8 (toI (bs.getD i 0))) ∧ ok ad.block := V_scalar h 0 i hi
/-- the cell of a row of rows, and what it reads -/
theorem V_rows {d : Kd α} {e e' base n c : Nat} {A : Option Addr} {xss : List (List α)} (h : Kd.V (Kd.slice e d) e' W base ok (.slice A n c) xss) (i : Nat) (hi : i < xss.length) :
    ∃ ad A1 c1, A = some ad ∧ W.cell? (ad.add i) = some (.slice A1 (xss.getD i []).length c1) ∧ Kd.V d e W 0 ok (.slice A1 (xss.getD i []).length c1) (xss.getD i []) ∧ ok ad.block := by
  obtain ⟨hn, hc, hf⟩ := Kd.V_at h
  obtain ⟨ad, cs, he, hcl, hK, hcc, hok⟩ := Kd.F_get hf [] (i : Int) (by omega) (by omega)
  obtain ⟨A1, c1, rfl, hl, hf1⟩ := Kd.FK_slice_open hK
  rw [Int.toNat_natCast] at hcc hf1 hl
  refine ⟨ad, A1, c1, he, ?_, ⟨A1, c1, rfl, hl, hf1⟩, hok (by show 0 < 1; omega)⟩
  have := hcc 0 _ rfl
  rwa [show i * (Kd.slice e d).sz + 0 = i by show i * 1 + 0 = i; omega] at this
theorem Vbb_row {n c : Nat} {A : Option Addr} {bss : List (List G)} (h : Vbb W ok (.slice A n c) bss) (i : Nat) (hi : i < bss.length) :
    ∃ ad A1 c1, A = some ad ∧ W.cell? (ad.add i) = some (.slice A1 (bss.getD i []).length c1) ∧ Vb W ok (.slice A1 (bss.getD i []).length c1) (bss.getD i []) ∧ ok ad.block := V_rows h i hi
end

/-! a row of bytes of the call's own -/
/-- v is a row of bytes that nobody else has (from block base on). -/
def OwnB (w : World) (base : Nat) (v : Value) (bs : List G) : Prop := w.ownsRow base 5 1 v bs.length (encs encG bs)
theorem OwnB.R {w : World} {base : Nat} {v : Value} {bs : List G} (h : OwnB w base v bs) : KG.R 5 w base (fun k => some k = v.ownBlock) v bs :=
  Kd.R_of_own h (fun _ hk => hk.symm)
theorem OwnB.V {w : World} {base : Nat} {v : Value} {bs : List G} (h : OwnB w base v bs) : Vb w (fun k => some k = v.ownBlock) v bs := Kd.R_V h.R
theorem OwnB.form {w : World} {base : Nat} {v : Value} {bs : List G} (h : OwnB w base v bs) (hl : 0 < bs.length) : ∃ g cap, v = .slice (some ⟨g, 0, none⟩) bs.length cap ∧ base ≤ g ∧ g < w.heap.size :=
  World.ownsRow.form h hl
theorem OwnB.at_ {w : World} {base g n cap : Nat} {bs : List G} (h : OwnB w base (.slice (some ⟨g, 0, none⟩) n cap) bs) (i : Nat) (hi : i < bs.length) :
    w.cell? ⟨g, i, none⟩ = some (.int .u8 (toI (bs.getD i 0))) ∧ w.frozen? ⟨g, i, none⟩ = false := by
  have hn : n = bs.length := by
    rcases h.2 with ⟨h', _⟩ | ⟨g', cap', cur, h', _⟩
    · cases h'
    · injection h'
  subst hn
  have := own_at_of (enc := encG) (d := (0 : G)) h (i : Int) (by omega) (by omega)
  rw [Int.toNat_natCast] at this
  exact ⟨by rw [this.1]; simp [rdOf, encG], this.2⟩
theorem OwnB.set_ {w : World} {base g n cap : Nat} {bs : List G} (h : OwnB w base (.slice (some ⟨g, 0, none⟩) n cap) bs) (i : Nat) (x : G) :
    OwnB (w.setCell ⟨g, i, none⟩ (.int .u8 (toI x))) base (.slice (some ⟨g, 0, none⟩) n cap) (bs.set i x) ∧ w.grownBy (w.setCell ⟨g, i, none⟩ (.int .u8 (toI x))) (some g) := by
  have hn : n = bs.length := by
    rcases h.2 with ⟨h', _⟩ | ⟨g', cap', cur, h', _⟩
    · cases h'
    · injection h'
  subst hn
  have := own_store_of (enc := encG) h (i : Int) x
  rw [Int.toNat_natCast] at this
  refine ⟨?_, this.2⟩
  have h1 := this.1
  unfold OwnB
  rw [List.length_set]
  exact h1
theorem OwnB.grown {w w1 : World} {base : Nat} {v : Value} {bs : List G} (h : OwnB w base v bs) {row : Option Nat} (hg : w.grownBy w1 row) (hne : v.ownBlock = none ∨ v.ownBlock ≠ row) : OwnB w1 base v bs :=
  World.ownsRow.kept h hg hne
theorem OwnB.below {w w1 : World} {base : Nat} {v : Value} {bs : List G} (h : OwnB w base v bs) (hb : Below w.heap.size w w1) : OwnB w1 base v bs :=
  pw_own_below h hb
theorem grown_tr {w W w1 : World} {row : Option Nat} (h : w.grownBy W row) (k : W.grownBy w1 row) : w.grownBy w1 row :=
  ⟨k.os.trans h.os, k.tape.trans h.tape, k.output.trans h.output, Nat.le_trans h.size k.size, fun i hi hr => (k.block i (Nat.lt_of_lt_of_le hi h.size) hr).trans (h.block i hi hr)⟩
theorem grown_refl (w : World) (row : Option Nat) : w.grownBy w row := ⟨rfl, rfl, rfl, Nat.le_refl _, fun _ _ _ => rfl⟩
theorem grown_drewN {w W : World} {row : Option Nat} (h : w.grownBy W row) (n : Nat) : w.grownBy (W.drewN n) row := ⟨h.os, h.tape, h.output, h.size, h.block⟩
theorem grown_drew {w W : World} {row : Option Nat} (h : w.grownBy W row) : w.grownBy W.drew row := ⟨h.os, h.tape, h.output, h.size, h.block⟩
theorem OwnB.drew {w : World} {base : Nat} {v : Value} {bs : List G} (h : OwnB w base v bs) : OwnB w.drew base v bs := h
end Go.Proofs.Ytiggohkkokalcaa
