/- The walk of lives, the examples that each statement checks: it returns true. -/
import Derived.Test.YtiggohkkokalcaaMake
import Derived.Test.YtiggohkkokalcaaRefGf
namespace Go.Proofs.Ytiggohkkokalcaa
open Go.RowKit Go.Proofs.YtiggohkkokalcaaW.PrintWords

theorem V_of_cells {α : Type} {d : Kd α} {e base c : Nat} {W : World} {ok : Nat → Prop} {ad : Addr} {xs : List α} (hl : xs.length ≤ c) (hm : xs.length ≤ 9223372036854775807) (hok : ok ad.block)
    (h : ∀ (j : Nat) (x : α), xs[j]? = some x → ∃ cs, cs.length = d.sz ∧ Kd.FK d W ok x cs ∧ ∀ (i : Nat) (u : Value), cs[i]? = some u → W.cell? (ad.add (j * d.sz + i)) = some u) :
    Kd.V d e W base ok (.slice (some ad) xs.length c) xs := by
  refine Kd.V_mk hl (fun W' hW => ⟨rfl, hm, fun _ => ⟨ad, rfl, fun j p hj => ?_⟩⟩)
  obtain ⟨cs, h1, h2, h3⟩ := h j p hj
  refine ⟨cs, h1, h2 W' hW, fun i u hu => ?_⟩
  have hc := h3 i u hu
  have hlt := World.block_lt_of_cell? W _ hc
  have hb := hW (ad.add (j * d.sz + i)).block (by rw [add_block]; exact hok) hlt
  exact (World.cell?_of_block (w := W) hb).trans hc

/-- a row that was just made of given cells -/
theorem V_new {α : Type} {d : Kd α} {e base : Nat} (W : World) (t : TypeId) (vs : List Value) (xs : List α) (hsz : d.sz = 1) (hl : vs.length = xs.length) (hm : xs.length ≤ 9223372036854775807)
    (h : ∀ (j : Nat) (x : α) (v : Value), xs[j]? = some x → vs[j]? = some v → Kd.FK d W (fun _ => True) x [v]) :
    Kd.V d e (W.alloc (.cells vs.toArray t)) base (fun _ => True) (.slice (some ⟨W.heap.size, 0, none⟩) xs.length xs.length) xs := by
  refine V_of_cells (Nat.le_refl _) hm trivial (fun j x hx => ?_)
  have hj : j < xs.length := (List.getElem?_eq_some_iff.1 hx).1
  have hv : vs[j]? = some (vs[j]'(by omega)) := List.getElem?_eq_getElem (by omega)
  refine ⟨[vs[j]'(by omega)], by rw [hsz]; rfl, Kd.FK_below (h j x _ hx hv) (below_alloc (Below.refl _ _) _), fun i u hu => ?_⟩
  match i with
  | 0 =>
    simp only [List.getElem?_cons_zero, Option.some.injEq] at hu
    subst hu
    rw [add_plain, World.cell?_alloc_new, hsz, Nat.mul_one, Nat.add_zero]
    simp [hv]
  | i + 1 => simp at hu
/-- a row of one byte that was just made -/
theorem V_one (W : World) (a : G) : Vb (W.alloc (.cells #[.int .u8 (toI a)] 5)) (fun _ => True) (.slice (some ⟨W.heap.size, 0, none⟩) 1 1) [a] := by
  refine V_new (d := KG) W 5 [.int .u8 (toI a)] [a] rfl rfl (by simp) (fun j x v hx hv => ?_)
  match j with
  | 0 =>
    simp only [List.getElem?_cons_zero, Option.some.injEq] at hx hv
    subst hx hv
    exact fun _ _ => rfl
  | j + 1 => simp at hx
/-- two rows that were just made -/
theorem V_two (W : World) (v1 v2 : Value) (l1 l2 : List G) (h1 : Vb W (fun _ => True) v1 l1) (h2 : Vb W (fun _ => True) v2 l2) :
    Vbb (W.alloc (.cells #[v1, v2] 33)) (fun _ => True) (.slice (some ⟨W.heap.size, 0, none⟩) 2 2) [l1, l2] := by
  refine V_new (d := KGs) W 33 [v1, v2] [l1, l2] rfl rfl (by simp) (fun j x v hx hv => ?_)
  have key : ∀ v l, Vb W (fun _ => True) v l → Kd.FK KGs W (fun _ => True) l [v] := by
    rintro v l ⟨A, c, rfl, hc, hf⟩
    exact Kd.FK_slice_mk hc hf
  match j with
  | 0 =>
    simp only [List.getElem?_cons_zero, Option.some.injEq] at hx hv
    subst hx hv
    exact key _ _ h1
  | 1 =>
    simp only [List.getElem?_cons_succ, List.getElem?_cons_zero, Option.some.injEq] at hx hv
    subst hx hv
    exact key _ _ h2
  | j + 2 => simp at hx

theorem lives_out : makeErr [[1], [2]] 1 = 0 ∧ makeOut [[1], [2]] 1 = [[20]] := by decide +kernel
theorem lives_inv2 : toI (ginv 2) = 142 := by decide +kernel
theorem lives_inv4 : toI (ginv 4) = 71 := by decide +kernel
theorem lives_mul : toI (gm 2 128) = 29 := by decide +kernel

set_option maxRecDepth 100000 in
set_option maxHeartbeats 1000000 in
theorem lives_any (w : World) : Calls Try.prog 14 #[] w fun e w' => e = .returned (.bool true) ∧ Below w.heap.size w w' := by
  have I2 : ∀ W, Calls Try.prog 13 #[.int .u8 2] W fun e w' => e = .returned (.tuple #[.int .u8 142, .int .i64 0]) ∧ Below W.heap.size W w' := fun W => by
    rw [← lives_inv2]; exact inv_pos 2 W (by decide)
  have I4 : ∀ W, Calls Try.prog 13 #[.int .u8 4] W fun e w' => e = .returned (.tuple #[.int .u8 71, .int .i64 0]) ∧ Below W.heap.size W w' := fun W => by
    rw [← lives_inv4]; exact inv_pos 4 W (by decide)
  have M2 : ∀ W, Calls Try.prog 11 #[.int .u8 2, .int .u8 128] W fun e w' => e = .returned (.int .u8 29) ∧ Below W.heap.size W w' := fun W => by
    rw [← lives_mul]; exact mul_any 2 128 W
  have I2' := Lib.hid I2; have I4' := Lib.hid I4; have M2' := Lib.hid M2
  clear I2 I4 M2
  go_enter Try.func14, Try.ntmps14
  go_wp2_with fail
  refine (I2'.out _).mono ?_
  rintro e w1 ⟨rfl, hB⟩
  have HB := Lib.hid hB; clear hB
  go_wp2_with fail
  refine (I4'.out _).mono ?_
  rintro e w2 ⟨rfl, hB⟩
  have HB2 := Lib.hid (below_tr HB.out hB); clear hB HB
  go_wp2_with fail
  have hV1 : Vb ((w2.alloc (.cells #[.int .u8 1] 5)).alloc (.cells #[.int .u8 2] 5)) (fun _ => True) (.slice (some ⟨w2.heap.size, 0, none⟩) 1 1) [1] :=
    Kd.V_alloc (V_one w2 1) _
  have hV2 : Vb ((w2.alloc (.cells #[.int .u8 1] 5)).alloc (.cells #[.int .u8 2] 5)) (fun _ => True) (.slice (some ⟨w2.heap.size + 1, 0, none⟩) 1 1) [2] := by
    have := V_one (w2.alloc (.cells #[.int .u8 1] 5)) 2
    rwa [World.size_alloc] at this
  have hV3 := V_two _ _ _ _ _ hV1 hV2
  rw [World.size_alloc, World.size_alloc] at hV3
  have HB3 : Hid (Below w.heap.size w (((w2.alloc (.cells #[.int .u8 1] 5)).alloc (.cells #[.int .u8 2] 5)).alloc (.cells #[.slice (some ⟨w2.heap.size, 0, none⟩) 1 1, .slice (some ⟨w2.heap.size + 1, 0, none⟩) 1 1] 33))) :=
    Lib.hid (below_alloc (below_alloc (below_alloc HB2.out _) _) _)
  clear hV1 hV2 HB2
  have HV3 := Lib.hid hV3
  clear hV3
  refine (make_any [[1], [2]] 1 _ _ HV3.out).mono ?_
  rintro e w3 ⟨v, rfl, hV, hB⟩
  rw [lives_out.1]
  rw [lives_out.2] at hV
  obtain ⟨A, c, rfl, _, _⟩ := V_open hV
  obtain ⟨ad, A1, c1, rfl, hc1, hV1, _⟩ := Vbb_row hV 0 (by decide)
  obtain ⟨ad1, rfl, hc2, _⟩ := Vb_cell hV1 0 (by decide)
  change w3.cell? (ad.add 0) = some (.slice (some ad1) 1 c1) at hc1
  rw [Addr.add_zero'] at hc1
  change w3.cell? (ad1.add 0) = some (.int .u8 20) at hc2
  rw [Addr.add_zero'] at hc2
  have HB4 := Lib.hid (below_tr HB3.out hB)
  clear hV hV1 hB HB3 HV3
  go_wp2_with fail
  refine (M2'.out _).mono ?_
  rintro e w4 ⟨rfl, hB⟩
  have hc3 := pw_cell_below hB hc1
  have hc4 := pw_cell_below hB hc2
  have HB5 := Lib.hid (below_tr HB4.out hB)
  clear hB HB4 hc1 hc2
  go_wp2_with fail
  go_ret
  exact ⟨rfl, HB5.out⟩
end Go.Proofs.Ytiggohkkokalcaa
