/- The walks of package parity's tables of logarithms (tables, field), of Mul, Inv and factor: they return the product and the inverse of the field. -/
import Derived.Test.YtiggohkkokalcaaProg
import Derived.Test.YtiggohkkokalcaaGf
import Derived.Below
import Derived.Deep.Draws
import Derived.OwnWalk
import Derived.WalkKit
import Derived.KernelRfl
import Derived.RowKit3
import Derived.RegionTactic
import Derived.Outline
import Derived.LoopTactic
import Derived.Laws.NewBlocks
import Derived.Lib.Hide
import Derived.IntWalk
import Derived.Deep.RegionWith
namespace Go.Proofs.Ytiggohkkokalcaa
open Go.RowKit

theorem set_top (w : World) (cur : Array Value) (t : TypeId) (n i : Nat) (v : Value) :
    ((w.alloc (.cells cur t)).drewN n).setCell ⟨w.heap.size, i, none⟩ v = (w.alloc (.cells (cur.setIfInBounds i v) t)).drewN n := by
  have := World.setCell_alloc_at (w := w) cur t w.heap.size i v rfl
  show (World.drewN ((w.alloc (.cells cur t)).setCell ⟨w.heap.size, i, none⟩ v) n) = _
  rw [this]

/-- The block after k rounds. -/
structure TabInv (k : Nat) (cur : Array Value) : Prop where
  size : cur.size = 766
  low : ∀ i, i < k → cur[i]? = some (.int .u8 (toI (expG i)))
  high : ∀ i, i < k → cur[i + 255]? = some (.int .u8 (toI (expG i)))
  place : ∀ i, i < k → ∃ j, j < k ∧ expG j = expG i ∧ cur[510 + (expG i).toNat]? = some (.int .i64 j)

theorem zero72_size : Try.zeroCells72.size = 766 := by kernel_rfl
theorem TabInv.start : TabInv 0 Try.zeroCells72 := ⟨zero72_size, fun i h => by omega, fun i h => by omega, fun i h => by omega⟩
theorem TabInv.step {k : Nat} {cur : Array Value} (h : TabInv k cur) (hk : k < 255) :
    TabInv (k + 1) (((cur.setIfInBounds k (.int .u8 (toI (expG k)))).setIfInBounds (k + 255) (.int .u8 (toI (expG k)))).setIfInBounds (510 + (expG k).toNat) (.int .i64 k)) := by
  have hs := h.size
  have hb := (expG k).isLt
  refine ⟨by simp [hs], fun i hi => ?_, fun i hi => ?_, fun i hi => ?_⟩
  · rw [Array.getElem?_setIfInBounds_ne (by omega), Array.getElem?_setIfInBounds_ne (by omega)]
    by_cases e : i = k
    · subst e; rw [Array.getElem?_setIfInBounds_self_of_lt (by omega)]
    · rw [Array.getElem?_setIfInBounds_ne (by omega)]; exact h.low i (by omega)
  · rw [Array.getElem?_setIfInBounds_ne (by omega)]
    by_cases e : i = k
    · subst e; rw [Array.getElem?_setIfInBounds_self_of_lt (by simp; omega)]
    · rw [Array.getElem?_setIfInBounds_ne (by omega), Array.getElem?_setIfInBounds_ne (by omega)]; exact h.high i (by omega)
  · have hbi := (expG i).isLt
    by_cases e : (expG k).toNat = (expG i).toNat
    · refine ⟨k, by omega, BitVec.eq_of_toNat_eq e, ?_⟩
      rw [e, Array.getElem?_setIfInBounds_self_of_lt (by simp; omega)]
    · have hik : i < k := by
        rcases Nat.lt_or_ge i k with h | h
        · exact h
        · have : i = k := by omega
          subst this; exact absurd rfl e
      obtain ⟨j, hj, he, hc⟩ := h.place i hik
      refine ⟨j, by omega, he, ?_⟩
      rw [Array.getElem?_setIfInBounds_ne (by omega), Array.getElem?_setIfInBounds_ne (by omega), Array.getElem?_setIfInBounds_ne (by omega)]
      exact hc
/-- A block that holds the tables. -/
structure Table (cur : Array Value) : Prop where
  pow : ∀ j, j < 510 → cur[j]? = some (.int .u8 (toI (expG j)))
  log : ∀ a : G, a ≠ 0 → cur[510 + a.toNat]? = some (.int .i64 (lgG a))
theorem TabInv.done {cur : Array Value} (h : TabInv 255 cur) : Table cur := by
  refine ⟨fun j hj => ?_, fun a ha => ?_⟩
  · by_cases e : j < 255
    · exact h.low j e
    · have := h.high (j - 255) (by omega)
      rw [show j - 255 + 255 = j by omega] at this
      rw [this]
      have e2 := expG_period (j - 255)
      rw [show j - 255 + 255 = j by omega] at e2
      rw [e2]
  · obtain ⟨i, hi, rfl⟩ := exp_onto a ha
    obtain ⟨j, hj, he, hc⟩ := h.place i hi
    have hl := lgG_spec _ (expG_ne i)
    have : j = lgG (expG i) := exp_inj hj hl.1 (he.trans hl.2.symm)
    rw [← this]; exact hc

/-- Block g of the world holds the tables. -/
def HasTab (w : World) (g : Nat) : Prop := ∃ cur, Table cur ∧ w.heap[g]? = some (.cells cur 72)
theorem HasTab.cells {w : World} {g : Nat} (h : HasTab w g) :
    (∀ j, j < 510 → w.cell? ⟨g, j, none⟩ = some (.int .u8 (toI (expG j)))) ∧ (∀ a : G, a ≠ 0 → w.cell? ⟨g, 510 + a.toNat, none⟩ = some (.int .i64 (lgG a))) := by
  obtain ⟨cur, hT, hc⟩ := h
  exact ⟨fun j hj => by simp [World.cell?, hc, hT.pow j hj], fun a ha => by simp [World.cell?, hc, hT.log a ha]⟩
theorem below_drewN {B : Nat} {w W : World} (h : Below B w W) (n : Nat) : Below B w (W.drewN n) := ⟨h.os, h.tape, h.output, h.size, h.block⟩
theorem alloc_heap (w : World) (o : Obj) : (w.alloc o).heap = w.heap.push o := rfl
theorem toNat_toI (a : G) : (toI a).toNat = a.toNat := by simp [toI]
theorem expG_succ (k : Nat) : toI (expG (k + 1)) = if toI (expG k) * 2 > 255 then bits .xor .i64 (toI (expG k) * 2) 285 else toI (expG k) * 2 := xt_toI (expG k)

set_option maxRecDepth 100000 in
set_option maxHeartbeats 400000 in
theorem tables_any (w : World) :
    Calls Try.prog 66 #[] w fun e w' => e = .returned (.pointer (some ⟨w.heap.size, 0, none⟩)) ∧ HasTab w' w.heap.size ∧ Below w.heap.size w w' ∧ w.heap.size < w'.heap.size := by
  go_enter Try.func66, Try.ntmps66
  go_wp2_with fail
  go_loopw [2, 3] (fun i x wr => ∃ (k n : Nat) (xv : Int) (cur : Array Value), k ≤ 255 ∧ TabInv k cur ∧ Hid (xv = toI (expG k)) ∧ i = .int .i64 k ∧ x = .int .i64 xv ∧ wr = (w.alloc (.cells cur 72)).drewN n) (fun i _ _ => 255 - (intOf i).toNat)
  case atStart => exact ⟨0, 0, _, _, by omega, TabInv.start, Lib.hid rfl, rfl, rfl, rfl⟩
  case round =>
    obtain ⟨k, n, x, cur, hk, hT, hX, rfl, rfl, rfl⟩ := hrel
    have hsz := hT.size
    obtain ⟨hx0, hx1⟩ : 0 ≤ x ∧ x ≤ 255 := by rw [hX.out]; exact toI_rng _
    by_cases hlt : k < 255
    · have h1 : ∃ v, cur[k]? = some v := ⟨_, Array.getElem?_eq_getElem (by omega)⟩
      have h2 : ∃ v, cur[k+255]? = some v := ⟨_, Array.getElem?_eq_getElem (by omega)⟩
      have h3 : ∃ v, cur[510 + x.toNat]? = some v := ⟨_, Array.getElem?_eq_getElem (by omega)⟩
      obtain ⟨v1, h1⟩ := h1
      obtain ⟨v2, h2⟩ := h2
      obtain ⟨v3, h3⟩ := h3
      clear hsz
      have hstep := hT.step hlt
      have hs := expG_succ k
      rw [← hX.out] at hstep hs
      have hxn : (expG k).toNat = x.toNat := by rw [hX.out, toNat_toI]
      rw [hxn] at hstep
      have HS := Lib.hid hs
      have HT := Lib.hid hstep
      clear hs hstep hT hX hxn
      go_wp2_with fail
      go_region
      go_wp2_with fail
      · refine ⟨⟨k + 1, n + 1, _, _, by omega, HT.out, Lib.hid ?_, by go_num, rfl, ?_⟩, ?_⟩
        · rw [HS.out, if_pos (by omega)]
        · rw [set_top, set_top, set_top]
        · simp [intOf]; omega
      · refine ⟨⟨k + 1, n + 1, _, _, by omega, HT.out, Lib.hid ?_, by go_num, rfl, ?_⟩, ?_⟩
        · rw [HS.out, if_neg (by omega)]
        · rw [set_top, set_top, set_top]
        · simp [intOf]; omega
    · clear hsz
      obtain rfl : k = 255 := by omega
      go_wp2_with fail
      go_ret
      refine ⟨rfl, ⟨cur, hT.done, ?_⟩, ?_, ?_⟩
      · rw [World.heap_drewN, alloc_heap, Array.getElem?_push_size]
      · exact below_drewN ((Below.refl _ _).alloc (Nat.le_refl _) _) _
      · rw [World.heap_drewN, alloc_heap, Array.size_push]; omega
theorem bcell {W w1 : World} (hb : Below W.heap.size W w1) : (∀ b o, b < W.heap.size → w1.cell? ⟨b, o, none⟩ = W.cell? ⟨b, o, none⟩) ∧ (∀ b o, b < W.heap.size → w1.frozen? ⟨b, o, none⟩ = W.frozen? ⟨b, o, none⟩) :=
  ⟨fun b o h => hb.cell (p := ⟨b, o, none⟩) h, fun b o h => hb.frozen (p := ⟨b, o, none⟩) h⟩

theorem below_tr {w W w1 : World} (h : Below w.heap.size w W) (k : Below W.heap.size W w1) : Below w.heap.size w w1 := h.trans (k.mono h.size)

set_option maxHeartbeats 400000 in
theorem field_any (w : World) :
    Calls Try.prog 38 #[] w fun e w' => e = .returned (.pointer (some ⟨w.heap.size, 0, none⟩)) ∧ HasTab w' w.heap.size ∧ Below w.heap.size w w' ∧ w.heap.size < w'.heap.size := by
  go_enter Try.func38, Try.ntmps38
  go_wp2_with (go_at_call 66; refine (tables_any _).mono ?_; rintro e w' ⟨rfl, h1, h2, h3⟩)
  go_ret
  exact ⟨rfl, h1, h2, h3⟩

set_option maxHeartbeats 400000 in
theorem mul_zero (a b : G) (w : World) (h : a = 0 ∨ b = 0) :
    Calls Try.prog 11 #[.int .u8 (toI a), .int .u8 (toI b)] w fun e w' => e = .returned (.int .u8 (toI (gm a b))) ∧ w' = w := by
  rw [(gm_eq_zero a b).2 h]
  by_cases ha : a = 0
  · have hxz : (toI a == 0) = true := by rw [beq_iff_eq, toI_eq_zero]; exact ha
    clear ha h
    go_enter Try.func11, Try.ntmps11
    go_wp2
    go_ret
    exact ⟨rfl, rfl⟩
  · have hb : b = 0 := h.resolve_left ha
    have hxz : (toI a == 0) = false := by rw [beq_eq_false_iff_ne, Ne, toI_eq_zero]; exact ha
    have hyz : (toI b == 0) = true := by rw [beq_iff_eq, toI_eq_zero]; exact hb
    clear ha hb h
    go_enter Try.func11, Try.ntmps11
    go_wp2
    go_ret
    exact ⟨rfl, rfl⟩

set_option maxRecDepth 100000 in
set_option maxHeartbeats 1000000 in
theorem mul_pos (a b : G) (w : World) (ha : a ≠ 0) (hb : b ≠ 0) :
    Calls Try.prog 11 #[.int .u8 (toI a), .int .u8 (toI b)] w fun e w' => e = .returned (.int .u8 (toI (gm a b))) ∧ Below w.heap.size w w' := by
  have hxz : (toI a == 0) = false := by rw [beq_eq_false_iff_ne, Ne, toI_eq_zero]; exact ha
  have hyz : (toI b == 0) = false := by rw [beq_eq_false_iff_ne, Ne, toI_eq_zero]; exact hb
  have HF : ∀ W, Calls Try.prog 38 #[] W fun e w' => e = .returned (.pointer (some ⟨W.heap.size, 0, none⟩)) ∧ (Below W.heap.size W w' ∧ W.heap.size < w'.heap.size) ∧ w'.cell? ⟨W.heap.size, lgG a + lgG b, none⟩ = some (.int .u8 (toI (gm a b))) ∧
      w'.cell? ⟨W.heap.size, 510 + (toI a).toNat, none⟩ = some (.int .i64 (lgG a)) ∧ w'.cell? ⟨W.heap.size, 510 + (toI b).toNat, none⟩ = some (.int .i64 (lgG b)) := by
    intro W
    refine (field_any W).mono ?_
    rintro e w' ⟨he, hT, hB, hs⟩
    obtain ⟨h1, h2⟩ := hT.cells
    have g1 := lgG_spec a ha
    have g2 := lgG_spec b hb
    refine ⟨he, ⟨hB, hs⟩, ?_, ?_, ?_⟩
    · rw [h1 _ (by omega), gm_exp a b ha hb]
    · rw [toNat_toI]; exact h2 a ha
    · rw [toNat_toI]; exact h2 b hb
  have g1 := (lgG_spec a ha).1
  have g2 := (lgG_spec b hb).1
  have hx := toI_rng a
  have hy := toI_rng b
  obtain ⟨hx0, hx1⟩ := hx
  obtain ⟨hy0, hy1⟩ := hy
  clear ha hb
  have HF' := Lib.hid HF
  clear HF
  generalize toI (gm a b) = r at *
  generalize lgG a = la at *
  generalize lgG b = lb at *
  generalize toI a = x at *
  generalize toI b = y at *
  have s1 : IntKind.i64.wrap ((la : Int) + (lb : Int)) = (la : Int) + (lb : Int) := IntWalk.i64_in _ (by omega)
  have s2 : (0 : Int) ≤ (la : Int) + (lb : Int) := by omega
  have s3 : (la : Int) + (lb : Int) < 510 := by omega
  have s4 : ((la : Int) + (lb : Int)).toNat = la + lb := by omega
  go_enter Try.func11, Try.ntmps11
  go_wp2_with fail
  have HA : Hid (Below w.heap.size w w.drew) := Lib.hid (below_drewN (Below.refl _ _) 1)
  go_region_with (go_at_call 38; refine (HF'.out _).mono ?_; rintro e w1 ⟨rfl, ⟨hB, hs⟩, hc1, hc2, hc3⟩; obtain ⟨hc, hf⟩ := bcell hB; (try simp only [World.size_drew] at hc hf hs hc1 hc2 hc3); have HA := Lib.hid (below_tr HA.out hB); clear hB; have hs0 : w.heap.size < w1.heap.size := by omega)
  all_goals
    go_wp2
    go_ret
    exact ⟨rfl, HA.out⟩
theorem mul_any (a b : G) (w : World) :
    Calls Try.prog 11 #[.int .u8 (toI a), .int .u8 (toI b)] w fun e w' => e = .returned (.int .u8 (toI (gm a b))) ∧ Below w.heap.size w w' := by
  by_cases h : a = 0 ∨ b = 0
  · exact (mul_zero a b w h).mono fun _ _ ⟨he, hw⟩ => ⟨he, by rw [hw]; exact Below.refl _ _⟩
  · exact mul_pos a b w (fun e => h (.inl e)) (fun e => h (.inr e))

theorem inv_zero (w : World) :
    Calls Try.prog 13 #[.int .u8 0] w fun e w' => e = .returned (.tuple #[.int .u8 0, .int .i64 9]) ∧ w' = w := by
  go_enter Try.func13, Try.ntmps13
  go_wp2
  go_ret2
  exact ⟨rfl, rfl⟩

set_option maxRecDepth 100000 in
set_option maxHeartbeats 1000000 in
theorem inv_pos (a : G) (w : World) (ha : a ≠ 0) :
    Calls Try.prog 13 #[.int .u8 (toI a)] w fun e w' => e = .returned (.tuple #[.int .u8 (toI (ginv a)), .int .i64 0]) ∧ Below w.heap.size w w' := by
  have hxz : (toI a == 0) = false := by rw [beq_eq_false_iff_ne, Ne, toI_eq_zero]; exact ha
  have HF : ∀ W, Calls Try.prog 38 #[] W fun e w' => e = .returned (.pointer (some ⟨W.heap.size, 0, none⟩)) ∧ (Below W.heap.size W w' ∧ W.heap.size < w'.heap.size) ∧ w'.cell? ⟨W.heap.size, 255 - lgG a, none⟩ = some (.int .u8 (toI (ginv a))) ∧
      w'.cell? ⟨W.heap.size, 510 + (toI a).toNat, none⟩ = some (.int .i64 (lgG a)) := by
    intro W
    refine (field_any W).mono ?_
    rintro e w' ⟨he, hT, hB, hs⟩
    obtain ⟨h1, h2⟩ := hT.cells
    have g1 := lgG_spec a ha
    refine ⟨he, ⟨hB, hs⟩, ?_, ?_⟩
    · rw [h1 _ (by omega), ginv_exp a ha]
    · rw [toNat_toI]; exact h2 a ha
  have g1 := (lgG_spec a ha).1
  have hx := toI_rng a
  obtain ⟨hx0, hx1⟩ := hx
  clear ha
  have HF' := Lib.hid HF
  clear HF
  generalize toI (ginv a) = r at *
  generalize lgG a = la at *
  generalize toI a = x at *
  have s1 : IntKind.i64.wrap (255 - (la : Int)) = 255 - (la : Int) := IntWalk.i64_in _ (by omega)
  have s2 : (0 : Int) ≤ 255 - (la : Int) := by omega
  have s3 : 255 - (la : Int) < 510 := by omega
  have s4 : (255 - (la : Int)).toNat = 255 - la := by omega
  go_enter Try.func13, Try.ntmps13
  go_wp2_with fail
  have HA : Hid (Below w.heap.size w w.drew) := Lib.hid (below_drewN (Below.refl _ _) 1)
  go_region_with (go_at_call 38; refine (HF'.out _).mono ?_; rintro e w1 ⟨rfl, ⟨hB, hs⟩, hc1, hc2⟩; obtain ⟨hc, hf⟩ := bcell hB; (try simp only [World.size_drew] at hc hf hs hc1 hc2); have HA := Lib.hid (below_tr HA.out hB); clear hB; have hs0 : w.heap.size < w1.heap.size := by omega)
  all_goals
    go_wp2
    go_ret2
    exact ⟨rfl, HA.out⟩
end Go.Proofs.Ytiggohkkokalcaa
