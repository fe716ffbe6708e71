/- The walk of ParityField: for every three elements it returns true. -/
import Derived.Test.YtiggohkkokalcaaLives
namespace Go.Proofs.Ytiggohkkokalcaa
open Go.RowKit Go.Proofs.YtiggohkkokalcaaW.PrintWords

set_option maxRecDepth 100000 in
set_option maxHeartbeats 4000000 in
theorem field_walk_ne (a b c : G) (w : World) (ha : a ≠ 0) (t u : Bool) (hz2 : (toI b == 0) = t) (hz3 : (toI (gm a b) == 0) = u) (htu : t = u) :
    Calls Try.prog 3 #[.int .u8 (toI a), .int .u8 (toI b), .int .u8 (toI c)] w fun e w' => e = .returned (.bool true) ∧ Below w.heap.size w w' := by
  have hx := toI_xor b c
  have hx2 := toI_xor (gm a b) (gm a c)
  have M1 : ∀ W, Calls Try.prog 11 #[.int .u8 (toI a), .int .u8 1] W fun e w' => e = .returned (.int .u8 (toI a)) ∧ Below W.heap.size W w' := fun W => by
    have := mul_any a 1 W
    rwa [gm_one] at this
  have MI : ∀ W, Calls Try.prog 11 #[.int .u8 (toI a), .int .u8 (toI (ginv a))] W fun e w' => e = .returned (.int .u8 1) ∧ Below W.heap.size W w' := fun W => by
    have := mul_any a (ginv a) W
    rwa [gm_inv a ha] at this
  have HM1 := Lib.hid M1
  have HMI := Lib.hid MI
  have hz1 : (toI a == 0) = false := by rw [beq_eq_false_iff_ne, Ne, toI_eq_zero]; exact ha
  have IA := Lib.hid (fun W => inv_pos a W ha)
  have IR := Lib.hid (fun W => refinv_any a W ha)
  have HB : Hid (Below w.heap.size w w) := Lib.hid (Below.refl _ _)
  clear M1 MI ha
  subst htu
  go_enter Try.func3, Try.ntmps3
  cases t
  all_goals
    go_wp2_with fail
    refine (mul_any a b _).mono ?_
    rintro e w1 ⟨rfl, hB⟩
    have HB := Lib.hid (below_tr HB.out hB); clear hB
    go_wp2_with fail
    refine (refmul_any a b _).mono ?_
    rintro e w1 ⟨rfl, rfl⟩
    go_wp2_with fail
    refine (mul_any a b _).mono ?_
    rintro e w1 ⟨rfl, hB⟩
    have HB := Lib.hid (below_tr HB.out hB); clear hB
    go_wp2_with fail
    refine (mul_any b a _).mono ?_
    rintro e w1 ⟨rfl, hB⟩
    have HB := Lib.hid (below_tr HB.out hB); clear hB
    rw [gm_comm b a]
    go_wp2_with fail
    refine (mul_any a b _).mono ?_
    rintro e w1 ⟨rfl, hB⟩
    have HB := Lib.hid (below_tr HB.out hB); clear hB
    go_wp2_with fail
    refine (mul_any (gm a b) c _).mono ?_
    rintro e w1 ⟨rfl, hB⟩
    have HB := Lib.hid (below_tr HB.out hB); clear hB
    rw [gm_assoc]
    go_wp2_with fail
    refine (mul_any b c _).mono ?_
    rintro e w1 ⟨rfl, hB⟩
    have HB := Lib.hid (below_tr HB.out hB); clear hB
    go_wp2_with fail
    refine (mul_any a (gm b c) _).mono ?_
    rintro e w1 ⟨rfl, hB⟩
    have HB := Lib.hid (below_tr HB.out hB); clear hB
    go_wp2_with fail
    refine (mul_any a (b ^^^ c) _).mono ?_
    rintro e w1 ⟨rfl, hB⟩
    have HB := Lib.hid (below_tr HB.out hB); clear hB
    rw [gm_add]
    go_wp2_with fail
    refine (mul_any a b _).mono ?_
    rintro e w1 ⟨rfl, hB⟩
    have HB := Lib.hid (below_tr HB.out hB); clear hB
    go_wp2_with fail
    refine (mul_any a c _).mono ?_
    rintro e w1 ⟨rfl, hB⟩
    have HB := Lib.hid (below_tr HB.out hB); clear hB
    go_wp2_with fail
    refine (mul_any a b _).mono ?_
    rintro e w1 ⟨rfl, hB⟩
    have HB := Lib.hid (below_tr HB.out hB); clear hB
    go_wp2_with fail
    refine (HM1.out _).mono ?_
    rintro e w1 ⟨rfl, hB⟩
    have HB := Lib.hid (below_tr HB.out hB); clear hB
    go_wp2_with fail
    refine (IA.out _).mono ?_
    rintro e w1 ⟨rfl, hB⟩
    have HB := Lib.hid (below_tr HB.out hB); clear hB
    go_wp2_with fail
    refine (IR.out _).mono ?_
    rintro e w1 ⟨rfl, rfl⟩
    go_wp2_with fail
    refine (HMI.out _).mono ?_
    rintro e w1 ⟨rfl, hB⟩
    have HB := Lib.hid (below_tr HB.out hB); clear hB
    go_wp2_with fail
    refine (lives_any _).mono ?_
    rintro e w1 ⟨rfl, hB⟩
    have HB := Lib.hid (below_tr HB.out hB); clear hB
    go_wp2_with fail
    go_ret
    exact ⟨rfl, HB.out⟩
set_option maxRecDepth 100000 in
set_option maxHeartbeats 4000000 in
theorem field_walk_zero (b c : G) (w : World) (t : Bool) (hz2 : (toI b == 0) = t) :
    Calls Try.prog 3 #[.int .u8 (toI 0), .int .u8 (toI b), .int .u8 (toI c)] w fun e w' => e = .returned (.bool true) ∧ Below w.heap.size w w' := by
  obtain ⟨a, ha⟩ : ∃ a : G, a = 0 := ⟨_, rfl⟩
  rw [← ha]
  have hx := toI_xor b c
  have hx2 := toI_xor (gm a b) (gm a c)
  have M1 : ∀ W, Calls Try.prog 11 #[.int .u8 (toI a), .int .u8 1] W fun e w' => e = .returned (.int .u8 (toI a)) ∧ Below W.heap.size W w' := fun W => by
    have := mul_any a 1 W
    rwa [gm_one] at this
  have HM1 := Lib.hid M1
  have hz1 : (toI a == 0) = true := by rw [beq_iff_eq, toI_eq_zero]; exact ha
  have hz3 : (toI (gm a b) == 0) = true := by rw [beq_iff_eq, toI_eq_zero, ha]; exact zero_gm _
  have IA : Hid (∀ W, Calls Try.prog 13 #[.int .u8 (toI a)] W fun e w' => e = .returned (.tuple #[.int .u8 0, .int .i64 9]) ∧ w' = W) := Lib.hid (fun W => by
    rw [ha]; exact inv_zero W)
  have HB : Hid (Below w.heap.size w w) := Lib.hid (Below.refl _ _)
  clear M1 ha
  go_enter Try.func3, Try.ntmps3
  cases t
  all_goals
    go_wp2_with fail
    refine (mul_any a b _).mono ?_
    rintro e w1 ⟨rfl, hB⟩
    have HB := Lib.hid (below_tr HB.out hB); clear hB
    go_wp2_with fail
    refine (refmul_any a b _).mono ?_
    rintro e w1 ⟨rfl, rfl⟩
    go_wp2_with fail
    refine (mul_any a b _).mono ?_
    rintro e w1 ⟨rfl, hB⟩
    have HB := Lib.hid (below_tr HB.out hB); clear hB
    go_wp2_with fail
    refine (mul_any b a _).mono ?_
    rintro e w1 ⟨rfl, hB⟩
    have HB := Lib.hid (below_tr HB.out hB); clear hB
    rw [gm_comm b a]
    go_wp2_with fail
    refine (mul_any a b _).mono ?_
    rintro e w1 ⟨rfl, hB⟩
    have HB := Lib.hid (below_tr HB.out hB); clear hB
    go_wp2_with fail
    refine (mul_any (gm a b) c _).mono ?_
    rintro e w1 ⟨rfl, hB⟩
    have HB := Lib.hid (below_tr HB.out hB); clear hB
    rw [gm_assoc]
    go_wp2_with fail
    refine (mul_any b c _).mono ?_
    rintro e w1 ⟨rfl, hB⟩
    have HB := Lib.hid (below_tr HB.out hB); clear hB
    go_wp2_with fail
    refine (mul_any a (gm b c) _).mono ?_
    rintro e w1 ⟨rfl, hB⟩
    have HB := Lib.hid (below_tr HB.out hB); clear hB
    go_wp2_with fail
    refine (mul_any a (b ^^^ c) _).mono ?_
    rintro e w1 ⟨rfl, hB⟩
    have HB := Lib.hid (below_tr HB.out hB); clear hB
    rw [gm_add]
    go_wp2_with fail
    refine (mul_any a b _).mono ?_
    rintro e w1 ⟨rfl, hB⟩
    have HB := Lib.hid (below_tr HB.out hB); clear hB
    go_wp2_with fail
    refine (mul_any a c _).mono ?_
    rintro e w1 ⟨rfl, hB⟩
    have HB := Lib.hid (below_tr HB.out hB); clear hB
    go_wp2_with fail
    refine (mul_any a b _).mono ?_
    rintro e w1 ⟨rfl, hB⟩
    have HB := Lib.hid (below_tr HB.out hB); clear hB
    go_wp2_with fail
    refine (HM1.out _).mono ?_
    rintro e w1 ⟨rfl, hB⟩
    have HB := Lib.hid (below_tr HB.out hB); clear hB
    go_wp2_with fail
    refine (IA.out _).mono ?_
    rintro e w1 ⟨rfl, rfl⟩
    go_wp2_with fail
    refine (lives_any _).mono ?_
    rintro e w1 ⟨rfl, hB⟩
    have HB := Lib.hid (below_tr HB.out hB); clear hB
    go_wp2_with fail
    go_ret
    exact ⟨rfl, HB.out⟩
theorem field_walk (a b c : G) (w : World) :
    Calls Try.prog 3 #[.int .u8 (toI a), .int .u8 (toI b), .int .u8 (toI c)] w fun e w' => e = .returned (.bool true) ∧ Below w.heap.size w w' := by
  by_cases ha : a = 0
  · subst ha
    exact field_walk_zero b c w _ rfl
  · refine field_walk_ne a b c w ha _ _ rfl rfl ?_
    rw [Bool.eq_iff_iff, beq_iff_eq, beq_iff_eq, toI_eq_zero, toI_eq_zero, gm_eq_zero]
    exact ⟨fun h => .inr h, fun h => h.resolve_left ha⟩
end Go.Proofs.Ytiggohkkokalcaa
