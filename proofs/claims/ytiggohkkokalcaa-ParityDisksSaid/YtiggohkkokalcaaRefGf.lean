/- The walks of the reference's Mul, Inv and factor. -/
import Derived.Test.YtiggohkkokalcaaFac
import Derived.Laws.ShiftsVarLaws
import Derived.Laws.BitsAllLaws
namespace Go.Proofs.Ytiggohkkokalcaa
open Go.RowKit

theorem i64_xor_nat (a b : Nat) (ha : a < 256) (hb : b < 256) : bits .xor .i64 (a : Int) (b : Int) = ((a ^^^ b : Nat) : Int) := by
  have hx : a ^^^ b < 2 ^ 8 := Nat.xor_lt_two_pow (by omega) (by omega)
  show IntKind.i64.wrap ((BitVec.ofInt 64 (a : Int) ^^^ BitVec.ofInt 64 (b : Int)).toNat : Int) = _
  rw [BitVec.toNat_xor, ofInt_u64 a (by omega), ofInt_u64 b (by omega), IntKind.wrap_i64]
  omega
theorem toI_xor64 (a b : G) : bits .xor .i64 (toI a) (toI b) = toI (a ^^^ b) := by
  have h1 := a.isLt; have h2 := b.isLt
  simp only [toI]
  rw [i64_xor_nat _ _ (by omega) (by omega), BitVec.toNat_xor]
theorem bit_test : ∀ b : G, ∀ k : Nat, k < 8 → ((toI b / 2 ^ k).tmod 2 == 1) = b.getLsbD k := by decide +kernel
theorem toI_byte (a : G) : IntKind.u8.wrap (toI a) = toI a := by
  have := toI_rng a
  rw [IntKind.wrap_u8]; omega

set_option maxRecDepth 100000 in
set_option maxHeartbeats 400000 in
theorem refmul_any (a b : G) (w : World) :
    Calls Try.prog 12 #[.int .u8 (toI a), .int .u8 (toI b)] w fun e w' => e = .returned (.int .u8 (toI (gm a b))) ∧ w' = w := by
  obtain ⟨hb0, hb1⟩ := toI_rng b
  obtain ⟨ha0, ha1⟩ := toI_rng a
  go_enter Try.func12, Try.ntmps12
  go_wp2_with fail
  go_loop [5, 6, 7] (fun r x i => ∃ k : Nat, k ≤ 8 ∧ i = .int .i64 k ∧ r = .int .i64 (toI (gmTo k a b)) ∧ x = .int .i64 (toI (xtN k a))) (fun _ _ i => 8 - (intOf i).toNat)
  case atStart => exact ⟨0, Nat.zero_le _, rfl, rfl, rfl⟩
  case round =>
    obtain ⟨k, hk, rfl, rfl, rfl⟩ := hrel
    by_cases hlt : k < 8
    · obtain ⟨hx0, hx1⟩ := toI_rng (xtN k a)
      have hbit := bit_test b k hlt
      have HX := Lib.hid (xt_toI (xtN k a))
      have HS : Hid (toI (gmTo (k + 1) a b) = if b.getLsbD k then bits .xor .i64 (toI (gmTo k a b)) (toI (xtN k a)) else toI (gmTo k a b)) := Lib.hid (by
        rw [toI_xor64, gmTo]; cases b.getLsbD k <;> simp)
      cases hbk : b.getLsbD k
      all_goals
        rw [hbk] at hbit HS
        clear hbk
        generalize hxx : toI (xtN k a) = x at *
        generalize toI (gmTo k a b) = r at *
        clear hxx
        go_wp2_with fail
        · refine ⟨⟨k + 1, by omega, by go_num, by rw [HS.out]; rfl, ?_⟩, by simp [intOf]; omega⟩
          show _ = Value.int .i64 (toI (xt (xtN k a)))
          rw [HX.out, if_pos (by omega)]
        · refine ⟨⟨k + 1, by omega, by go_num, by rw [HS.out]; rfl, ?_⟩, by simp [intOf]; omega⟩
          show _ = Value.int .i64 (toI (xt (xtN k a)))
          rw [HX.out, if_neg (by omega)]
    · obtain rfl : k = 8 := by omega
      have hbyte := toI_byte (gmTo 8 a b)
      go_wp2_with fail
      go_ret
      exact ⟨rfl, rfl⟩

theorem ofNat_toI (k : Nat) : IntKind.u8.wrap (k : Int) = toI (BitVec.ofNat 8 k) := by
  rw [IntKind.wrap_u8]; simp only [toI, BitVec.toNat_ofNat]; omega
theorem one_toI : (1 : Int) = toI 1 := rfl
set_option maxRecDepth 100000 in
set_option maxHeartbeats 400000 in
theorem refinv_any (a : G) (w : World) (ha : a ≠ 0) :
    Calls Try.prog 15 #[.int .u8 (toI a)] w fun e w' => e = .returned (.int .u8 (toI (ginv a))) ∧ w' = w := by
  have hne : (ginv a).toNat ≠ 0 := fun h => ginv_ne a ha (BitVec.eq_of_toNat_eq h)
  have hlt := (ginv a).isLt
  go_enter Try.func15, Try.ntmps15
  go_wp2_with fail
  go_loop [3] (fun i => ∃ k : Nat, 1 ≤ k ∧ k ≤ (ginv a).toNat ∧ i = .int .i64 k) (fun i => 256 - (intOf i).toNat)
  case atStart => exact ⟨1, Nat.le_refl _, by omega, rfl⟩
  case round =>
    obtain ⟨k, hk1, hk, rfl⟩ := hrel
    have hc := ofNat_toI k
    by_cases he : k = (ginv a).toNat
    · have hx : BitVec.ofNat 8 k = ginv a := by rw [he]; simp
      have h1 : gm a (ginv a) = 1 := gm_inv a ha
      rw [hx] at hc
      clear hx he
      have H1 := Lib.hid h1
      clear h1
      go_wp2_with fail
      refine (refmul_any a (ginv a) _).mono ?_
      rintro e w1 ⟨rfl, rfl⟩
      rw [H1.out]
      go_wp2_with fail
      go_ret
      exact ⟨rfl, rfl⟩
    · have h1 : (toI (gm a (BitVec.ofNat 8 k)) == 1) = false := by
        rw [beq_eq_false_iff_ne]
        intro h
        have h2 : gm a (BitVec.ofNat 8 k) = 1 := toI_inj h
        have h3 := ginv_unique a _ h2
        rw [← h3] at he
        simp at he
        omega
      go_wp2_with fail
      refine (refmul_any a (BitVec.ofNat 8 k) _).mono ?_
      rintro e w1 ⟨rfl, rfl⟩
      go_wp2_with fail
      refine ⟨⟨k + 1, by omega, by omega, by go_num⟩, by simp [intOf]; omega⟩

set_option maxHeartbeats 400000 in
theorem reffactor_any (j i : Nat) (w : World) (hj : j < 4) (hi : i < 16) :
    Calls Try.prog 44 #[.int .i64 j, .int .i64 i] w fun e w' => e = .returned (.int .u8 (toI (fG j i))) ∧ w' = w := by
  have hc := cG_conv j hj i hi
  have HI := Lib.hid (fun W => refinv_any (cG j i) W (cG_ne j hj i hi))
  rw [fG]
  generalize toI (ginv (cG j i)) = r at *
  generalize toI (cG j i) = x at *
  go_enter Try.func44, Try.ntmps44
  go_wp2_with fail
  refine (HI.out _).mono ?_
  rintro e w1 ⟨rfl, rfl⟩
  go_wp2
  go_ret
  exact ⟨rfl, rfl⟩
end Go.Proofs.Ytiggohkkokalcaa
