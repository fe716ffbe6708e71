/- The walks of the generators: few, number, Blocks. -/
import Derived.Test.YtiggohkkokalcaaMake
import Derived.Test.YtiggohkkokalcaaRefGf
namespace Go.Proofs.Ytiggohkkokalcaa
open Go.RowKit Go.Proofs.YtiggohkkokalcaaW.PrintWords Go.Proofs.YtiggohkkokalcaaW.PrintMore
set_option linter.unusedVariables false
attribute [local go_sem] max2_int max_two

theorem ret_int {k : IntKind} {a b : Int} (h : a = b) : Ending.returned (.int k a) = .returned (.int k b) := by rw [h]
def fewN (n : Int) : Nat := ((n.tmod 5 + 5).tmod 5).toNat
theorem tmod_rng (n : Int) (m : Int) (h : 0 < m) : -m < n.tmod m ∧ n.tmod m < m := by
  have h1 := Int.tmod_lt_of_pos n h
  have h2 := Int.lt_tmod_of_pos n h
  exact ⟨h2, h1⟩
theorem fewN_le (n : Int) : fewN n ≤ 4 := by
  have := tmod_rng (n.tmod 5 + 5) 5 (by decide)
  unfold fewN; omega
theorem few_cast (n : Int) : ((n.tmod 5 + 5).tmod 5) = (fewN n : Int) := by
  have h1 := tmod_rng n 5 (by decide)
  have h2 : 0 ≤ (n.tmod 5 + 5).tmod 5 := Int.tmod_nonneg _ (by omega)
  unfold fewN; omega
set_option maxHeartbeats 400000 in
theorem few_any (n : Int) (w : World) : Calls Try.prog 17 #[.int .i64 n] w fun e w' => e = .returned (.int .i64 (fewN n)) ∧ w = w' := by
  have h1 := tmod_rng n 5 (by decide)
  have h2 := few_cast n
  obtain ⟨h3, h4⟩ := h1
  have h5 : (n.tmod 5 + 5) % 5 = (fewN n : Int) := by rw [← Int.tmod_eq_emod_of_nonneg (by omega)]; exact h2
  clear h2
  go_enter Try.func17, Try.ntmps17
  go_wp2
  go_ret
  exact ⟨ret_int h5, rfl⟩

/-- What a slice value of ints reads. -/
abbrev Vi (W : World) (ok : Nat → Prop) (v : Value) (xs : List Int) : Prop := Kd.V (Kd.int .i64) 3 W 0 ok v xs
theorem Vi_cell {W : World} {ok : Nat → Prop} {n c : Nat} {A : Option Addr} {xs : List Int} (h : Vi W ok (.slice A n c) xs) (i : Nat) (hi : i < xs.length) :
    ∃ ad, A = some ad ∧ W.cell? (ad.add i) = some (.int .i64 (xs.getD i 0)) ∧ ok ad.block := V_scalar h 0 i hi

set_option maxHeartbeats 400000 in
theorem number_any (xs : List Int) (v : Value) (at_ : Int) (m : Nat) (w : World) (HV : Vi w (fun _ => True) v xs) (h1 : 0 < m) (h2 : m ≤ 65536) :
    Calls Try.prog 39 #[v, .int .i64 at_, .int .i64 m] w fun e w' => (∃ r : Nat, e = .returned (.int .i64 r) ∧ r < m) ∧ w = w' := by
  obtain ⟨A, c, rfl, hc, hm⟩ := V_open HV
  by_cases ha : at_ < 0
  · clear HV
    go_enter Try.func39, Try.ntmps39
    go_wp2
    go_ret
    exact ⟨⟨0, rfl, h1⟩, rfl⟩
  · obtain ⟨i, rfl⟩ := Int.eq_ofNat_of_zero_le (by omega : 0 ≤ at_)
    by_cases hi : i < xs.length
    · obtain ⟨ad, rfl, hcell, _⟩ := Vi_cell HV i hi
      generalize xs.getD i 0 = x at *
      have ht := tmod_rng x m (by omega)
      obtain ⟨ht1, ht2⟩ := ht
      clear HV
      have hmz : ((m : Int) == 0) = false := by rw [beq_eq_false_iff_ne]; omega
      by_cases hn : x.tmod m < 0
      · go_enter Try.func39, Try.ntmps39
        go_wp2
        go_ret
        exact ⟨⟨(x.tmod m + m).toNat, ret_int (by omega), by omega⟩, rfl⟩
      · go_enter Try.func39, Try.ntmps39
        go_wp2
        go_ret
        exact ⟨⟨(x.tmod m).toNat, ret_int (by omega), by omega⟩, rfl⟩
    · clear HV
      go_enter Try.func39, Try.ntmps39
      go_wp2
      go_ret
      exact ⟨⟨0, rfl, h1⟩, rfl⟩

/-- Blocks: up to seven blocks of up to twelve bytes. -/
def Small (bss : List (List G)) : Prop := bss.length ≤ 7 ∧ ∀ b ∈ bss, b.length ≤ 12
set_option maxRecDepth 100000 in
set_option maxHeartbeats 1000000 in
theorem blocks_any (xs : List Int) (v : Value) (w : World) (HV : Vi w (fun _ => True) v xs) :
    Calls Try.prog 16 #[v] w fun e w' => ∃ u bss, e = .returned u ∧ Vbb w' (fun _ => True) u bss ∧ Small bss ∧ Below w.heap.size w w' := by
  obtain ⟨A, c, rfl, hc, hm⟩ := V_open HV
  have HHV := Lib.hid HV
  clear HV
  go_enter Try.func16, Try.ntmps16
  go_wp2_with fail
  refine (number_any xs _ 0 8 _ HHV.out (by decide) (by decide)).mono ?_
  rintro e w' ⟨⟨n, rfl, hn⟩, rfl⟩
  go_wp2_with fail
  go_loopw [3, 5] (fun vo i wr => ∃ (k : Nat) (bss : List (List G)), i = .int .i64 k ∧ k ≤ n ∧ Hid (bss.length = k) ∧ Hid (∀ b ∈ bss, b.length ≤ 12) ∧ Hid (Kd.N KGs 33 wr w.heap.size (fun _ => True) vo bss) ∧ Hid (Below w.heap.size w wr)) (fun _ i _ => n - (intOf i).toNat)
  case atStart => exact ⟨0, [], rfl, Nat.zero_le _, Lib.hid rfl, Lib.hid (by simp), Lib.hid (Kd.N_nil _ _ _ _ _), Lib.hid (Below.refl _ _)⟩
  case round =>
    obtain ⟨k, bss, rfl, hk, HL, H12, HN, HB⟩ := hrel
    by_cases hlt : k < n
    · go_wp2_with fail
      refine (number_any xs _ _ 13 _ (Kd.V_mono (Kd.V_below (Kd.V_bound HHV.out) HB.out) (fun _ _ => trivial)) (by decide) (by decide)).mono ?_
      rintro e w' ⟨⟨m, rfl, hm13⟩, rfl⟩
      go_wp2_with fail
      obtain ⟨wo, rfl⟩ : ∃ wo : World, wo = wr := ⟨_, rfl⟩
      go_loopw [6, 8] (fun vb j wr => ∃ (q : Nat) (bs : List G), j = .int .i64 q ∧ q ≤ m ∧ Hid (bs.length = q) ∧ Hid (KG.R 5 wr w.heap.size (fun _ => True) vb bs) ∧ Hid (Kd.N KGs 33 wr w.heap.size (fun b => True ∧ some b ≠ vb.ownBlock) u3 bss) ∧ Hid (Below w.heap.size w wr)) (fun _ j _ => m - (intOf j).toNat)
      case atStart => exact ⟨0, [], rfl, Nat.zero_le _, Lib.hid rfl, Lib.hid (Kd.R_nil _ _ _ _ _), Lib.hid (Kd.N_apart_nil HN.out), HB⟩
      case round =>
        clear HN HB
        obtain ⟨q, bs, rfl, hq, HL2, HR, HN, HB⟩ := hrel
        by_cases hlq : q < m
        · have hqk : (q : Int) * (k : Int) ≤ 84 := by
            have : q * k ≤ 12 * 7 := Nat.mul_le_mul (by omega) (by omega)
            have h2 : ((q * k : Nat) : Int) ≤ 84 := by omega
            rwa [Int.natCast_mul] at h2
          have hqk0 : 0 ≤ (q : Int) * (k : Int) := by
            have h2 : 0 ≤ ((q * k : Nat) : Int) := Int.natCast_nonneg _
            rwa [Int.natCast_mul] at h2
          by_cases hx1 : (1 : Int) < (xs.length : Int)
          all_goals
            go_wp2_with fail
            refine (number_any xs _ _ 256 _ (Kd.V_mono (Kd.V_below (Kd.V_bound HHV.out) HB.out) (fun _ _ => trivial)) (by decide) (by decide)).mono ?_
            rintro e w' ⟨⟨r, rfl, hr⟩, rfl⟩
            have hwr : IntKind.u8.wrap ((r : Int) + (q : Int) * (k : Int)) = toI (BitVec.ofNat 8 (r + q * k)) := by
              have := ofNat_toI (r + q * k)
              rwa [Int.natCast_add, Int.natCast_mul] at this
            generalize BitVec.ofNat 8 (r + q * k) = g at *
            clear hx1
            go_wp2_with ((with_reducible refine gate_builtin (b := .append) (xs := #[.tmp 25, .tmp 42]) rfl ?_); at_builtin; refine Kd.R_append KG (w0 := w) w.heap.size rfl (.tmp 25) (.tmp 42) 33 5 (.int .u8 0) 1 rfl Try.underlying33 info5 rfl (by decide) (by omega) u6 bs g [.int .u8 (toI g)] (fun _ => True) (fun _ => False) rfl rfl rfl (fun _ hk => hk.elim) (fun _ _ => trivial) HR.out HB.out HB.out.size (by have := HL2.out; omega) ?_; intro v3 w3 hR3 hB3 hg hat)
            have hN3 := Kd.N_after HN.out hg hat
            refine ⟨⟨q + 1, bs ++ [g], by go_num, by omega, Lib.hid (by rw [List.length_append, HL2.out]; rfl), Lib.hid hR3, Lib.hid hN3, Lib.hid hB3⟩, by simp [intOf]; omega⟩
        · obtain ⟨Ab, cb1, rfl, _, _⟩ := V_open (Kd.R_V (base' := 0) HR.out)
          have hne : ∀ b, some b = (Value.slice Ab bs.length cb1).ownBlock → True ∧ some b ≠ u3.ownBlock := fun b hb => ⟨trivial, fun he => (HN.out.1 b he.symm).2 hb⟩
          have HNE := Lib.hid hne
          have hR1 : KG.R 5 wr w.heap.size (fun b => some b = (Value.slice Ab bs.length cb1).ownBlock) (Value.slice Ab bs.length cb1) bs := Kd.R_tight rfl HR.out
          have HR1 := Lib.hid hR1
          clear hne hR1
          go_wp2_with ((with_reducible refine gate_builtin (b := .append) (xs := #[.tmp 44, .tmp 46]) rfl ?_); at_builtin; refine Kd.N_append KGs (w0 := w) w.heap.size rfl (.tmp 44) (.tmp 46) 30 33 (.slice none 0 0) 24 rfl Try.underlying30 info33 rfl (by decide) (by omega) u3 bss bs [.slice Ab bs.length cb1] (fun _ => True) (fun b => some b = (Value.slice Ab bs.length cb1).ownBlock) rfl rfl (Kd.FK_of_M ⟨_, rfl, HR1.out⟩) HNE.out (fun _ _ => trivial) (Kd.N_mono HN.out (fun _ _ => trivial)) HB.out HB.out.size (by have := HL.out; omega) ?_; intro v3 w3 hN3 hB3 _ _)
          refine ⟨⟨k + 1, bss ++ [bs], by go_num, by omega, Lib.hid (by rw [List.length_append, HL.out]; rfl), Lib.hid (fun b hb => ?_), Lib.hid hN3, Lib.hid hB3⟩, by simp [intOf]; omega⟩
          rcases List.mem_append.1 hb with hb | hb
          · exact H12.out b hb
          · rw [List.mem_singleton.1 hb, HL2.out]; omega
    · go_wp2_with fail
      go_ret
      exact ⟨_, bss, rfl, Kd.N_V HN.out, ⟨by rw [HL.out]; omega, H12.out⟩, HB.out⟩
end Go.Proofs.Ytiggohkkokalcaa
