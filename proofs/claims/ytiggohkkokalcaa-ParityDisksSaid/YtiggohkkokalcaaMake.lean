/- The walk of package parity's Make. -/
import Derived.Test.YtiggohkkokalcaaSum
import Derived.Test.YtiggohkkokalcaaMakePlain
import Derived.Test.YtiggohkkokalcaaWNEv
namespace Go.Proofs.Ytiggohkkokalcaa
open Go.RowKit Go.Proofs.YtiggohkkokalcaaW.PrintWords Go.Proofs.YtiggohkkokalcaaW.PrintMore
attribute [local go_sem] max2_int max_two

theorem info5 : (Try.prog.info? 5).map (fun i => (i.zero, i.size, i.bytes)) = some (some (.int .u8 0), 1, 1) := by kernel_rfl
theorem info33 : (Try.prog.info? 33).map (fun i => (i.zero, i.size, i.bytes)) = some (some (.slice none 0 0), 1, 24) := by kernel_rfl

/-- func(i int) byte { return factor(j, i) }: j's cell at cp -/
theorem make1_any (k i : Nat) (cp : Addr) (w : World) (hk : k < 4) (hi : i < 16) (hc : w.cell? cp = some (.int .i64 k)) :
    Calls Try.prog 41 #[.int .i64 i, .pointer (some cp)] w fun e w' => e = .returned (.int .u8 (toI (fG k i))) ∧ Below w.heap.size w w' := by
  go_enter Try.func41, Try.ntmps41
  go_wp2_with (go_at_call 42; refine (factor_any k i _ hk hi).mono ?_; rintro e w' ⟨rfl, hB⟩)
  go_ret
  exact ⟨rfl, hB⟩
theorem callFunc41 (args : Array Value) (W : World) : (callFunc 41 args).run Try.prog W = .ok (.enter 41 args) W := by
  go_simp

set_option maxRecDepth 100000 in
set_option maxHeartbeats 2000000 in
theorem make_any (data : List (List G)) (n : Int) (vb : Value) (w : World) (HV : Vbb w (fun _ => True) vb data) :
    Calls Try.prog 18 #[vb, .int .i64 n] w fun e w' => ∃ v, e = .returned (.tuple #[v, .int .i64 (makeErr data n)]) ∧ Vbb w' (fun _ => True) v (makeOut data n) ∧ Below w.heap.size w w' := by
  obtain ⟨A, cb, rfl, hcb, hm⟩ := V_open HV
  have HHV := Lib.hid HV
  clear HV
  go_enter Try.func18, Try.ntmps18
  go_wp2_with fail
  go_loop [6, 14] (fun l i => ∃ k : Nat, k ≤ data.length ∧ i = .int .i64 k ∧ l = .int .i64 (longTo data k)) (fun _ i => data.length - (intOf i).toNat)
  case atStart => exact ⟨0, Nat.zero_le _, rfl, rfl⟩
  case round =>
    obtain ⟨k, hk, rfl, rfl⟩ := hrel
    by_cases hlt : k < data.length
    · obtain ⟨ad, A1, c1, rfl, hcell, HV2, _⟩ := Vbb_row HHV.out k hlt
      obtain ⟨b, hb⟩ : ∃ b, b = data.getD k [] := ⟨_, rfl⟩
      have hL : longTo data (k + 1) = max (longTo data k) b.length := by rw [longTo, hb]
      rw [← hb] at hcell
      have HL := Lib.hid hL
      clear HV2 hb hL
      generalize longTo data k = l at *
      by_cases hlb : (l : Int) < (b.length : Int)
      all_goals
        go_wp2_with fail
        refine ⟨⟨k + 1, by omega, by go_num, ?_⟩, by simp [intOf]; omega⟩
        rw [HL.out]
        congr 1
        omega
    · obtain rfl : k = data.length := by omega
      have HE : Hid (makeErr data n = if n < 0 ∨ 4 < n then 1 else if 16 < data.length ∨ 65536 < longTo data data.length then 4 else 0) := rfl
      have HO : Hid (makeOut data n = if makeErr data n = 0 then makeG data n.toNat else []) := rfl
      have HLL : Hid (longG data = longTo data data.length) := rfl
      generalize longTo data data.length = l at *
      have fin : ∀ er : Int, er ≠ 0 → makeErr data n = er → Ending.returned (.tuple #[.slice none 0 0, .int .i64 er]) = Ending.returned (.tuple #[.slice none 0 0, .int .i64 (makeErr data n)]) ∧ Vbb w (fun _ => True) (.slice none 0 0) (makeOut data n) ∧ Below w.heap.size w w := by
        intro er hne he
        refine ⟨by rw [he], ?_, Below.refl _ _⟩
        rw [HO.out, if_neg (by rw [he]; exact hne)]
        exact Kd.V_nil _ _ _ _ _
      have FIN := Lib.hid fin
      clear fin
      by_cases h1 : n < 0
      · have hE := Lib.hid (HE.out.trans (if_pos (.inl h1)))
        go_wp2_with fail
        go_ret2
        exact ⟨_, FIN.out 1 (by decide) hE.out⟩
      · by_cases h2 : 4 < n
        · have hE := Lib.hid (HE.out.trans (if_pos (.inr h2)))
          go_wp2_with fail
          go_ret2
          exact ⟨_, FIN.out 1 (by decide) hE.out⟩
        · by_cases h3 : 16 < data.length
          · have hE := Lib.hid (HE.out.trans ((if_neg (by omega)).trans (if_pos (.inl h3))))
            go_wp2_with fail
            go_ret2
            exact ⟨_, FIN.out 4 (by decide) hE.out⟩
          · by_cases h4 : 65536 < l
            · have hE := Lib.hid (HE.out.trans ((if_neg (by omega)).trans (if_pos (.inr h4))))
              go_wp2_with fail
              go_ret2
              exact ⟨_, FIN.out 4 (by decide) hE.out⟩
            · have hE := Lib.hid (HE.out.trans ((if_neg (by omega)).trans (if_neg (by omega))))
              have hO := Lib.hid (HO.out.trans (if_pos hE.out))
              clear HE HO FIN
              go_wp2_with fail
              go_loopw [9, 39] (fun vo j wr => ∃ k : Nat, k ≤ n.toNat ∧ j = .int .i64 k ∧ Hid (Kd.N KGs 33 wr w.heap.size (fun _ => True) vo (makeG data k)) ∧ Hid (Below w.heap.size w wr)) (fun _ j _ => n.toNat - (intOf j).toNat)
              case atStart => exact ⟨0, Nat.zero_le _, rfl, Lib.hid (Kd.N_nil _ _ _ _ _), Lib.hid (Below.refl _ _)⟩
              case round =>
                obtain ⟨k, hk, rfl, HN, HB⟩ := hrel
                by_cases hlt : (k : Int) < n
                · go_wp2_with ((with_reducible refine gate_dst (N := 43) rfl ?_); refine Kd.R_make KG _ 5 rfl (N := 43) rfl 33 _ _ rfl (l : Int) rfl rfl Try.underlying33 (.int .u8 0) 1 info5 rfl (by decide) (by omega) 0 (ok := fun _ => True) (okp := fun _ => True) rfl (fun _ hk => hk) trivial (by omega) (by omega) (Below.refl _ _) (Nat.le_refl _) ?_; intro v1 w1 ho hb hg hnew)
                  have hl2 : (l : Int).toNat = l := Int.toNat_natCast l
                  rw [hl2] at ho
                  clear hl2
                  obtain ⟨b1, hb1, hb2⟩ := hnew
                  have hBW : Below w.heap.size w (wr.alloc (.cells #[.int .i64 k] 3)) := HB.out.alloc HB.out.size _
                  have hB1 : Below w.heap.size w w1 := below_tr hBW hb
                  have hsz : wr.heap.size < (wr.alloc (.cells #[.int .i64 k] 3)).heap.size := by rw [World.size_alloc]; omega
                  have hws : w.heap.size ≤ wr.heap.size := HB.out.size
                  have hO1 : OwnB w1 0 v1 (List.replicate l 0) := Kd.own_of_R (Kd.R_lower ho (Nat.zero_le _))
                  have hV1 : Vbb w1 (fun k => some k ≠ v1.ownBlock) (.slice A data.length cb) data :=
                    Kd.V_mono (Kd.V_below (Kd.V_bound HHV.out) hB1) (fun q hq => by rw [hb1]; intro he; injection he with he; have := hq.2; omega)
                  have hcell : w1.cell? ⟨wr.heap.size, 0, none⟩ = some (.int .i64 k) := by
                    rw [hb.cell (p := ⟨wr.heap.size, 0, none⟩) hsz]
                    exact World.cell?_alloc_new wr _ _ _
                  have hLL : ∀ i, (data.getD i []).length ≤ (List.replicate l (0 : G)).length := fun i => by rw [List.length_replicate, ← HLL.out]; exact longG_ge data i
                  have hk4 : k < 4 := by omega
                  have hd16 : data.length ≤ 16 := by omega
                  refine (sum_any 41 ⟨wr.heap.size, 0, none⟩ (fG k) data (List.replicate l 0) v1 _ _ hO1 hV1 hLL callFunc41 (fun i hi W hW => make1_any k i _ W hk4 (by omega) (hW.cell hcell (by rw [hb1]; intro he; injection he with he; change wr.heap.size = b1 at he; omega)))).mono ?_
                  rintro e w2 ⟨rfl, hG2, hO2⟩
                  have hp2 : sumG (fG k) data (List.replicate l 0) = parG data k := by rw [parG, HLL.out]
                  rw [hp2] at hO2
                  have hB2 : Below w.heap.size w w2 := hB1.grown hG2 hB1.size (fun q hq => by rw [hb1] at hq; injection hq with hq; omega)
                  have hwr1 : Below wr.heap.size wr w1 := (Below.refl _ wr |>.alloc (Nat.le_refl _) (.cells #[.int .i64 k] 3)).trans (hb.mono (Nat.le_of_lt hsz))
                  have hN2 : Kd.N KGs 33 w2 w.heap.size (fun q => True ∧ q < wr.heap.size) u9 (makeG data k) :=
                    Kd.N_grown (Kd.N_below (Kd.N_bound HN.out) hwr1) hG2 (fun q hq => by rw [hb1]; intro he; injection he with he; have := hq.2; omega)
                  have hne : ∀ q, some q = v1.ownBlock → True ∧ some q ≠ u9.ownBlock := fun q hq => ⟨trivial, fun he => by have := Kd.N_lt HN.out q he.symm; rw [hb1] at hq; injection hq with hq; omega⟩
                  obtain ⟨Ab, cb1, rfl, _, _⟩ := V_open hO2.V
                  have HN2 := Lib.hid hN2
                  have HB2 := Lib.hid hB2
                  have HNE := Lib.hid hne
                  have HO2 := Lib.hid hO2
                  clear hN2 hB2 hne hO2 hwr1 hp2 hG2 hLL hcell hV1 hO1 hB1 hBW ho hb hg hb1 hb2 hsz hws HN HB
                  go_wp2_with ((with_reducible refine gate_builtin (b := .append) (xs := #[.tmp 48, .tmp 50]) rfl ?_); at_builtin; refine Kd.N_append KGs (w0 := w) w.heap.size rfl (.tmp 48) (.tmp 50) 30 33 (.slice none 0 0) 24 rfl Try.underlying30 info33 rfl (by decide) (by omega) u9 (makeG data k) (parG data k) [.slice Ab (parG data k).length cb1] (fun _ => True) (fun q => some q = (Value.slice Ab (parG data k).length cb1).ownBlock) rfl rfl (Kd.FK_of_M ⟨_, rfl, HO2.out.R⟩) HNE.out (fun _ _ => trivial) (Kd.N_mono HN2.out (fun _ _ => trivial)) HB2.out HB2.out.size (by rw [makeG_length]; omega) ?_; intro v3 w3 hN3 hB3 _ _)
                  rw [← makeG_succ] at hN3
                  refine ⟨⟨k + 1, by omega, by go_num, Lib.hid hN3, Lib.hid hB3⟩, by simp [intOf]; omega⟩
                · go_wp2_with fail
                  go_ret2
                  have : k = n.toNat := by omega
                  subst this
                  exact ⟨u9, by rw [hE.out]; rfl, by rw [hO.out]; exact Kd.N_V HN.out, HB.out⟩
end Go.Proofs.Ytiggohkkokalcaa
