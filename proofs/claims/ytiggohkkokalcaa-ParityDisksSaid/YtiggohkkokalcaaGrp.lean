/- The walks of the reference's Without and Lost once more: Lost gives numbers below a number; Without gives a row of the call's own whose rows all lie below a block. -/
import Derived.Test.YtiggohkkokalcaaLostAll
import Derived.Test.YtiggohkkokalcaaRepWords
namespace Go.Proofs.Ytiggohkkokalcaa
open Go.RowKit Go.Proofs.YtiggohkkokalcaaW.PrintWords Go.Proofs.YtiggohkkokalcaaW.PrintMore
set_option linter.unusedVariables false
set_option linter.unusedSimpArgs false

set_option maxRecDepth 100000 in
set_option maxHeartbeats 2000000 in
theorem withoutN_any (bss : List (List G)) (l : List Int) (first : Int) (vb vl : Value) (w : World) (HV : Vbb w (fun _ => True) vb bss) (HL : Vi w (fun _ => True) vl l) (hl : bss.length ≤ 70000) (hf : 0 ≤ first ∧ first ≤ 65536) :
    Calls Try.prog 28 #[vb, vl, .int .i64 first] w fun e w' => ∃ u, e = .returned u ∧ Kd.N KGs 33 w' w.heap.size (fun _ => True) u (withoutG bss l first) ∧ Below w.heap.size w w' := by
  obtain ⟨A, ca, rfl, hca, hma⟩ := V_open HV
  obtain ⟨B, cb, rfl, hcb, hmb⟩ := V_open HL
  have HHV := Lib.hid (Kd.V_bound HV); have HHL := Lib.hid HL
  clear HV HL
  go_enter Try.func28, Try.ntmps28
  go_wp2_with fail
  go_loopw [7, 8] (fun u i wr => ∃ k : Nat, i = .int .i64 k ∧ k ≤ bss.length ∧ Hid (Kd.N KGs 33 wr w.heap.size (fun _ => True) u (withoutTo bss l first k)) ∧ Hid (Below w.heap.size w wr)) (fun _ i _ => bss.length - (intOf i).toNat)
  case atStart => exact ⟨0, rfl, Nat.zero_le _, Lib.hid (Kd.N_nil _ _ _ _ _), Lib.hid (Below.refl _ _)⟩
  case round =>
    obtain ⟨k, rfl, hk, HO, HB⟩ := hrel
    by_cases hlt : k < bss.length
    · obtain ⟨ad, A1, c1, rfl, hcell, HV2, _⟩ := Vbb_row (Kd.V_below HHV.out HB.out) k hlt
      have hwr : (first + (k : Int)) ≤ 135536 := by omega
      have HWT := Lib.hid (withoutTo_succ bss l first k)
      have HWL := Lib.hid (withoutTo_length bss l first k)
      have HI := Kd.V_below HHL.out HB.out
      have HHI := Lib.hid HI
      have HHV2 := Lib.hid HV2
      clear HI HV2
      generalize bss.getD k [] = b at *
      go_wp2_with fail
      go_loop [9, 10] (fun x q => ∃ c : Nat, q = .int .i64 c ∧ c ≤ l.length ∧ x = .bool (inTo l (first + k) c)) (fun _ q => l.length - (intOf q).toNat)
      case atStart => exact ⟨0, rfl, Nat.zero_le _, rfl⟩
      case round =>
        obtain ⟨c, rfl, hc, rfl⟩ := hrel
        by_cases hlt2 : c < l.length
        · obtain ⟨ad2, rfl, hcell2, _⟩ := Vi_cell HHI.out c hlt2
          have HIS := Lib.hid (inTo_succ l (first + k) c hlt2)
          generalize l.getD c 0 = y at *
          cases hb : inTo l (first + k) c
          all_goals
            go_wp2_with fail
            refine ⟨⟨c + 1, by go_num, by omega, ?_⟩, by simp [intOf]; omega⟩
            rw [HIS.out, hb]
            first | rfl | (congr 1; simp [beq_eq_decide])
        · obtain rfl : c = l.length := by omega
          have hil : inL l (first + k) = inTo l (first + k) l.length := rfl
          rw [hil] at HWT
          cases hb : inTo l (first + k) l.length
          case true =>
            rw [hb, if_pos rfl] at HWT
            go_wp2_with ((with_reducible refine gate_builtin (b := .append) (xs := #[.tmp 35, .tmp 36]) rfl ?_); at_builtin; refine Kd.N_append KGs (w0 := w) w.heap.size rfl (.tmp 35) (.tmp 36) 30 33 (.slice none 0 0) 24 rfl Try.underlying30 info33 rfl (by decide) (by omega) _ (withoutTo bss l first k) [] [.slice none 0 0] (fun _ => True) (fun _ => False) rfl rfl (Kd.FK_slice_mk (Nat.le_refl _) (Kd.F_nil KG _ _)) (fun _ h => h.elim) (fun _ _ => trivial) HO.out HB.out HB.out.size (by rw [HWL.out]; omega) ?_; intro v3 w3 hN3 hB3 _ _)
            rw [← HWT.out] at hN3
            refine ⟨⟨k + 1, by go_num, by omega, Lib.hid hN3, Lib.hid hB3⟩, by simp [intOf]; omega⟩
          case false =>
            have hif : (if false = true then ([] : List G) else b) = b := if_neg (by decide)
            rw [hb, hif] at HWT
            clear hif
            have HFK : Hid (Kd.FK KGs wr (fun q => q < w.heap.size) b [.slice A1 b.length c1]) := by
              obtain ⟨A', c', he, hc', hf'⟩ := HHV2.out
              injection he with h1 _ h2
              subst h1 h2
              exact Lib.hid (Kd.FK_mono (Kd.FK_slice_mk hc' hf') (fun q hq => hq.2))
            have HNE : Hid (∀ q, q < w.heap.size → True ∧ some q ≠ u7.ownBlock) := Lib.hid (fun q hq => ⟨trivial, fun he => by have := Kd.N_base HO.out q he.symm; omega⟩)
            go_wp2_with ((with_reducible refine gate_builtin (b := .append) (xs := #[.tmp 38, .tmp 43]) rfl ?_); at_builtin; refine Kd.N_append KGs (w0 := w) w.heap.size rfl (.tmp 38) (.tmp 43) 30 33 (.slice none 0 0) 24 rfl Try.underlying30 info33 rfl (by decide) (by omega) _ (withoutTo bss l first k) b [.slice A1 b.length c1] (fun _ => True) (fun q => q < w.heap.size) rfl rfl HFK.out HNE.out (fun _ _ => trivial) HO.out HB.out HB.out.size (by rw [HWL.out]; omega) ?_; intro v3 w3 hN3 hB3 _ _)
            rw [← HWT.out] at hN3
            refine ⟨⟨k + 1, by go_num, by omega, Lib.hid hN3, Lib.hid hB3⟩, by simp [intOf]; omega⟩
    · obtain rfl : k = bss.length := by omega
      go_wp2_with fail
      go_ret
      exact ⟨_, rfl, HO.out, HB.out⟩
/-- What Lost gives: different numbers below a number, not more than most. -/
structure LostR (below most : Int) (out : List Int) : Prop where
  nodup : out.Nodup
  few : out.length = 0 ∨ (out.length : Int) ≤ most
  rng : ∀ x ∈ out, 0 ≤ x ∧ x < below
set_option maxRecDepth 100000 in
set_option maxHeartbeats 2000000 in
theorem lostR_any (l : List Int) (vl : Value) (below most : Int) (w : World) (HL : Vi w (fun _ => True) vl l) (hb : below ≤ 65536) (hm : most ≤ 70000) :
    Calls Try.prog 27 #[vl, .int .i64 below, .int .i64 most] w fun e w' => ∃ u, e = .returned u ∧ (∃ out, OwnI w' w.heap.size u out ∧ LostR below most out) ∧ Below w.heap.size w w' := by
  obtain ⟨B, cb, rfl, hcb, hmb⟩ := V_open HL
  have HHL := Lib.hid HL
  clear HL
  go_enter Try.func27, Try.ntmps27
  go_wp2_with fail
  go_loopw [7, 8] (fun u i wr => ∃ (k : Nat) (out : List Int), i = .int .i64 k ∧ k ≤ l.length ∧ Hid (OwnI wr w.heap.size u out) ∧ Hid (LostR below most out) ∧ Hid (Below w.heap.size w wr)) (fun _ i _ => l.length - (intOf i).toNat)
  case atStart => exact ⟨0, [], rfl, Nat.zero_le _, Lib.hid (OwnI.nil _ _), Lib.hid ⟨List.nodup_nil, .inl rfl, by simp⟩, Lib.hid (Below.refl _ _)⟩
  case round =>
    obtain ⟨k, out, rfl, hk, HO, HK, HB⟩ := hrel
    obtain ⟨C, cc, rfl, hcc, hmc⟩ := V_open HO.out.V
    by_cases hgo : k < l.length ∧ (out.length : Int) < most ∧ 0 < below
    · obtain ⟨h1, h2, h3⟩ := hgo
      have HNB := Lib.hid (number_any l _ k below.toNat wr (Kd.V_below HHL.out HB.out) (by omega) (by omega))
      rw [Int.toNat_of_nonneg (by omega : 0 ≤ below)] at HNB
      go_wp2_with (go_at_call 39; refine HNB.out.mono ?_; rintro e w2 ⟨⟨r, rfl, hr⟩, rfl⟩)
      go_loop [10, 11] (fun x q => ∃ c : Nat, q = .int .i64 c ∧ c ≤ out.length ∧ x = .bool (inTo out r c)) (fun _ q => out.length - (intOf q).toNat)
      case atStart => exact ⟨0, rfl, Nat.zero_le _, rfl⟩
      case round =>
        obtain ⟨c, rfl, hc, rfl⟩ := hrel
        by_cases hlt2 : c < out.length
        · obtain ⟨ad2, rfl, hcell2, _⟩ := Vi_cell HO.out.V c hlt2
          have HIS := Lib.hid (inTo_succ out r c hlt2)
          generalize out.getD c 0 = y at *
          cases hb : inTo out r c
          all_goals
            go_wp2_with fail
            refine ⟨⟨c + 1, by go_num, by omega, ?_⟩, by simp [intOf]; omega⟩
            rw [HIS.out, hb]
            first | rfl | (congr 1; simp [beq_eq_decide])
        · obtain rfl : c = out.length := by omega
          have HIL := Lib.hid (show inL out r = inTo out r out.length from rfl)
          cases hb : inTo out r out.length
          case true =>
            go_wp2_with fail
            refine ⟨⟨k + 1, out, by go_num, by omega, HO, HK, HB⟩, by simp [intOf]; omega⟩
          case false =>
            have HBF := Lib.hid hb
            go_wp2_with ((with_reducible refine gate_builtin (b := .append) (xs := #[.tmp 49, .tmp 51]) rfl ?_); at_builtin; refine app_int (w0 := w) w.heap.size rfl (.tmp 49) (.tmp 51) rfl _ out r rfl rfl HO.out HB.out HB.out.size (by omega) ?_; intro v1 w1 hO1 hB1 hg1 hat1)
            refine ⟨⟨k + 1, _, by go_num, by omega, Lib.hid hO1, Lib.hid ⟨?_, .inr ?_, ?_⟩, Lib.hid hB1⟩, by simp [intOf]; omega⟩
            · rw [List.nodup_append]
              refine ⟨HK.out.nodup, by simp, fun a ha b hb2 => ?_⟩
              rw [List.mem_singleton] at hb2
              subst hb2
              intro he
              subst he
              have := (inL_iff out r).2 ha
              rw [HIL.out, HBF.out] at this
              cases this
            · rw [List.length_append, List.length_singleton]; omega
            · intro x hx
              rcases List.mem_append.1 hx with hx | hx
              · exact HK.out.rng x hx
              · rw [List.mem_singleton.1 hx]; omega
    · by_cases h1 : k < l.length
      · by_cases h2 : (out.length : Int) < most
        · have h3 : ¬ 0 < below := fun h => hgo ⟨h1, h2, h⟩
          clear hgo
          go_wp2_with fail
          go_ret
          exact ⟨_, rfl, ⟨out, HO.out, HK.out⟩, HB.out⟩
        · clear hgo
          go_wp2_with fail
          go_ret
          exact ⟨_, rfl, ⟨out, HO.out, HK.out⟩, HB.out⟩
      · clear hgo
        go_wp2_with fail
        go_ret
        exact ⟨_, rfl, ⟨out, HO.out, HK.out⟩, HB.out⟩
end Go.Proofs.Ytiggohkkokalcaa
namespace Go.Proofs.Ytiggohkkokalcaa
open Go.RowKit Go.Proofs.YtiggohkkokalcaaW.PrintWords Go.Proofs.YtiggohkkokalcaaW.PrintMore
set_option linter.unusedVariables false
set_option linter.unusedSimpArgs false

structure Lst (w : World) (B c0 n : Nat) (v : Value) (vs : List Value) (R : List (List G)) : Prop where
  own : w.ownsRow B 33 1 v n vs
  lv : vs.length = n
  lr : R.length = n
  row : ∀ r, r < n → Vb w (fun k => k < c0) (vat vs r) (rat R r)
theorem Lst.nil (w : World) (B c0 : Nat) : Lst w B c0 0 (.slice none 0 0) [] [] := ⟨World.ownsRow_nil _ _ _ _, rfl, rfl, fun r hr => absurd hr (Nat.not_lt_zero _)⟩
section
variable {ops : Array Oper} {rest : List Oper} {o : Oper} {a : Act} {Q : Exit → Act → World → Prop}
theorem app_lst {w0 W : World} (B c0 n : Nat) (hgd : o.guard = none) (s x : Operand) (ho : o.op = .call { callee := .builtin .append, args := #[s, x], argTypes := #[30, 30] })
    (v u : Value) (vs : List Value) (R : List (List G)) (y : List G) (hs : a.eval s = v) (hx : a.eval x = .slice (some ⟨W.heap.size, 0, none⟩) 1 1) (HL : Lst W B c0 n v vs R) (HU : Vb W (fun k => k < c0) u y) (hc : c0 ≤ B)
    (HB : Below B w0 W) (hbase : B ≤ W.heap.size) (hl : n ≤ 70000)
    (h : ∀ v1 w1, Lst w1 B c0 (n + 1) v1 (vs ++ [u]) (R ++ [y]) → Below B w0 w1 → wpList Try.prog ops Q rest (a.put o.dst v1) w1) :
    wpList Try.prog ops Q (o :: rest) a (W.alloc (.cells #[u] 33)) := by
  have h1u : u.oneCell' = true := by
    obtain ⟨A, c, rfl, _⟩ := V_open HU
    rfl
  refine print_append_cells B hgd s x 30 33 (.slice none 0 0) 1 24 ho Try.underlying30 info33 rfl (by decide) (by omega) v n vs [u] hs hx rfl (fun z hz => by rw [List.mem_singleton] at hz; subst hz; exact h1u) HL.own HB hbase (by omega) ?_
  intro v1 w1 h1 h2 h3 h4
  have hlv := HL.lv
  have hlr := HL.lr
  have hne : ∀ k, k < c0 → some k ≠ v.ownBlock := fun k hk he => by
    have := (World.ownsRow.lt HL.own k he.symm).1
    omega
  refine h v1 w1 ⟨h1, by simp [hlv], by simp [hlr], fun r hr => ?_⟩ h2
  by_cases e : r = n
  · subst e
    have e1 : vat (vs ++ [u]) r = u := by rw [← hlv]; exact vat_last _ _
    have e2 : rat (R ++ [y]) r = y := by rw [← hlr]; exact rat_last _ _
    rw [e1, e2]
    exact Kd.V_grown HU h3 hne
  · rw [vat_snoc _ _ _ (by omega), rat_snoc _ _ _ (by omega)]
    exact Kd.V_grown (HL.row r (by omega)) h3 hne
end
/-- a row of the call's own that lies between the blocks a and b, its rows anywhere else -/
structure Grp (a b : Nat) (w : World) (n : Nat) (v : Value) (vs : List Value) (R : List (List G)) : Prop where
  own : w.ownsRow a 33 1 v n vs
  top : ∀ k, v.ownBlock = some k → k < b
  lv : vs.length = n
  lr : R.length = n
  row : ∀ r, r < n → Vb w (fun k => k < a ∨ b ≤ k) (vat vs r) (rat R r)
section
variable {a b n : Nat} {w w1 : World} {v : Value} {vs : List Value} {R : List (List G)}
theorem Lst.grp {B c0 : Nat} (h : Lst w B c0 n v vs R) (ha : c0 ≤ a) (hB : a ≤ B) (hb : w.heap.size ≤ b) : Grp a b w n v vs R :=
  ⟨own_less h.own hB, fun k hk => by have := (World.ownsRow.lt h.own k hk).2; omega, h.lv, h.lr, fun r hr => Kd.V_mono (h.row r hr) (fun k hk => .inl (by omega))⟩
theorem Grp.below (h : Grp a b w n v vs R) (hb : Below w.heap.size w w1) : Grp a b w1 n v vs R :=
  ⟨pw_own_below h.own hb, h.top, h.lv, h.lr, fun r hr => Kd.V_below (h.row r hr) hb⟩
theorem Grp.grown (h : Grp a b w n v vs R) {row : Option Nat} (hg : w.grownBy w1 row) (hne : v.ownBlock = none ∨ v.ownBlock ≠ row) (hrow : ∀ k, row = some k → a ≤ k ∧ k < b) : Grp a b w1 n v vs R :=
  ⟨World.ownsRow.kept h.own hg hne, h.top, h.lv, h.lr, fun r hr => Kd.V_grown (h.row r hr) hg (fun k hk he => by have := hrow k he.symm; omega)⟩
theorem Grp.form (h : Grp a b w n v vs R) (hn : 0 < n) : ∃ g cap, v = .slice (some ⟨g, 0, none⟩) n cap ∧ a ≤ g ∧ g < w.heap.size := World.ownsRow.form h.own hn
theorem Grp.slice (h : Grp a b w n v vs R) : ∃ A c, v = .slice A n c := own_slice h.own
theorem Grp.outs (h : Grp a b w n v vs R) : Outs w a n v vs R :=
  ⟨h.own, h.lv, h.lr, fun r hr => Kd.V_mono (h.row r hr) (fun k hk he => by
    have h1 := (World.ownsRow.lt h.own k he.symm).1
    have h2 := h.top k he.symm
    omega)⟩
theorem Grp.cell {g cap : Nat} (h : Grp a b w n (.slice (some ⟨g, 0, none⟩) n cap) vs R) (r : Nat) (hr : r < n) : w.cell? ⟨g, r, none⟩ = some (vat vs r) ∧ w.frozen? ⟨g, r, none⟩ = false := h.outs.cell r hr
theorem Grp.stored {g cap i : Nat} {u : Value} {x : List G} (h : Grp a b w n (.slice (some ⟨g, 0, none⟩) n cap) vs R) (hi : i < n) (hu : Vb w (fun k => k < a ∨ b ≤ k) u x) :
    Grp a b (w.setCell ⟨g, i, none⟩ u) n (.slice (some ⟨g, 0, none⟩) n cap) (vs.set i u) (R.set i x) ∧ w.grownBy (w.setCell ⟨g, i, none⟩ u) (some g) := by
  obtain ⟨o1, g1⟩ := h.own.stored i u
  have hlv := h.lv
  have hlr := h.lr
  have hne : ∀ k, (k < a ∨ b ≤ k) → some k ≠ some g := fun k hk he => by
    injection he with he
    have h1 := (World.ownsRow.lt h.own g rfl).1
    have h2 := h.top g rfl
    omega
  refine ⟨⟨o1, h.top, by rw [List.length_set]; exact hlv, by rw [List.length_set]; exact hlr, fun r hr => ?_⟩, g1⟩
  rw [vat_set _ _ _ _ (by omega), rat_set _ _ _ _ (by omega)]
  by_cases e : r = i
  · rw [if_pos e, if_pos e]; exact Kd.V_grown hu g1 hne
  · rw [if_neg e, if_neg e]; exact Kd.V_grown (h.row r hr) g1 hne
end

set_option maxRecDepth 100000 in
set_option maxHeartbeats 2000000 in
theorem withoutL_any (bss : List (List G)) (l : List Int) (first : Int) (vb vl : Value) (w : World) (c0 : Nat) (HV : Vbb w (fun q => q < c0) vb bss) (hc0 : c0 ≤ w.heap.size) (HL : Vi w (fun _ => True) vl l) (hl : bss.length ≤ 70000) (hf : 0 ≤ first ∧ first ≤ 65536) :
    Calls Try.prog 28 #[vb, vl, .int .i64 first] w fun e w' => ∃ u vs, e = .returned u ∧ Lst w' w.heap.size c0 bss.length u vs (withoutG bss l first) ∧ Below w.heap.size w w' := by
  obtain ⟨A, ca, rfl, hca, hma⟩ := V_open HV
  obtain ⟨B, cb, rfl, hcb, hmb⟩ := V_open HL
  have HHV := Lib.hid HV; have HHL := Lib.hid HL
  clear HV HL
  go_enter Try.func28, Try.ntmps28
  go_wp2_with fail
  go_loopw [7, 8] (fun u i wr => ∃ (k : Nat) (vs : List Value), i = .int .i64 k ∧ k ≤ bss.length ∧ Hid (Lst wr w.heap.size c0 k u vs (withoutTo bss l first k)) ∧ Hid (Below w.heap.size w wr)) (fun _ i _ => bss.length - (intOf i).toNat)
  case atStart => exact ⟨0, [], rfl, Nat.zero_le _, Lib.hid (Lst.nil _ _ _), Lib.hid (Below.refl _ _)⟩
  case round =>
    obtain ⟨k, vs, rfl, hk, HO, HB⟩ := hrel
    have hk7 : k ≤ 70000 := by omega
    by_cases hlt : k < bss.length
    · obtain ⟨ad, A1, c1, rfl, hcell, HV2, _⟩ := Vbb_row (Kd.V_below HHV.out HB.out) k hlt
      have hwr : (first + (k : Int)) ≤ 135536 := by omega
      have HWT := Lib.hid (withoutTo_succ bss l first k)
      have HWL := Lib.hid (withoutTo_length bss l first k)
      have HI := Kd.V_below HHL.out HB.out
      have HHI := Lib.hid HI
      have HHV2 := Lib.hid HV2
      clear HI HV2
      generalize bss.getD k [] = b at *
      go_wp2_with fail
      go_loop [9, 10] (fun x q => ∃ c : Nat, q = .int .i64 c ∧ c ≤ l.length ∧ x = .bool (inTo l (first + k) c)) (fun _ q => l.length - (intOf q).toNat)
      case atStart => exact ⟨0, rfl, Nat.zero_le _, rfl⟩
      case round =>
        obtain ⟨c, rfl, hc, rfl⟩ := hrel
        by_cases hlt2 : c < l.length
        · obtain ⟨ad2, rfl, hcell2, _⟩ := Vi_cell HHI.out c hlt2
          have HIS := Lib.hid (inTo_succ l (first + k) c hlt2)
          generalize l.getD c 0 = y at *
          cases hb : inTo l (first + k) c
          all_goals
            go_wp2_with fail
            refine ⟨⟨c + 1, by go_num, by omega, ?_⟩, by simp [intOf]; omega⟩
            rw [HIS.out, hb]
            first | rfl | (congr 1; simp [beq_eq_decide])
        · obtain rfl : c = l.length := by omega
          have hil : inL l (first + k) = inTo l (first + k) l.length := rfl
          rw [hil] at HWT
          cases hb : inTo l (first + k) l.length
          case true =>
            rw [hb, if_pos rfl] at HWT
            go_wp2_with ((with_reducible refine gate_builtin (b := .append) (xs := #[.tmp 35, .tmp 36]) rfl ?_); at_builtin; refine app_lst (w0 := w) w.heap.size c0 k rfl (.tmp 35) (.tmp 36) rfl _ (.slice none 0 0) vs (withoutTo bss l first k) [] rfl rfl HO.out (Kd.V_nil _ _ _ _ _) hc0 HB.out HB.out.size hk7 ?_; intro v3 w3 hN3 hB3)
            rw [← HWT.out] at hN3
            exact ⟨⟨k + 1, _, by go_num, by omega, Lib.hid hN3, Lib.hid hB3⟩, by simp [intOf]; omega⟩
          case false =>
            have hif : (if false = true then ([] : List G) else b) = b := if_neg (by decide)
            rw [hb, hif] at HWT
            clear hif
            go_wp2_with ((with_reducible refine gate_builtin (b := .append) (xs := #[.tmp 38, .tmp 43]) rfl ?_); at_builtin; refine app_lst (w0 := w) w.heap.size c0 k rfl (.tmp 38) (.tmp 43) rfl _ (.slice A1 b.length c1) vs (withoutTo bss l first k) b rfl rfl HO.out HHV2.out hc0 HB.out HB.out.size hk7 ?_; intro v3 w3 hN3 hB3)
            rw [← HWT.out] at hN3
            exact ⟨⟨k + 1, _, by go_num, by omega, Lib.hid hN3, Lib.hid hB3⟩, by simp [intOf]; omega⟩
    · obtain rfl : k = bss.length := by omega
      go_wp2_with fail
      go_ret
      exact ⟨_, vs, rfl, HO.out, HB.out⟩
end Go.Proofs.Ytiggohkkokalcaa
