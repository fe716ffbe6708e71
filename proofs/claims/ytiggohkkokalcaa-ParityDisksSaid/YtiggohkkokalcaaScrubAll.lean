/- The walk of slices.Concat at rows of bytes. The walk of package parity's Hashes. The walk of package parity's Scrub. -/
import Derived.Test.YtiggohkkokalcaaMakesW
import Derived.Test.YtiggohkkokalcaaSmall
import Derived.Test.YtiggohkkokalcaaHashAll
import Derived.Shelf.Spec.SlicesGrow
/-! The walk of slices.Concat at rows of bytes. -/
namespace Go.Proofs.Ytiggohkkokalcaa
open Go.RowKit Go.Shelf Go.Proofs.YtiggohkkokalcaaW.PrintWords Go.Proofs.YtiggohkkokalcaaW.PrintMore
set_option linter.unusedVariables false
set_option linter.unusedSimpArgs false
def growBB_ren : Go.Shelf.Ren := ⟨fun | 4 => 67 | n => n, fun | 22 => 30 | 25 => 33 | 3 => 3 | 4 => 4 | 9 => 9 | 20 => 20 | 0 => 0 | n => n, fun | n => n⟩
theorem growBB : Go.Proofs.Lays8.n4 Try.prog growBB_ren := {
  mixed := by kernel_rfl
  f4 := ⟨Try.f67.name, by decide, Try.func67.trans (congrArg some (by kernel_rfl))⟩
  t0 := Try.underlying0
  a0 := Try.isAgg0
  z0 := Try.sizeOf0
  v0 := Try.zeroValue0
  t3 := Try.underlying3
  a3 := Try.isAgg3
  z3 := Try.sizeOf3
  v3 := Try.zeroValue3
  t4 := Try.underlying4
  a4 := Try.isAgg4
  z4 := Try.sizeOf4
  v4 := Try.zeroValue4
  t9 := Try.underlying9
  a9 := Try.isAgg9
  z9 := Try.sizeOf9
  v9 := Try.zeroValue9
  t20 := Try.underlying20
  a20 := Try.isAgg20
  z20 := Try.sizeOf20
  v20 := Try.zeroValue20
  t22 := Try.underlying30
  a22 := Try.isAgg30
  z22 := Try.sizeOf30
  v22 := Try.zeroValue30 }
theorem Boxed_new_row (w : World) (o : Obj) : (w.alloc o).heap[w.heap.size]? = some o := by
  show (w.heap.push o)[w.heap.size]? = some o
  simp
theorem grow_any (n : Nat) (hn : n ≤ 100) (w : World) : Calls Try.prog 67 #[.slice none 0 0, .int .i64 n] w fun e w' => ∃ v, e = .returned v ∧ Kd.N KGs 33 w' w.heap.size (fun _ => True) v [] ∧ Below w.heap.size w w' := by
  by_cases h0 : n = 0
  · subst h0
    refine (Any8.slices_Grow_room growBB none 0 0 0 w (by omega) (by omega) (by omega) (by omega)).mono ?_
    rintro e w' ⟨rfl, rfl⟩
    exact ⟨_, rfl, Kd.N_nil _ _ _ _ _, Below.refl _ _⟩
  · obtain ⟨i0, hi, hz0, hz1, hz2⟩ := info_parts info33
    refine (Any8.slices_Grow_grow growBB i0 (.slice none 0 0) hi hz0 (by rw [hz1]; decide) none 0 0 n [] w (by omega) (by omega) (by rw [hz2]; omega) (by omega) (by simp) (fun _ => rfl) (fun a h => by cases h)).mono ?_
    rintro e w' ⟨rfl, rfl⟩
    have hz : ∀ k, (Builtin.zeroCells (Value.slice none 0 0).cells k).size = k := fun k => by simp [Builtin.zeroCells, Value.cells]
    have hg := grownCap_ge w (0 + n) 0 33
    have hm := grownCap_le_maxLen w (0 + n) 0 33 (Nat.le_trans (m := 100) (by omega) (by decide))
    refine ⟨_, rfl, Kd.R_N ⟨fun _ _ => trivial, [], ⟨rfl, .inr ⟨w.heap.size, grownCap w (0 + n) 0 33, #[] ++ Builtin.zeroCells (Value.slice none 0 0).cells (0 + n - 0) ++ Builtin.zeroCells (Value.slice none 0 0).cells (grownCap w (0 + n) 0 33 - (0 + n)), rfl, Nat.le_refl _, ?_, Nat.zero_le _, hm, ?_, rfl⟩⟩, Reps.none _ _⟩, below_alloc (below_drew (Below.refl _ _)) _⟩
    · exact Boxed_new_row w.drew _
    · rw [Array.size_append, Array.size_append, hz, hz]
      show 0 + _ + _ = grownCap w (0 + n) 0 33 * 1
      omega

set_option maxRecDepth 100000 in
set_option maxHeartbeats 4000000 in
theorem concat_any (ds ps : List (List G)) (A1 A2 : Option Addr) (c1 c2 g : Nat) (h1 : ds.length ≤ 40) (h2 : ps.length ≤ 40) (w : World) (HD : Vbb w (fun _ => True) (.slice A1 ds.length c1) ds) (HP : Vbb w (fun _ => True) (.slice A2 ps.length c2) ps)
    (hg1 : w.cell? ⟨g, 0, none⟩ = some (.slice A1 ds.length c1)) (hg2 : w.cell? ⟨g, 1, none⟩ = some (.slice A2 ps.length c2)) (hgl : g < w.heap.size) :
    Calls Try.prog 45 #[.slice (some ⟨g, 0, none⟩) 2 2] w fun e w' => ∃ v, e = .returned v ∧ Kd.N KGs 33 w' w.heap.size (fun _ => True) v (ds ++ ps) ∧ Below w.heap.size w w' := by
  have HHD := Lib.hid (Kd.V_bound HD)
  have HHP := Lib.hid (Kd.V_bound HP)
  clear HD HP
  have HG := Lib.hid (grow_any (ds.length + ps.length) (by omega) w)
  have HI := Lib.hid info33
  go_enter Try.func45, Try.ntmps45
  go_wp2_with fail
  go_loop [3, 11] (fun t i => (i = .int .i64 0 ∧ t = .int .i64 0) ∨ (i = .int .i64 1 ∧ t = .int .i64 (ds.length : Nat)) ∨ (i = .int .i64 2 ∧ t = .int .i64 ((ds.length + ps.length : Nat) : Int))) (fun _ i => 2 - (intOf i).toNat)
  case atStart => exact .inl ⟨rfl, rfl⟩
  case round =>
    rcases hrel with ⟨rfl, rfl⟩ | ⟨rfl, rfl⟩ | ⟨rfl, rfl⟩
    · have hn : ¬ ((ds.length : Int) < 0) := by omega
      go_wp2_with fail
      exact ⟨.inr (.inl ⟨rfl, rfl⟩), by simp [intOf]⟩
    · have hn : ¬ ((ds.length : Int) + (ps.length : Int) < 0) := by omega
      go_wp2_with fail
      exact ⟨.inr (.inr ⟨rfl, congrArg (Value.int .i64) (Int.natCast_add _ _).symm⟩), by simp [intOf]⟩
    · go_wp2_with (go_at_call 67; refine HG.out.mono ?_; rintro e w' ⟨v6, rfl, hN, hB⟩)
      have HNN := Lib.hid hN
      have HBB := Lib.hid hB
      clear hN hB HG
      go_loopw [6, 27] (fun v i wr => ((i = .int .i64 0 ∧ Hid (Kd.N KGs 33 wr w.heap.size (fun _ => True) v [])) ∨ (i = .int .i64 1 ∧ Hid (Kd.N KGs 33 wr w.heap.size (fun _ => True) v ds)) ∨ (i = .int .i64 2 ∧ Hid (Kd.N KGs 33 wr w.heap.size (fun _ => True) v (ds ++ ps)))) ∧ Hid (Below w.heap.size w wr)) (fun _ i _ => 2 - (intOf i).toNat)
      case atStart => exact ⟨.inl ⟨rfl, HNN⟩, HBB⟩
      case round =>
        obtain ⟨hr, HB⟩ := hrel
        have hg1' := (HB.out.cell (p := ⟨g, 0, none⟩) hgl).trans hg1
        have hg2' := (HB.out.cell (p := ⟨g, 1, none⟩) hgl).trans hg2
        rcases hr with ⟨rfl, HN⟩ | ⟨rfl, HN⟩ | ⟨rfl, HN⟩
        · go_wp2_with ((with_reducible refine gate_builtin (b := .append) (xs := #[.tmp 31, .tmp 32]) rfl ?_); at_builtin; refine Kd.N_append_rows KGs (w0 := w) w.heap.size rfl (.tmp 31) (.tmp 32) 30 33 (.slice none 0 0) 24 rfl Try.underlying30 info33 rfl (by decide) (by omega) _ [] ds A1 ds.length c1 (fun _ => True) (fun q => True ∧ q < w.heap.size) rfl rfl HN.out (Kd.V_F (lowX HHD.out HB.out)) (fun q hq => ⟨trivial, fun he => by have h3 := Kd.N_base HN.out q he.symm; have h4 := hq.2; omega⟩) (fun _ _ => trivial) HB.out HB.out.size (by simp only [List.length_nil]; omega) ?_; intro v1 w1 hN1 hB1 hg1 hat)
          exact ⟨⟨.inr (.inl ⟨rfl, Lib.hid hN1⟩), Lib.hid hB1⟩, by simp [intOf]⟩
        · go_wp2_with ((with_reducible refine gate_builtin (b := .append) (xs := #[.tmp 31, .tmp 32]) rfl ?_); at_builtin; refine Kd.N_append_rows KGs (w0 := w) w.heap.size rfl (.tmp 31) (.tmp 32) 30 33 (.slice none 0 0) 24 rfl Try.underlying30 info33 rfl (by decide) (by omega) _ ds ps A2 ps.length c2 (fun _ => True) (fun q => True ∧ q < w.heap.size) rfl rfl HN.out (Kd.V_F (lowX HHP.out HB.out)) (fun q hq => ⟨trivial, fun he => by have h3 := Kd.N_base HN.out q he.symm; have h4 := hq.2; omega⟩) (fun _ _ => trivial) HB.out HB.out.size (by omega) ?_; intro v1 w1 hN1 hB1 hg1 hat)
          exact ⟨⟨.inr (.inr ⟨rfl, Lib.hid hN1⟩), Lib.hid hB1⟩, by simp [intOf]⟩
        · go_wp2_with fail
          go_ret
          exact ⟨_, rfl, HN.out, HB.out⟩
end Go.Proofs.Ytiggohkkokalcaa

/-! The walk of package parity's Hashes. -/
namespace Go.Proofs.Ytiggohkkokalcaa
open Go.RowKit Go.Shelf Go.Proofs.YtiggohkkokalcaaW.PrintWords Go.Proofs.YtiggohkkokalcaaW.PrintMore
set_option linter.unusedVariables false
set_option linter.unusedSimpArgs false

def encN (a : Nat) : Value := .int .u64 (a : Int)
def OwnU (w : World) (base : Nat) (v : Value) (xs : List Nat) : Prop := w.ownsRow base 40 1 v xs.length (encs encN xs)
theorem OwnU.nil (w : World) (base : Nat) : OwnU w base (.slice none 0 0) [] := World.ownsRow_nil _ _ _ _
theorem OwnU.below {w w1 : World} {base : Nat} {v : Value} {bs : List Nat} (h : OwnU w base v bs) (hb : Below w.heap.size w w1) : OwnU w1 base v bs := pw_own_below h hb
theorem OwnU.lower {w : World} {B B' : Nat} {v : Value} {xs : List Nat} (h : OwnU w B v xs) (hb : B' ≤ B) : OwnU w B' v xs := by
  obtain ⟨h0, h | ⟨g, cap, cur, h1, h2, h3⟩⟩ := h
  · exact ⟨h0, .inl h⟩
  · exact ⟨h0, .inr ⟨g, cap, cur, h1, Nat.le_trans hb h2, h3⟩⟩
theorem OwnU.V {w : World} {base : Nat} {v : Value} {xs : List Nat} (h : OwnU w base v xs) : Kd.V (Kd.scalar encN (fun _ => rfl)) 40 w 0 (fun k => some k = v.ownBlock) v xs := Kd.R_V (Kd.R_of_own (enc := encN) (h1 := fun _ => rfl) h (fun _ hk => hk.symm))
section
variable {ops : Array Oper} {rest : List Oper} {o : Oper} {a : Act} {Q : Exit → Act → World → Prop}
theorem info40 : (Try.prog.info? 40).map (fun i => (i.zero, i.size, i.bytes)) = some (some (.int .u64 0), 1, 8) := by kernel_rfl
/-- append(v, x): a uint64, to a row of the call's own -/
theorem app_u64 {w0 W : World} (B : Nat) (hgd : o.guard = none) (s x : Operand) (ho : o.op = .call { callee := .builtin .append, args := #[s, x], argTypes := #[41, 41] })
    (v : Value) (xs : List Nat) (g : Nat) (hs : a.eval s = v) (hx : a.eval x = .slice (some ⟨W.heap.size, 0, none⟩) 1 1) (HO : OwnU W B v xs)
    (HB : Below B w0 W) (hbase : B ≤ W.heap.size) (hl : xs.length ≤ 70000)
    (h : ∀ v1 w1, OwnU w1 B v1 (xs ++ [g]) → Below B w0 w1 → W.grownBy w1 v.ownBlock → (v1.ownBlock = v.ownBlock ∨ ∃ b, v1.ownBlock = some b ∧ W.heap.size ≤ b) → wpList Try.prog ops Q rest (a.put o.dst v1) w1) :
    wpList Try.prog ops Q (o :: rest) a (W.alloc (.cells #[.int .u64 (g : Int)] 40)) := by
  refine print_append_cells B hgd s x 41 40 (.int .u64 0) 1 8 ho Try.underlying41 info40 rfl (by decide) (by omega) v xs.length (encs encN xs) [.int .u64 (g : Int)] hs hx rfl (fun u hu => by rw [List.mem_singleton] at hu; subst hu; rfl) HO HB hbase (by omega) ?_
  intro v1 w1 h1 h2 h3 h4
  refine h v1 w1 ?_ h2 h3 h4
  unfold OwnU
  rw [List.length_append, encs, List.map_append]
  exact h1
end
/-- the hashes of the first k rows -/
def hashTo (bss : List (List G)) (k : Nat) : List Nat := (bss.take k).map hashG
theorem hashTo_zero (bss : List (List G)) : hashTo bss 0 = [] := rfl
theorem hashTo_succ (bss : List (List G)) (k : Nat) (h : k < bss.length) : hashTo bss (k + 1) = hashTo bss k ++ [hashG (rat bss k)] := by
  unfold hashTo rat
  rw [List.take_succ_eq_append_getElem h, List.map_append, List.getD_eq_getElem?_getD, List.getElem?_eq_getElem h]
  rfl
theorem hashTo_length (bss : List (List G)) (k : Nat) (h : k ≤ bss.length) : (hashTo bss k).length = k := by
  unfold hashTo
  rw [List.length_map, List.length_take]
  omega
theorem hashTo_all (bss : List (List G)) : hashTo bss bss.length = bss.map hashG := by unfold hashTo; rw [List.take_length]

set_option maxRecDepth 100000 in
set_option maxHeartbeats 4000000 in
theorem hashes_any (ds ps : List (List G)) (A1 A2 : Option Addr) (c1 c2 : Nat) (h1 : ds.length ≤ 40) (h2 : ps.length ≤ 40) (hb : ∀ b ∈ ds ++ ps, b.length ≤ 70000) (w : World) (HD : Vbb w (fun _ => True) (.slice A1 ds.length c1) ds) (HP : Vbb w (fun _ => True) (.slice A2 ps.length c2) ps) :
    Calls Try.prog 21 #[.slice A1 ds.length c1, .slice A2 ps.length c2] w fun e w' => ∃ v, e = .returned v ∧ OwnU w' w.heap.size v (hashesG ds ps) ∧ Below w.heap.size w w' := by
  have HC : Hid (Calls Try.prog 45 #[.slice (some ⟨w.heap.size, 0, none⟩) 2 2] (w.alloc (.cells #[.slice A1 ds.length c1, .slice A2 ps.length c2] 30)) fun e w' => ∃ v, e = .returned v ∧ Kd.N KGs 33 w' (w.alloc (.cells #[.slice A1 ds.length c1, .slice A2 ps.length c2] 30)).heap.size (fun _ => True) v (ds ++ ps) ∧ Below (w.alloc (.cells #[.slice A1 ds.length c1, .slice A2 ps.length c2] 30)).heap.size (w.alloc (.cells #[.slice A1 ds.length c1, .slice A2 ps.length c2] 30)) w') :=
    Lib.hid (concat_any ds ps A1 A2 c1 c2 w.heap.size h1 h2 _ (Kd.V_alloc HD _) (Kd.V_alloc HP _) (by simp) (by simp) (by simp))
  have HH : Hid (hashesG ds ps = hashTo (ds ++ ps) (ds ++ ps).length) := Lib.hid (hashTo_all _).symm
  have hcl : (ds ++ ps).length ≤ 80 := by rw [List.length_append]; omega
  have HL := Lib.hid (fun k h => hashTo_length (ds ++ ps) k h)
  have HS := Lib.hid (fun k h => hashTo_succ (ds ++ ps) k h)
  have HBL : Hid (∀ k, k < (ds ++ ps).length → (rat (ds ++ ps) k).length ≤ 70000) := Lib.hid (fun k h => hb _ (by unfold rat; rw [List.getD_eq_getElem?_getD, List.getElem?_eq_getElem h]; exact List.getElem_mem h))
  clear HD HP hb
  generalize hashesG ds ps = target at *
  generalize ds ++ ps = bss at *
  go_enter Try.func21, Try.ntmps21
  go_wp2_with (go_at_call 45; refine HC.out.mono ?_; rintro e w1 ⟨v, rfl, hN, hB⟩; obtain ⟨A, c, rfl, hc, hm⟩ := V_open (Kd.N_V (base' := 0) hN))
  have HV1 := Lib.hid (Kd.V_bound (Kd.N_V (base' := 0) hN))
  have HB1 : Hid (Below w.heap.size w w1) := Lib.hid ((below_alloc (Below.refl _ _) _).trans (hB.mono (by simp)))
  have hB1s := HB1.out.size
  clear hN hB HC
  go_loopw [5, 13] (fun v5 i wr => ∃ k : Nat, i = .int .i64 k ∧ k ≤ bss.length ∧ Hid (OwnU wr w1.heap.size v5 (hashTo bss k)) ∧ Hid (Below w1.heap.size w1 wr)) (fun _ i _ => bss.length - (intOf i).toNat)
  case atStart => exact ⟨0, rfl, Nat.zero_le _, Lib.hid (OwnU.nil _ _), Lib.hid (Below.refl _ _)⟩
  case round =>
    obtain ⟨k, rfl, hk, HO, HB⟩ := hrel
    by_cases hlt : k < bss.length
    · obtain ⟨ad, A3, c3, rfl, hcell, HR, _⟩ := Vbb_row (lowX HV1.out HB.out) k hlt
      have HHS := Lib.hid (HS.out k hlt)
      have HHL := Lib.hid (HL.out k hk)
      have hbl := HBL.out k hlt
      have HH1 := Lib.hid (hash_any (rat bss k) A3 c3 hbl wr (Kd.V_mono HR (fun _ _ => trivial)))
      unfold rat at hbl HH1 HHS
      clear HR
      generalize bss.getD k [] = b at *
      generalize hashG b = hk1 at *
      go_wp2_with (first | (go_at_call 23; refine HH1.out.mono ?_; rintro e w2 ⟨rfl, hBS⟩; have HO2 := Lib.hid (HO.out.below hBS); have HB2 := Lib.hid (HB.out.trans (hBS.mono HB.out.size))) | ((with_reducible refine gate_builtin (b := .append) (xs := #[.tmp 17, .tmp 20]) rfl ?_); at_builtin; refine app_u64 (w0 := w1) w1.heap.size rfl (.tmp 17) (.tmp 20) rfl _ (hashTo bss k) hk1 rfl rfl HO2.out HB2.out HB2.out.size (by rw [HHL.out]; omega) ?_; intro v3 w3 hO3 hB3 hg3 hat3))
      exact ⟨⟨k + 1, by go_num, by omega, Lib.hid (by rw [HHS.out]; exact hO3), Lib.hid hB3⟩, by simp [intOf]; omega⟩
    · obtain rfl : k = bss.length := by omega
      rw [← HH.out] at HO
      go_wp2_with fail
      go_ret
      exact ⟨_, rfl, OwnU.lower HO.out hB1s, HB1.out.trans (HB.out.mono hB1s)⟩
end Go.Proofs.Ytiggohkkokalcaa

/-! The walk of package parity's Scrub. -/
namespace Go.Proofs.Ytiggohkkokalcaa
open Go.RowKit Go.Shelf Go.Proofs.YtiggohkkokalcaaW.PrintWords Go.Proofs.YtiggohkkokalcaaW.PrintMore
set_option linter.unusedVariables false
set_option linter.unusedSimpArgs false

abbrev KU : Kd Nat := Kd.scalar encN (fun _ => rfl)
/-- the places below k at which the hashes differ -/
def badTo (h w : List Nat) : Nat → List Int
  | 0 => []
  | k + 1 => if h.getD k 0 = w.getD k 0 then badTo h w k else badTo h w k ++ [(k : Int)]
theorem badTo_le (h w : List Nat) (k : Nat) : (badTo h w k).length ≤ k := by
  induction k with
  | zero => exact Nat.le_refl _
  | succ k ih =>
    unfold badTo
    split
    · omega
    · rw [List.length_append, List.length_singleton]
      omega
def scrubL (h w : List Nat) : List Int := if h.length = w.length then badTo h w h.length else []
def scrubE (h w : List Nat) : Int := if h.length = w.length then 0 else 1
theorem OwnI.lower {w : World} {B B' : Nat} {v : Value} {xs : List Int} (h : OwnI w B v xs) (hb : B' ≤ B) : OwnI w B' v xs := by
  obtain ⟨h0, h | ⟨g, cap, cur, h1, h2, h3⟩⟩ := h
  · exact ⟨h0, .inl h⟩
  · exact ⟨h0, .inr ⟨g, cap, cur, h1, Nat.le_trans hb h2, h3⟩⟩
theorem hashesG_le (ds ps : List (List G)) (h1 : ds.length ≤ 40) (h2 : ps.length ≤ 40) : (hashesG ds ps).length ≤ 80 := by
  unfold hashesG
  rw [List.length_map, List.length_append]
  omega

set_option maxRecDepth 100000 in
set_option maxHeartbeats 4000000 in
theorem scrub_any (ds ps : List (List G)) (want : List Nat) (A1 A2 A3 : Option Addr) (c1 c2 c3 : Nat) (h1 : ds.length ≤ 40) (h2 : ps.length ≤ 40) (hb : ∀ b ∈ ds ++ ps, b.length ≤ 70000) (w : World) (HD : Vbb w (fun _ => True) (.slice A1 ds.length c1) ds) (HP : Vbb w (fun _ => True) (.slice A2 ps.length c2) ps) (HW : Kd.V KU 40 w 0 (fun _ => True) (.slice A3 want.length c3) want) :
    Calls Try.prog 24 #[.slice A1 ds.length c1, .slice A2 ps.length c2, .slice A3 want.length c3] w fun e w' => ∃ v, e = .returned (.tuple #[v, .int .i64 (scrubE (hashesG ds ps) want)]) ∧ OwnI w' w.heap.size v (scrubL (hashesG ds ps) want) ∧ Below w.heap.size w w' := by
  have HC := Lib.hid (hashes_any ds ps A1 A2 c1 c2 h1 h2 hb w HD HP)
  have HWB := Lib.hid (Kd.V_bound HW)
  have hl := hashesG_le ds ps h1 h2
  clear HD HP HW hb
  generalize hashesG ds ps = h at *
  have HE : Hid (scrubE h want = if h.length = want.length then 0 else 1) := Lib.hid rfl
  have HL : Hid (scrubL h want = if h.length = want.length then badTo h want h.length else []) := Lib.hid rfl
  go_enter Try.func24, Try.ntmps24
  by_cases hlw : h.length = want.length
  · have hlb : ((h.length : Int) != (want.length : Int)) = false := by rw [bne_eq_false_iff_eq]; omega
    go_wp2_with (go_at_call 21; refine HC.out.mono ?_; rintro e w1 ⟨v, rfl, hO, hB⟩; obtain ⟨A, c, rfl, hc, hm⟩ := V_open hO.V)
    have HV1 := Lib.hid (Kd.V_bound (Kd.V_mono (ok' := fun _ => True) hO.V (fun _ _ => trivial)))
    have HB1 := Lib.hid hB
    have hB1s := hB.size
    clear hO hB HC
    go_loopw [9, 22] (fun v9 i wr => ∃ k : Nat, i = .int .i64 k ∧ k ≤ h.length ∧ Hid (OwnI wr w1.heap.size v9 (badTo h want k)) ∧ Hid (Below w1.heap.size w1 wr)) (fun _ i _ => h.length - (intOf i).toNat)
    case atStart => exact ⟨0, rfl, Nat.zero_le _, Lib.hid (OwnI.nil _ _), Lib.hid (Below.refl _ _)⟩
    case round =>
      obtain ⟨k, rfl, hk, HO, HB⟩ := hrel
      by_cases hlt : k < h.length
      · have hlt2 : k < want.length := by omega
        have HBW : Hid (Below w.heap.size w wr) := Lib.hid (HB1.out.trans (HB.out.mono hB1s))
        obtain ⟨ad, rfl, hcell, _⟩ := V_scalar (lowX HV1.out HB.out) 0 k hlt
        obtain ⟨ad2, rfl, hcell2, _⟩ := V_scalar (lowX HWB.out HBW.out) 0 k hlt2
        have HBT : Hid (badTo h want (k + 1) = if h.getD k 0 = want.getD k 0 then badTo h want k else badTo h want k ++ [(k : Int)]) := Lib.hid rfl
        have hbl := badTo_le h want k
        unfold encN at hcell hcell2
        generalize h.getD k 0 = x at *
        generalize want.getD k 0 = y at *
        by_cases hxy : x = y
        · subst hxy
          have hne : ((x : Int) != (x : Int)) = false := by rw [bne_eq_false_iff_eq]
          go_wp2_with fail
          exact ⟨⟨k + 1, by go_num, by omega, Lib.hid (by rw [HBT.out, if_pos rfl]; exact HO.out), HB⟩, by simp [intOf]; omega⟩
        · have hne : ((x : Int) != (y : Int)) = true := by rw [bne_iff_ne]; omega
          go_wp2_with ((with_reducible refine gate_builtin (b := .append) (xs := #[.tmp 33, .tmp 35]) rfl ?_); at_builtin; refine app_int (w0 := w1) w1.heap.size rfl (.tmp 33) (.tmp 35) rfl _ (badTo h want k) k rfl rfl HO.out HB.out HB.out.size (by omega) ?_; intro v3 w3 hO3 hB3 hg3 hat3)
          exact ⟨⟨k + 1, by go_num, by omega, Lib.hid (by rw [HBT.out, if_neg hxy]; exact hO3), Lib.hid hB3⟩, by simp [intOf]; omega⟩
      · obtain rfl : k = h.length := by omega
        go_wp2_with fail
        go_ret2
        exact ⟨_, by rw [HE.out, if_pos hlw]; rfl, by rw [HL.out, if_pos hlw]; exact OwnI.lower HO.out hB1s, HB1.out.trans (HB.out.mono hB1s)⟩
  · have hlb : ((h.length : Int) != (want.length : Int)) = true := by rw [bne_iff_ne]; omega
    go_wp2_with (go_at_call 21; refine HC.out.mono ?_; rintro e w1 ⟨v, rfl, hO, hB⟩; obtain ⟨A, c, rfl, hc, hm⟩ := V_open hO.V)
    go_ret2
    exact ⟨_, by rw [HE.out, if_neg hlw]; rfl, by rw [HL.out, if_neg hlw]; exact OwnI.nil _ _, hB⟩
end Go.Proofs.Ytiggohkkokalcaa
