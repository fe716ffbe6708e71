/- The walks of small functions of package slices at the types that parity uses, and of parity's closures. -/
import Derived.Test.YtiggohkkokalcaaGen
import Derived.Test.YtiggohkkokalcaaApart
import Derived.Deep.QuietTactic
import Derived.BigQuiet
import Derived.WalkSpells
import Derived.Test.YtiggohkkokalcaaMakesW
namespace Go.Proofs.Ytiggohkkokalcaa
open Go.RowKit Go.Proofs.YtiggohkkokalcaaW.PrintWords Go.Proofs.YtiggohkkokalcaaW.PrintMore
set_option linter.unusedVariables false
set_option linter.unusedSimpArgs false

theorem ret_bool {a b : Bool} (h : a = b) : Ending.returned (.bool a) = .returned (.bool b) := by rw [h]
/-- a size that is refused -/
def badSize (n : Int) : Bool := decide (n < 0 ∨ 65536 < n)
theorem check1_any (n : Int) (w : World) : Calls Try.prog 74 #[.int .i64 n] w fun e w' => e = .returned (.bool (badSize n)) ∧ w = w' := by
  by_cases h1 : n < 0
  · have hb := Lib.hid (show badSize n = true by unfold badSize; rw [decide_eq_true_iff]; exact .inl h1)
    go_enter Try.func74, Try.ntmps74
    go_wp2
    go_ret
    exact ⟨by rw [hb.out]; rfl, rfl⟩
  · by_cases h2 : 65536 < n
    · have hb := Lib.hid (show badSize n = true by unfold badSize; rw [decide_eq_true_iff]; exact .inr h2)
      go_enter Try.func74, Try.ntmps74
      go_wp2
      go_ret
      exact ⟨by rw [hb.out]; rfl, rfl⟩
    · have hb := Lib.hid (show badSize n = false by unfold badSize; rw [decide_eq_false_iff_not]; omega)
      go_enter Try.func74, Try.ntmps74
      go_wp2
      go_ret
      exact ⟨by rw [hb.out]; rfl, rfl⟩
theorem repair2_any (x : G) (w : World) : Calls Try.prog 54 #[.int .u8 (toI x)] w fun e w' => e = .returned (.bool (decide (x ≠ 0))) ∧ w = w' := by
  by_cases h : x = 0
  · have h1 : (toI x != 0) = false := by rw [bne_eq_false_iff_eq, toI_eq_zero]; exact h
    have hb := Lib.hid (show decide (x ≠ 0) = false by simp [h])
    clear h
    go_enter Try.func54, Try.ntmps54
    go_wp2
    go_ret
    exact ⟨by rw [hb.out]; rfl, rfl⟩
  · have h1 : (toI x != 0) = true := by rw [bne_iff_ne, Ne, toI_eq_zero]; exact h
    have hb := Lib.hid (show decide (x ≠ 0) = true from decide_eq_true h)
    clear h
    go_enter Try.func54, Try.ntmps54
    go_wp2
    go_ret
    exact ⟨by rw [hb.out]; rfl, rfl⟩
theorem callFunc74 (args : Array Value) (W : World) : (callFunc 74 args).run Try.prog W = .ok (.enter 74 args) W := by go_simp
theorem callFunc54 (args : Array Value) (W : World) : (callFunc 54 args).run Try.prog W = .ok (.enter 54 args) W := by go_simp
theorem callFunc75 (args : Array Value) (W : World) : (callFunc 75 args).run Try.prog W = .ok (.enter 75 args) W := by go_simp
theorem callFunc76 (args : Array Value) (W : World) : (callFunc 76 args).run Try.prog W = .ok (.enter 76 args) W := by go_simp
theorem callFunc51 (args : Array Value) (W : World) : (callFunc 51 args).run Try.prog W = .ok (.enter 51 args) W := by go_simp

set_option maxHeartbeats 1000000 in
theorem indexI_any (xs : List Int) (v : Value) (w : World) (HV : Vi w (fun _ => True) v xs) :
    Calls Try.prog 82 #[v, .func (.func 74) #[] #[]] w fun e w' => (∃ r : Int, e = .returned (.int .i64 r) ∧ (0 ≤ r ↔ xs.any badSize = true)) ∧ w = w' := by
  obtain ⟨A, c, rfl, hc, hm⟩ := V_open HV
  have HHV := Lib.hid HV
  clear HV
  go_enter Try.func82, Try.ntmps82
  go_wp2_with fail
  go_loop [8] (fun i => ∃ k : Nat, k ≤ xs.length ∧ i = .int .i64 k ∧ Hid (∀ j, j < k → badSize (xs.getD j 0) = false)) (fun i => xs.length - (intOf i).toNat)
  case atStart => exact ⟨0, Nat.zero_le _, rfl, Lib.hid (fun j hj => by omega)⟩
  case round =>
    obtain ⟨k, hk, rfl, HN⟩ := hrel
    by_cases hlt : k < xs.length
    · obtain ⟨ad, rfl, hcell, _⟩ := Vi_cell HHV.out k hlt
      generalize hx : xs.getD k 0 = x at *
      have HX := Lib.hid hx
      clear hx
      have hcf := callFunc74
      go_wp2_with fail
      refine (check1_any x _).mono ?_
      rintro e w' ⟨rfl, rfl⟩
      cases hb : badSize x
      · go_wp2_with fail
        refine ⟨⟨k + 1, by omega, by go_num, Lib.hid (fun j hj => ?_)⟩, by simp [intOf]; omega⟩
        by_cases e : j = k
        · subst e; rw [HX.out]; exact hb
        · exact HN.out j (by omega)
      · go_wp2_with fail
        go_ret
        refine ⟨⟨k, rfl, ?_⟩, rfl⟩
        constructor
        · intro _
          rw [List.any_eq_true]
          refine ⟨x, ?_, hb⟩
          rw [← HX.out, List.getD_eq_getElem?_getD, List.getElem?_eq_getElem hlt]
          exact List.getElem_mem hlt
        · intro _; omega
    · obtain rfl : k = xs.length := by omega
      go_wp2_with fail
      go_ret
      refine ⟨⟨-1, rfl, ?_⟩, rfl⟩
      constructor
      · intro h; omega
      · intro h
        obtain ⟨x, hx, hb⟩ := List.any_eq_true.1 (by simpa using h)
        obtain ⟨j, hj, rfl⟩ := List.getElem_of_mem hx
        have := HN.out j hj
        rw [List.getD_eq_getElem?_getD, List.getElem?_eq_getElem hj] at this
        rw [Option.getD_some] at this
        rw [this] at hb
        exact absurd hb (by decide)

set_option maxHeartbeats 1000000 in
theorem containsI_any (xs : List Int) (v : Value) (w : World) (HV : Vi w (fun _ => True) v xs) :
    Calls Try.prog 73 #[v, .func (.func 74) #[] #[]] w fun e w' => e = .returned (.bool (xs.any badSize)) ∧ w = w' := by
  have H := Lib.hid (indexI_any xs v w HV)
  obtain ⟨A, c, rfl, hc, hm⟩ := V_open HV
  clear HV
  go_enter Try.func73, Try.ntmps73
  go_wp2_with fail
  refine H.out.mono ?_
  rintro e w' ⟨⟨r, rfl, hr⟩, rfl⟩
  have HR := Lib.hid hr
  clear hr
  go_wp2_with fail
  go_ret
  exact ⟨ret_bool (by rw [Bool.eq_iff_iff, decide_eq_true_iff]; exact HR.out), rfl⟩

set_option maxHeartbeats 1000000 in
theorem indexB_any (bs : List G) (v : Value) (w : World) (ok : Nat → Prop) (HV : Vb w ok v bs) :
    Calls Try.prog 77 #[v, .func (.func 54) #[] #[]] w fun e w' => (∃ r : Int, e = .returned (.int .i64 r) ∧ (0 ≤ r ↔ ∃ j, j < bs.length ∧ bs.getD j 0 ≠ 0)) ∧ w = w' := by
  obtain ⟨A, c, rfl, hc, hm⟩ := V_open HV
  have HHV := Lib.hid HV
  clear HV
  go_enter Try.func77, Try.ntmps77
  go_wp2_with fail
  go_loop [8] (fun i => ∃ k : Nat, k ≤ bs.length ∧ i = .int .i64 k ∧ Hid (∀ j, j < k → bs.getD j 0 = 0)) (fun i => bs.length - (intOf i).toNat)
  case atStart => exact ⟨0, Nat.zero_le _, rfl, Lib.hid (fun j hj => by omega)⟩
  case round =>
    obtain ⟨k, hk, rfl, HN⟩ := hrel
    by_cases hlt : k < bs.length
    · obtain ⟨ad, rfl, hcell, _⟩ := Vb_cell HHV.out k hlt
      generalize hx : bs.getD k 0 = x at *
      have HX := Lib.hid hx
      clear hx
      have hcf := callFunc54
      go_wp2_with fail
      refine (repair2_any x _).mono ?_
      rintro e w' ⟨rfl, rfl⟩
      by_cases hb : x = 0
      · have hd : decide (x ≠ 0) = false := by simp [hb]
        have HBB := Lib.hid hb
        clear hb
        rw [hd]
        clear hd
        go_wp2_with fail
        refine ⟨⟨k + 1, by omega, by go_num, Lib.hid (fun j hj => ?_)⟩, by simp [intOf]; omega⟩
        by_cases e : j = k
        · subst e; rw [HX.out]; exact HBB.out
        · exact HN.out j (by omega)
      · have hd : decide (x ≠ 0) = true := decide_eq_true hb
        have HBB := Lib.hid hb
        clear hb
        rw [hd]
        clear hd
        go_wp2_with fail
        go_ret
        exact ⟨⟨k, rfl, fun _ => ⟨k, hlt, by rw [HX.out]; exact HBB.out⟩, fun _ => by omega⟩, rfl⟩
    · obtain rfl : k = bs.length := by omega
      go_wp2_with fail
      go_ret
      exact ⟨⟨-1, rfl, fun h => by omega, fun ⟨j, hj, hb⟩ => absurd (HN.out j hj) hb⟩, rfl⟩
/-- is there a byte that is not 0? -/
def notZero (bs : List G) : Bool := bs.any fun x => decide (x ≠ 0)
theorem notZero_iff (bs : List G) : notZero bs = true ↔ ∃ j, j < bs.length ∧ bs.getD j 0 ≠ 0 := by
  unfold notZero
  rw [List.any_eq_true]
  constructor
  · rintro ⟨x, hx, hb⟩
    obtain ⟨j, hj, rfl⟩ := List.getElem_of_mem hx
    refine ⟨j, hj, ?_⟩
    rw [List.getD_eq_getElem?_getD, List.getElem?_eq_getElem hj]
    exact of_decide_eq_true hb
  · rintro ⟨j, hj, hb⟩
    rw [List.getD_eq_getElem?_getD, List.getElem?_eq_getElem hj] at hb
    exact ⟨_, List.getElem_mem hj, decide_eq_true hb⟩
set_option maxHeartbeats 1000000 in
theorem containsB_any (bs : List G) (v : Value) (w : World) (ok : Nat → Prop) (HV : Vb w ok v bs) :
    Calls Try.prog 53 #[v, .func (.func 54) #[] #[]] w fun e w' => e = .returned (.bool (notZero bs)) ∧ w = w' := by
  have H := Lib.hid (indexB_any bs v w ok HV)
  obtain ⟨A, c, rfl, hc, hm⟩ := V_open HV
  clear HV
  go_enter Try.func53, Try.ntmps53
  go_wp2_with fail
  refine H.out.mono ?_
  rintro e w' ⟨⟨r, rfl, hr⟩, rfl⟩
  rw [← notZero_iff] at hr
  have HR := Lib.hid hr
  clear hr
  go_wp2_with fail
  go_ret
  exact ⟨ret_bool (by rw [Bool.eq_iff_iff, decide_eq_true_iff]; exact HR.out), rfl⟩

/-- func(int) byte { return by }: by's cell at cp -/
theorem solve2_any (i : Int) (b : G) (cp : Addr) (w : World) (hc : w.cell? cp = some (.int .u8 (toI b))) :
    Calls Try.prog 76 #[.int .i64 i, .pointer (some cp)] w fun e w' => e = .returned (.int .u8 (toI b)) ∧ Below w.heap.size w w' := by
  go_enter Try.func76, Try.ntmps76
  go_wp2
  go_ret
  exact ⟨rfl, Below.refl _ _⟩

theorem own_of_N {W : World} {B : Nat} {ok : Nat → Prop} {v : Value} {bs : List G} (h : Kd.N KG 5 W B ok v bs) : OwnB W B v bs := by
  obtain ⟨h0, rows, hl, hR, hf⟩ := h
  obtain ⟨_, inner, ho, hr⟩ := hR
  have hil : inner.length = bs.length := by rw [hr.1, hl]; show bs.length * 1 = _; omega
  have he : inner = encs encG bs := by
    apply List.ext_getElem (by rw [hil, encs_length])
    intro j h1 h2
    have hj : j < rows.length := by omega
    have hjb : j < bs.length := by omega
    have hk := Kd.FK_now (hf j _ _ (List.getElem?_eq_getElem hjb) (List.getElem?_eq_getElem hj))
    have hk' : rows[j] = [encG bs[j]] := hk
    have h3 := (hr.2 j _ (List.getElem?_eq_getElem hj)).1
    have h4 : (inner.drop (j * 1)).take 1 = [encG bs[j]] := by rw [← hk']; exact h3
    rw [Nat.mul_one, List.take_one, List.head?_drop, List.getElem?_eq_getElem h1] at h4
    simp only [Option.toList_some, List.cons.injEq, and_true] at h4
    rw [h4]; simp [encs]
  rw [he, hl] at ho
  exact ho
set_option maxHeartbeats 1000000 in
theorem clone_any (bs : List G) (v : Value) (w : World) (ok : Nat → Prop) (HV : Vb w ok v bs) (hl : bs.length ≤ 70000) :
    Calls Try.prog 50 #[v] w fun e w' => ∃ u, e = .returned u ∧ OwnB w' w.heap.size u bs ∧ Below w.heap.size w w' := by
  obtain ⟨A, c, rfl, hc, hm⟩ := V_open HV
  have HHV := Lib.hid (Kd.V_bound HV)
  clear HV
  rcases A with _ | ad
  · have h0 : bs = [] := by
      rcases Nat.eq_zero_or_pos bs.length with h | h
      · exact List.eq_nil_of_length_eq_zero h
      · obtain ⟨ad, he, _⟩ := Vb_cell HHV.out 0 h
        cases he
    subst h0
    have hq := fun W => Lib.run_eql_slice_nil (P := Try.prog) W 33 5 none 0 c 0 0 Try.underlying33
    go_enter Try.func50, Try.ntmps50
    go_wp2_with fail
    go_ret
    exact ⟨_, rfl, World.ownsRow_nil _ _ _ _, Below.refl _ _⟩
  · have hq := fun W => Lib.run_eql_slice_nil (P := Try.prog) W 33 5 (some ad) bs.length c 0 0 Try.underlying33
    go_enter Try.func50, Try.ntmps50
    go_wp2_with ((with_reducible refine gate_builtin (b := .append) (xs := #[.tmp 5, .tmp 6]) rfl ?_); at_builtin; refine Kd.N_append_rows KG (w0 := w) w.heap.size rfl (.tmp 5) (.tmp 6) 33 5 (.int .u8 0) 1 rfl Try.underlying33 info5 rfl (by decide) (by omega) _ [] bs (some ad) bs.length c (fun _ => True) (fun q => ok q ∧ q < w.heap.size) rfl rfl (N_empty KG 5 w.heap.size w (Nat.le_refl _)) (Kd.V_F (Kd.V_alloc HHV.out _)) (fun q hq => ⟨trivial, fun he => by injection he with he; have h2 := hq.2; change q = w.heap.size at he; omega⟩) (fun _ _ => trivial) (below_alloc (Below.refl _ _) _) (below_alloc (Below.refl _ _) _).size (by simp only [List.length_nil]; omega) ?_; intro v3 w3 hN3 hB3 hg hat)
    go_ret
    exact ⟨_, rfl, own_of_N hN3, hB3⟩
end Go.Proofs.Ytiggohkkokalcaa
