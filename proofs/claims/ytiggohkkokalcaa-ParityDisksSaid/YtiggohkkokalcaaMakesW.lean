/- The walk of ParityMakes: it returns true. -/
import Derived.Test.YtiggohkkokalcaaGen
import Derived.Test.YtiggohkkokalcaaSame
import Derived.Test.YtiggohkkokalcaaRefMake
import Derived.Test.YtiggohkkokalcaaLives
namespace Go.Proofs.Ytiggohkkokalcaa
open Go.RowKit Go.Proofs.YtiggohkkokalcaaW.PrintWords Go.Proofs.YtiggohkkokalcaaW.PrintMore
set_option linter.unusedVariables false

/-- rows of rows of rows of bytes -/
def KGss : Kd (List (List G)) := Kd.slice 33 KGs
theorem FK_of_V {α : Type} {d : Kd α} {e base : Nat} (e' : Nat) {W : World} {ok : Nat → Prop} {v : Value} {xs : List α} (h : Kd.V d e W base ok v xs) : Kd.FK (Kd.slice e' d) W ok xs [v] := by
  obtain ⟨A, c, rfl, hc, hf⟩ := h
  exact Kd.FK_slice_mk hc hf
theorem V_four {W : World} {v1 v2 v3 v4 : Value} {l1 l2 l3 l4 : List (List G)} (h1 : Vbb W (fun _ => True) v1 l1) (h2 : Vbb W (fun _ => True) v2 l2) (h3 : Vbb W (fun _ => True) v3 l3) (h4 : Vbb W (fun _ => True) v4 l4) :
    Kd.V KGss 30 (W.alloc (.cells #[v1, v2, v3, v4] 30)) 0 (fun _ => True) (.slice (some ⟨W.heap.size, 0, none⟩) 4 4) [l1, l2, l3, l4] := by
  refine V_new (d := KGss) W 30 [v1, v2, v3, v4] [l1, l2, l3, l4] rfl rfl (by simp) (fun j x v hx hv => ?_)
  match j with
  | 0 =>
    simp only [List.getElem?_cons_zero, Option.some.injEq] at hx hv
    subst hx hv
    exact FK_of_V 33 h1
  | 1 =>
    simp only [List.getElem?_cons_succ, List.getElem?_cons_zero, Option.some.injEq] at hx hv
    subst hx hv
    exact FK_of_V 33 h2
  | 2 =>
    simp only [List.getElem?_cons_succ, List.getElem?_cons_zero, Option.some.injEq] at hx hv
    subst hx hv
    exact FK_of_V 33 h3
  | 3 =>
    simp only [List.getElem?_cons_succ, List.getElem?_cons_zero, Option.some.injEq] at hx hv
    subst hx hv
    exact FK_of_V 33 h4
  | j + 4 => simp at hx
theorem N_empty {α : Type} (d : Kd α) (e base : Nat) (W : World) (hb : base ≤ W.heap.size) : Kd.N d e (W.alloc (.cells #[] e)) base (fun _ => True) (.slice (some ⟨W.heap.size, 0, none⟩) 0 0) [] := by
  refine Kd.R_N ⟨fun _ _ => trivial, [], ?_, Reps.none _ _⟩
  have := World.ownsRow_lit (base := base) (e := e) (size := d.sz) W #[] 0 hb (by decide) (by simp)
  exact this

set_option maxRecDepth 100000 in
set_option maxHeartbeats 4000000 in
theorem makes_walk (xs : List Int) (v : Value) (n m : Int) (w : World) (HV : Vi w (fun _ => True) v xs) :
    Calls Try.prog 4 #[v, .int .i64 n, .int .i64 m] w fun e w' => e = .returned (.bool true) ∧ Below w.heap.size w w' := by
  obtain ⟨A, c, rfl, hc, hm⟩ := V_open HV
  have HHV := Lib.hid HV
  have hf4 := fewN_le m
  clear HV
  go_enter Try.func4, Try.ntmps4
  go_wp2_with fail
  refine (blocks_any xs _ w HHV.out).mono ?_
  rintro e w1 ⟨u, bss, rfl, hD, hS, hB⟩
  obtain ⟨Ad, cd, rfl, hcd, _⟩ := V_open hD
  have HD := Lib.hid hD
  have HB := Lib.hid hB
  have HS := Lib.hid hS
  clear hD hB hS HHV
  go_wp2_with fail
  refine (few_any m _).mono ?_
  rintro e w' ⟨rfl, rfl⟩
  go_wp2_with (first
    | ((with_reducible refine gate_dst (N := 23) rfl ?_); refine Kd.R_make KGs _ 33 rfl (N := 23) rfl 30 _ _ rfl (14 + (fewN m : Int)) rfl rfl Try.underlying30 (.slice none 0 0) 24 info33 rfl (by decide) (by omega) [] (ok := fun _ => True) (okp := fun _ => True) ⟨_, rfl, Kd.R_nil _ _ _ _ _⟩ (fun _ hk => hk) trivial (by omega) (by omega) (Below.refl _ _) (Nat.le_refl _) ?_; intro v2 w2 ho hb hg hnew; generalize List.replicate (14 + (fewN m : Int)).toNat ([] : List G) = ys at ho; obtain ⟨A2, c2, rfl, hc2, _⟩ := V_open (Kd.R_V (base' := 0) ho); have HB2 := Lib.hid (below_tr HB.out hb); have HM2 := Lib.hid (Kd.V_bound (Kd.R_V (base' := 0) ho)); have HD2 := Lib.hid (Kd.V_bound (Kd.V_below HD.out hb)); clear ho hb hg hnew)
    | ((with_reducible refine gate_builtin (b := .append) (xs := #[.tmp 24, .tmp 25]) rfl ?_); at_builtin; refine Kd.N_append_rows KGs (w0 := w) w.heap.size rfl (.tmp 24) (.tmp 25) 30 33 (.slice none 0 0) 24 rfl Try.underlying30 info33 rfl (by decide) (by omega) _ [] bss Ad bss.length cd (fun _ => True) (fun q => True ∧ q < w2.heap.size) rfl rfl (N_empty KGs 33 w.heap.size w2 HB2.out.size) (Kd.V_F (Kd.V_alloc HD2.out _)) (fun q hq => ⟨trivial, fun he => by injection he with he; have h2 := hq.2; change q = w2.heap.size at he; omega⟩) (fun _ _ => trivial) (below_alloc HB2.out _) (below_alloc HB2.out _).size (by have := HS.out.1; simp only [List.length_nil]; omega) ?_; intro v3 w3 hN3 hB3 hg hat))
  have hB23 : Below w2.heap.size w2 w3 := ((Below.refl _ w2).alloc (Nat.le_refl _) (.cells #[] 33)).grown hg (by rw [World.size_alloc]; omega) (fun k hk => by injection hk with hk; change w2.heap.size = k at hk; omega)
  have HM3 := Lib.hid (Kd.V_below HM2.out hB23)
  have HD3 := Lib.hid (Kd.V_below HD2.out hB23)
  have HB3 := Lib.hid hB3
  have HN3 := Lib.hid hN3
  have hv3 : ∀ k, v3.ownBlock = some k → w2.heap.size ≤ k := fun k hk => by
    rcases hat with h | ⟨b, h, h2⟩
    · rw [h] at hk; injection hk with hk; change w2.heap.size = k at hk; omega
    · rw [h] at hk; injection hk with hk; rw [World.size_alloc] at h2; omega
  have HV3 := Lib.hid hv3
  clear hv3 hB23 hB3 hN3 hg hat HM2 HD2 HB2 HD HB
  refine (few_any m _).mono ?_
  rintro e w' ⟨rfl, rfl⟩
  go_wp2_with (first
    | ((with_reducible refine gate_dst (N := 30) rfl ?_); refine Kd.R_make KG _ 5 rfl (N := 30) rfl 33 _ _ rfl (65534 + (fewN m : Int)) rfl rfl Try.underlying33 (.int .u8 0) 1 info5 rfl (by decide) (by omega) 0 (ok := fun _ => True) (okp := fun _ => True) rfl (fun _ hk => hk) trivial (by omega) (by omega) (Below.refl _ _) (Nat.le_refl _) ?_; intro v4 w4 ho hb hg hnew; generalize List.replicate (65534 + (fewN m : Int)).toNat (0 : G) = zs at ho; obtain ⟨A4, c4, rfl, hc4, _⟩ := V_open (Kd.R_V (base' := 0) ho); have HB4 := Lib.hid (below_tr HB3.out hb); have HM4 := Lib.hid (Kd.V_below HM3.out hb); have HD4 := Lib.hid (Kd.V_below HD3.out hb); have HN4 := Lib.hid (Kd.N_below HN3.out hb); have HR4 := Lib.hid (Kd.R_tight rfl ho); obtain ⟨b4, hb4, hb5⟩ := hnew; have HNE := Lib.hid (fun (q : Nat) (hq : some q = (Value.slice A4 zs.length c4).ownBlock) => (⟨trivial, fun he => by have h1 := Kd.N_lt HN3.out q he.symm; rw [hb4] at hq; injection hq with hq; omega⟩ : True ∧ some q ≠ v3.ownBlock)); clear ho hb hg hb4 hb5 HM3 HD3 HN3 HB3)
    | ((with_reducible refine gate_builtin (b := .append) (xs := #[.tmp 26, .tmp 31]) rfl ?_); at_builtin; refine Kd.N_append KGs (w0 := w) w.heap.size rfl (.tmp 26) (.tmp 31) 30 33 (.slice none 0 0) 24 rfl Try.underlying30 info33 rfl (by decide) (by omega) v3 ([] ++ bss) zs [.slice A4 zs.length c4] (fun _ => True) _ rfl rfl (Kd.FK_of_M ⟨_, rfl, HR4.out⟩) HNE.out (fun _ _ => trivial) HN4.out HB4.out HB4.out.size (by have := HS.out.1; simp only [List.nil_append]; omega) ?_; intro v5 w5 hN5 hB5 hg hat; generalize [] ++ bss ++ [zs] = hs at hN5; obtain ⟨A5, c5, rfl, hc5, _⟩ := V_open (Kd.N_V (base' := 0) hN5); have HB5 := Lib.hid hB5; have HN5 := Lib.hid (Kd.N_V (base' := 0) hN5); have HM5 := Lib.hid (Kd.V_mono (Kd.V_grown HM4.out hg (fun k hk he => by have := HV3.out k he.symm; have := hk.2; omega)) (fun _ _ => (trivial : True))); have HD5 := Lib.hid (Kd.V_mono (Kd.V_grown HD4.out hg (fun k hk he => by have := HV3.out k he.symm; have := hk.2; omega)) (fun _ _ => (trivial : True))); clear hN5 hB5 hg hat HM4 HD4 HN4 HR4 HNE HB4 HV3))
  have hALL := V_four HD5.out HM5.out HN5.out (Kd.V_nil KGs 33 w5 0 (fun _ => True))
  have hB6 := below_alloc HB5.out (.cells #[.slice Ad bss.length cd, .slice A2 ys.length c2, .slice A5 hs.length c5, .slice none 0 0] 30)
  clear HD5 HM5 HN5 HB5
  generalize w5.alloc (.cells #[.slice Ad bss.length cd, .slice A2 ys.length c2, .slice A5 hs.length c5, .slice none 0 0] 30) = W0 at *
  generalize (⟨w5.heap.size, 0, none⟩ : Addr) = ad0 at *
  generalize hLs : [bss, ys, hs, []] = Ls at hALL
  have hLn : Ls.length = 4 := by rw [← hLs]; rfl
  have HLN := Lib.hid hLn
  have HALL := Lib.hid hALL
  have HB6 := Lib.hid hB6
  clear hLs hLn hALL hB6
  go_loopw [11] (fun i wr => ∃ k : Nat, i = .int .i64 k ∧ k ≤ 4 ∧ Hid (Below W0.heap.size W0 wr)) (fun i _ => 4 - (intOf i).toNat)
  case atStart => exact ⟨0, rfl, Nat.zero_le _, Lib.hid (Below.refl _ _)⟩
  case round =>
    obtain ⟨i, rfl, hi, HBr⟩ := hrel
    by_cases hlt : i < 4
    · have hdi : decide ((i : Int) < 4) = true := by rw [decide_eq_true_iff]; omega
      go_wp2_with fail
      clear hdi
      go_loopw [12] (fun q wr => ∃ k : Nat, q = .int .i64 k ∧ k ≤ 2 ∧ Hid (Below W0.heap.size W0 wr)) (fun q _ => 2 - (intOf q).toNat)
      case atStart => exact ⟨0, rfl, Nat.zero_le _, HBr⟩
      case round =>
        clear HBr
        obtain ⟨q, rfl, hq, HBr⟩ := hrel
        by_cases hlq : q < 2
        · go_wp2_with fail
          refine (few_any n _).mono ?_
          rintro e w' ⟨rfl, rfl⟩
          have hB7 := below_alloc HBr.out (.cells #[.int .i64 n, .int .i64 (fewN n)] 3)
          obtain ⟨ad, Ai, ci, hade, hcell, hVi, _⟩ := V_rows (Kd.V_below HALL.out hB7) i (by rw [HLN.out]; exact hlt)
          injection hade with hade
          subst hade
          have HVi := Lib.hid hVi
          have HB7 := Lib.hid hB7
          have hmi := V_max hVi
          generalize Ls.getD i [] = ls at *
          clear hB7 hVi
          have hq01 : q = 0 ∨ q = 1 := by omega
          have hi2 : ((i : Int) == 2) = true ∨ ((i : Int) == 2) = false := by cases ((i : Int) == 2) <;> simp
          rcases hq01 with rfl | rfl <;> rcases hi2 with hi2 | hi2
          all_goals
            go_wp2_with (go_at_call 17; refine (few_any n _).mono ?_; rintro e w' ⟨rfl, rfl⟩)
            refine (make_any ls _ _ _ HVi.out).mono ?_
            rintro e wa ⟨va, rfl, hVa, hBa⟩
            obtain ⟨Aa, ca, rfl, hca, _⟩ := V_open hVa
            have hcell2 := pw_cell_below hBa hcell
            have HVa := Lib.hid (Kd.V_bound hVa)
            have HVi2 := Lib.hid (Kd.V_mono (Kd.V_below (Kd.V_bound HVi.out) hBa) (fun _ _ => (trivial : True)))
            have HBa := Lib.hid (below_tr HB7.out hBa)
            clear hVa hBa hcell
            go_wp2_with fail
            refine (refmake_any ls _ _ _ HVi2.out).mono ?_
            rintro e wb ⟨vb, rfl, hVb, hBb⟩
            obtain ⟨Ab, cb, rfl, hcb, _⟩ := V_open hVb
            have HVb := Lib.hid hVb
            have HVa2 := Lib.hid (Kd.V_mono (Kd.V_below HVa.out hBb) (fun _ _ => (trivial : True)))
            have HBb := Lib.hid (below_tr HBa.out hBb)
            clear hVb hBb hcell2
            go_wp2_with fail
            refine (same_any _ _ _ _ _ HVa2.out HVb.out).mono ?_
            rintro e wc ⟨rfl, nd, rfl⟩
            go_wp2_with fail
            go_roundw
            case rel => first | exact ⟨1, rfl, by decide, Lib.hid (below_drewN HBb.out _)⟩ | exact ⟨2, rfl, by decide, Lib.hid (below_drewN HBb.out _)⟩
            case measure => simp [intOf]
        · go_wp2_with fail
          refine ⟨⟨i + 1, by go_num, by omega, HBr⟩, by simp [intOf]; omega⟩
    · go_wp2_with fail
      refine (lives_any _).mono ?_
      rintro e w' ⟨rfl, hB⟩
      go_wp2_with fail
      go_ret
      exact ⟨rfl, below_tr (below_tr HB6.out HBr.out) hB⟩
end Go.Proofs.Ytiggohkkokalcaa
