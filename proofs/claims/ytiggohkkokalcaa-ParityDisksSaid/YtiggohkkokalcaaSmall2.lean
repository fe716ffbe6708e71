/- The walks of slices.Equal at bytes, and of the closure that scales a row. -/
import Derived.Test.YtiggohkkokalcaaSmall
import Derived.Test.YtiggohkkokalcaaLinPlain
namespace Go.Proofs.Ytiggohkkokalcaa
open Go.RowKit Go.Proofs.YtiggohkkokalcaaW.PrintWords Go.Proofs.YtiggohkkokalcaaW.PrintMore
set_option linter.unusedVariables false
set_option linter.unusedSimpArgs false

set_option maxRecDepth 100000 in
set_option maxHeartbeats 1000000 in
theorem equal_any (a b : List G) (va vb : Value) (w : World) (oka okb : Nat → Prop) (HA : Vb w oka va a) (HB : Vb w okb vb b) :
    Calls Try.prog 55 #[va, vb] w fun e w' => e = .returned (.bool (decide (a = b))) ∧ ∃ n, w' = w.drewN n := by
  obtain ⟨A, ca, rfl, hca, hma⟩ := V_open HA
  obtain ⟨B, cb, rfl, hcb, hmb⟩ := V_open HB
  have HHA := Lib.hid HA
  have HHB := Lib.hid HB
  clear HA HB
  by_cases hl : a.length = b.length
  · have hlb : ((a.length : Int) != (b.length : Int)) = false := by rw [bne_eq_false_iff_eq]; omega
    have hlb4 : (a.length != b.length) = false := by rw [bne_eq_false_iff_eq]; omega
    have HL := Lib.hid hl
    clear hl
    go_enter Try.func55, Try.ntmps55
    go_wp2_with fail
    go_loopw [13] (fun i wr => ∃ k m : Nat, i = .int .i64 k ∧ k ≤ a.length ∧ wr = w.drewN m ∧ Hid (∀ j, j < k → a.getD j 0 = b.getD j 0)) (fun i _ => a.length - (intOf i).toNat)
    case atStart => exact ⟨0, 0, rfl, Nat.zero_le _, rfl, Lib.hid (fun j hj => by omega)⟩
    case round =>
      clear hlb hlb4
      obtain ⟨k, m, rfl, hk, rfl, HE⟩ := hrel
      by_cases hlt : k < a.length
      · have hltb : k < b.length := by have := HL.out; omega
        obtain ⟨ad, rfl, hc1, _⟩ := Vb_cell HHA.out k hlt
        obtain ⟨bd, rfl, hc2, _⟩ := Vb_cell HHB.out k hltb
        generalize hx : a.getD k 0 = x at *
        generalize hy : b.getD k 0 = y at *
        have HX := Lib.hid hx
        have HY := Lib.hid hy
        clear hx hy
        by_cases he : x = y
        · have hb2 : (toI x != toI y) = false := by rw [bne_eq_false_iff_eq, he]
          have HH := Lib.hid he
          clear he
          go_wp2_with fail
          go_quiet (fail)
          go_wp2_with fail
          refine ⟨⟨k + 1, m + nq, by go_num, by omega, rfl, Lib.hid (fun j hj => ?_)⟩, by simp [intOf]; omega⟩
          by_cases e : j = k
          · subst e; rw [HX.out, HY.out, HH.out]
          · exact HE.out j (by omega)
        · have hb2 : (toI x != toI y) = true := by rw [bne_iff_ne]; exact fun h => he (toI_inj h)
          have HH := Lib.hid he
          clear he
          go_wp2_with fail
          go_quiet (fail)
          go_wp2_with fail
          go_ret
          have hf : decide (a = b) = false := by rw [decide_eq_false_iff_not]; intro h; exact HH.out (by rw [← HX.out, ← HY.out, h])
          exact ⟨by rw [hf]; rfl, _, World.drewN_drewN _ _ _⟩
      · obtain rfl : k = a.length := by omega
        go_wp2_with fail
        go_ret
        have hf : decide (a = b) = true := by
          rw [decide_eq_true_iff]
          exact list_ext_getD 0 HL.out HE.out
        exact ⟨by rw [hf]; rfl, m, rfl⟩
  · have hlb : ((a.length : Int) != (b.length : Int)) = true := by rw [bne_iff_ne]; omega
    have hlb3 : (a.length != b.length) = true := by rw [bne_iff_ne]; exact hl
    have hf : decide (a = b) = false := by rw [decide_eq_false_iff_not]; intro h; exact hl (by rw [h])
    have HF := Lib.hid hf
    clear hl hf
    go_enter Try.func55, Try.ntmps55
    go_wp2_with fail
    go_ret
    exact ⟨by rw [HF.out]; rfl, 0, rfl⟩

/-- a row times c, behind k places -/
def scaleTo (c : G) (bs : List G) (k : Nat) : List G := (List.range bs.length).map fun p => if p < k then gm c (bs.getD p 0) else bs.getD p 0
def scaleG (c : G) (bs : List G) : List G := bs.map (gm c)
theorem scaleTo_length (c : G) (bs : List G) (k : Nat) : (scaleTo c bs k).length = bs.length := by simp [scaleTo]
theorem scaleTo_getD (c : G) (bs : List G) (k p : Nat) (hp : p < bs.length) : (scaleTo c bs k).getD p 0 = if p < k then gm c (bs.getD p 0) else bs.getD p 0 := by
  simp [scaleTo, hp]
theorem scaleG_length (c : G) (bs : List G) : (scaleG c bs).length = bs.length := by simp [scaleG]
theorem scaleG_getD (c : G) (bs : List G) (p : Nat) : (scaleG c bs).getD p 0 = gm c (bs.getD p 0) := by
  by_cases h : p < bs.length
  · simp [scaleG, h]
  · rw [getD_over _ _ _ (by rw [scaleG_length]; omega), getD_over _ _ _ (by omega), gm_zero]
theorem scaleTo_start (c : G) (bs : List G) : scaleTo c bs 0 = bs := by
  apply list_ext_getD 0 (scaleTo_length _ _ _)
  intro p hp
  rw [scaleTo_getD _ _ _ _ (by rwa [scaleTo_length] at hp), if_neg (by omega)]
theorem scaleTo_end (c : G) (bs : List G) : scaleTo c bs bs.length = scaleG c bs := by
  apply list_ext_getD 0 (by rw [scaleTo_length, scaleG_length])
  intro p hp
  rw [scaleTo_length] at hp
  rw [scaleTo_getD _ _ _ _ hp, if_pos hp, scaleG_getD]
theorem scaleTo_set (c : G) (bs : List G) (k : Nat) (hk : k < bs.length) : (scaleTo c bs k).set k (gm c ((scaleTo c bs k).getD k 0)) = scaleTo c bs (k + 1) := by
  apply list_ext_getD 0 (by rw [List.length_set, scaleTo_length, scaleTo_length])
  intro p hp
  rw [List.length_set, scaleTo_length] at hp
  rw [scaleTo_getD c bs (k + 1) p hp, List.getD_eq_getElem?_getD, List.getElem?_set]
  by_cases h : k = p
  · subst h
    rw [if_pos rfl, if_pos (by rw [scaleTo_length]; exact hp), Option.getD_some, scaleTo_getD _ _ _ _ hp, if_neg (by omega), if_pos (by omega)]
  · rw [if_neg h, ← List.getD_eq_getElem?_getD, scaleTo_getD _ _ _ _ hp]
    by_cases h2 : p < k
    · rw [if_pos h2, if_pos (by omega)]
    · rw [if_neg h2, if_neg (by omega)]

set_option maxRecDepth 100000 in
set_option maxHeartbeats 1000000 in
/-- func(b []byte) { for k := range b { b[k] = Mul(c, b[k]) } }: c's cell at cp -/
theorem scale_any (bs : List G) (v : Value) (c : G) (cp : Addr) (w : World) (HO : OwnB w 0 v bs) (hc : w.cell? cp = some (.int .u8 (toI c))) (hne : some cp.block ≠ v.ownBlock) :
    Calls Try.prog 75 #[v, .pointer (some cp)] w fun e w' => e = .returned (.tuple #[]) ∧ w.grownBy w' v.ownBlock ∧ OwnB w' 0 v (scaleG c bs) := by
  obtain ⟨A, ca, rfl, hca, hma⟩ := V_open HO.V
  have HHO := Lib.hid HO
  have HC := Lib.hid (And.intro hc hne)
  clear HO hc hne
  go_enter Try.func75, Try.ntmps75
  go_wp2_with fail
  go_loopw [6] (fun i wr => ∃ k : Nat, i = .int .i64 k ∧ k ≤ bs.length ∧ Hid (w.grownBy wr (Value.slice A bs.length ca).ownBlock) ∧ Hid (OwnB wr 0 (.slice A bs.length ca) (scaleTo c bs k))) (fun i _ => bs.length - (intOf i).toNat)
  case atStart => exact ⟨0, rfl, Nat.zero_le _, Lib.hid (grown_refl _ _), Lib.hid (by rw [scaleTo_start]; exact HHO.out)⟩
  case round =>
    obtain ⟨k, rfl, hk, HG, HM⟩ := hrel
    by_cases hlt : k < bs.length
    · have hcc := HG.out.cell HC.out.1 HC.out.2
      have hS := scaleTo_set c bs k hlt
      have hsl := scaleTo_length c bs k
      obtain ⟨g, cap, he, _, hgl⟩ := HM.out.form (by omega)
      rw [hsl] at he
      injection he with he1 _ he2
      subst he1 he2
      obtain ⟨h3, hf3⟩ := HM.out.at_ k (by omega)
      have hne := HC.out.2
      have hcl := World.block_lt_of_cell? wr cp hcc
      have HS := Lib.hid hS
      clear hS hsl hne
      generalize (scaleTo c bs k).getD k 0 = x at *
      go_wp2_with fail
      go_region_with (go_at_call 11; refine (mul_any _ _ _).mono ?_; rintro e w2 ⟨rfl, hB⟩; have HB2 := Lib.hid hB; obtain ⟨hc, hf⟩ := bcell hB; (try simp only [World.size_drew] at hc hf); clear hB)
      all_goals go_wp2_with fail
      all_goals
        have h1 := (HM.out.drew.below HB2.out).set_ k (gm c x)
        refine ⟨⟨k + 1, by go_num, by omega, Lib.hid (grown_tr (grown_tr (grown_drew HG.out) (grown_of_below HB2.out _)) h1.2), Lib.hid ?_⟩, by simp [intOf]; omega⟩
        rw [← HS.out]
        exact h1.1
    · obtain rfl : k = bs.length := by omega
      go_wp2_with fail
      go_end0
      exact ⟨rfl, HG.out, by have := HM.out; rwa [scaleTo_end] at this⟩
end Go.Proofs.Ytiggohkkokalcaa
