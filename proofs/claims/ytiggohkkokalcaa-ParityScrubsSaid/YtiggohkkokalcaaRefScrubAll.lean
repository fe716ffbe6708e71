/- The walk of the reference's Words. The walk of the reference's Sum. The walk of the reference's Bytes. The walk of the reference's Hashes. The walk of the reference's Scrub. -/
import Derived.Test.YtiggohkkokalcaaScrubAll
/-! The walk of the reference's Words. -/
namespace Go.Proofs.Ytiggohkkokalcaa
open Go.RowKit Go.Shelf Go.Proofs.YtiggohkkokalcaaW.PrintWords Go.Proofs.YtiggohkkokalcaaW.PrintMore
set_option linter.unusedVariables false
set_option linter.unusedSimpArgs false
attribute [local go_sem] min2_int min_two

theorem refword_val (bs : List G) (q e : Nat) (h : q < e) (he : e ≤ bs.length) (h8 : e ≤ q + 8) :
    IntKind.u64.wrap (IntKind.u64.wrap (256 * ((leN (piece bs (q + 1) e) : Nat) : Int)) + IntKind.u64.wrap (toI (bs.getD q 0))) = ((leN (piece bs q e) : Nat) : Int) := by
  have hp : piece bs q e = bs.getD q 0 :: piece bs (q + 1) e := piece_cons bs q e h he
  have hl := leN_lt (piece bs (q + 1) e)
  rw [piece_length bs (q + 1) e (by omega) he] at hl
  have hle : leN (piece bs q e) = (bs.getD q 0).toNat + 256 * leN (piece bs (q + 1) e) := by rw [hp]; rfl
  rw [hle]
  generalize leN (piece bs (q + 1) e) = x at *
  generalize bs.getD q 0 = y at *
  have hy := y.isLt
  have hx : x < 256 ^ 7 := Nat.lt_of_lt_of_le hl (Nat.pow_le_pow_right (by decide) (by omega))
  have e7 : (256 : Nat) ^ 7 = 72057594037927936 := by decide
  rw [e7] at hx
  have ew : ∀ n : Int, IntKind.u64.wrap n = n % 18446744073709551616 := fun n => rfl
  have et : toI y = ((y.toNat : Nat) : Int) := rfl
  rw [et, ew, ew, ew]
  omega

set_option maxRecDepth 100000 in
set_option maxHeartbeats 4000000 in
theorem refwords_any (bs : List G) (A : Option Addr) (c : Nat) (hlen : bs.length ≤ 70000) (w : World) (HX : Vb w (fun _ => True) (.slice A bs.length c) bs) :
    Calls Try.prog 68 #[.slice A bs.length c] w fun e w' => ∃ v, e = .returned v ∧ OwnU w' w.heap.size v (wordsN bs) ∧ Below w.heap.size w w' := by
  have HXB := Lib.hid (Kd.V_bound HX)
  clear HX
  have HWN : Hid (wordsN bs = wordsTo bs ((bs.length + 7) / 8)) := Lib.hid rfl
  go_enter Try.func68, Try.ntmps68
  go_wp2_with fail
  go_loopw [3, 4] (fun v3 i wr => ∃ m : Nat, i = .int .i64 ((8 * m : Nat) : Int) ∧ m ≤ (bs.length + 7) / 8 ∧ Hid (OwnU wr w.heap.size v3 (wordsTo bs m)) ∧ Hid (Below w.heap.size w wr)) (fun _ i _ => bs.length + 8 - (intOf i).toNat)
  case atStart => exact ⟨0, rfl, Nat.zero_le _, Lib.hid (OwnU.nil _ _), Lib.hid (Below.refl _ _)⟩
  case round =>
    obtain ⟨m, rfl, hm, HO, HB⟩ := hrel
    by_cases hlt : 8 * m < bs.length
    · have HWS : Hid (wordsTo bs (m + 1) = wordsTo bs m ++ [wordN bs (8 * m)]) := Lib.hid (wordsTo_succ bs m)
      have hwl := wordsTo_length bs m
      have hmm : m + 1 ≤ (bs.length + 7) / 8 := by omega
      have HWD : Hid (wordN bs (8 * m) = leN (piece bs (8 * m) (min (8 * m + 8) bs.length))) := Lib.hid rfl
      have HI := Lib.hid (show 8 * m + 8 = 8 * (m + 1) by omega)
      generalize hi : 8 * m = i at *
      generalize he : min (i + 8) bs.length = e at *
      have he1 : e ≤ bs.length := by omega
      have he2 : i < e := by omega
      have he3 : e ≤ i + 8 := by omega
      have HS0 := Lib.hid (show leN (piece bs e e) = 0 by rw [piece_self]; rfl)
      by_cases h8 : i + 8 ≤ bs.length
      case pos =>
        have he4 : e = i + 8 := by omega
        have HE4 := Lib.hid he4
        have h8i : (i : Int) + 8 ≤ (bs.length : Int) := by omega
        clear he
        go_wp2_with fail
        go_loop [5, 6] (fun v j => ∃ q : Nat, j = .int .i64 ((q : Int) - 1) ∧ i ≤ q ∧ q ≤ e ∧ v = .int .u64 ((leN (piece bs q e) : Nat) : Int)) (fun _ j => (intOf j + 1 - (i : Int)).toNat)
        case atStart => exact ⟨e, congrArg (Value.int .i64) (by have := HE4.out; omega), by omega, Nat.le_refl _, by rw [HS0.out]; rfl⟩
        case round =>
          obtain ⟨q, rfl, hq1, hq2, rfl⟩ := hrel
          by_cases hqi : i < q
          · obtain ⟨p, rfl⟩ : ∃ p, q = p + 1 := ⟨q - 1, by omega⟩
            rw [show ((p + 1 : Nat) : Int) - 1 = (p : Int) by omega]
            have hge : (i : Int) ≤ (p : Int) := by omega
            obtain ⟨ad, rfl, hcell, _⟩ := Vb_cell (lowX HXB.out HB.out) p (by omega)
            have HWV := Lib.hid (refword_val bs p e (by omega) he1 (by omega))
            generalize hr : leN (piece bs p e) = r at *
            have HR := Lib.hid hr
            clear hr
            generalize bs.getD p 0 = y at *
            generalize leN (piece bs (p + 1) e) = x at *
            go_wp2_with fail
            exact ⟨⟨p, rfl, by omega, by omega, by rw [HR.out]; exact congrArg (Value.int .u64) HWV.out⟩, by simp [intOf]; omega⟩
          · obtain rfl : q = i := by omega
            have hnq : ¬ ((q : Int) ≤ (q : Int) - 1) := by omega
            rw [← HWD.out]
            generalize wordN bs q = x at *
            go_wp2_with ((with_reducible refine gate_builtin (b := .append) (xs := #[.tmp 32, .tmp 34]) rfl ?_); at_builtin; refine app_u64 (w0 := w) w.heap.size rfl (.tmp 32) (.tmp 34) rfl _ (wordsTo bs m) x rfl rfl HO.out HB.out HB.out.size (by omega) ?_; intro v3 w3 hO3 hB3 hg3 hat3)
            exact ⟨⟨m + 1, congrArg (Value.int .i64) (by have := HI.out; omega), hmm, Lib.hid (by rw [HWS.out]; exact hO3), Lib.hid hB3⟩, by simp [intOf]; omega⟩
      case neg =>
        have he4 : e = bs.length := by omega
        have HE4 := Lib.hid he4
        have h8i : ¬ (i : Int) + 8 ≤ (bs.length : Int) := by omega
        clear he
        go_wp2_with fail
        go_loop [5, 6] (fun v j => ∃ q : Nat, j = .int .i64 ((q : Int) - 1) ∧ i ≤ q ∧ q ≤ e ∧ v = .int .u64 ((leN (piece bs q e) : Nat) : Int)) (fun _ j => (intOf j + 1 - (i : Int)).toNat)
        case atStart => exact ⟨e, congrArg (Value.int .i64) (by have := HE4.out; omega), by omega, Nat.le_refl _, by rw [HS0.out]; rfl⟩
        case round =>
          obtain ⟨q, rfl, hq1, hq2, rfl⟩ := hrel
          by_cases hqi : i < q
          · obtain ⟨p, rfl⟩ : ∃ p, q = p + 1 := ⟨q - 1, by omega⟩
            rw [show ((p + 1 : Nat) : Int) - 1 = (p : Int) by omega]
            have hge : (i : Int) ≤ (p : Int) := by omega
            obtain ⟨ad, rfl, hcell, _⟩ := Vb_cell (lowX HXB.out HB.out) p (by omega)
            have HWV := Lib.hid (refword_val bs p e (by omega) he1 (by omega))
            generalize hr : leN (piece bs p e) = r at *
            have HR := Lib.hid hr
            clear hr
            generalize bs.getD p 0 = y at *
            generalize leN (piece bs (p + 1) e) = x at *
            go_wp2_with fail
            exact ⟨⟨p, rfl, by omega, by omega, by rw [HR.out]; exact congrArg (Value.int .u64) HWV.out⟩, by simp [intOf]; omega⟩
          · obtain rfl : q = i := by omega
            have hnq : ¬ ((q : Int) ≤ (q : Int) - 1) := by omega
            rw [← HWD.out]
            generalize wordN bs q = x at *
            go_wp2_with ((with_reducible refine gate_builtin (b := .append) (xs := #[.tmp 32, .tmp 34]) rfl ?_); at_builtin; refine app_u64 (w0 := w) w.heap.size rfl (.tmp 32) (.tmp 34) rfl _ (wordsTo bs m) x rfl rfl HO.out HB.out HB.out.size (by omega) ?_; intro v3 w3 hO3 hB3 hg3 hat3)
            exact ⟨⟨m + 1, congrArg (Value.int .i64) (by have := HI.out; omega), hmm, Lib.hid (by rw [HWS.out]; exact hO3), Lib.hid hB3⟩, by simp [intOf]; omega⟩
    · obtain rfl : m = (bs.length + 7) / 8 := by omega
      rw [← HWN.out] at HO
      go_wp2_with fail
      go_ret
      exact ⟨_, rfl, HO.out, HB.out⟩
end Go.Proofs.Ytiggohkkokalcaa

/-! The walk of the reference's Sum. -/
namespace Go.Proofs.Ytiggohkkokalcaa
open Go.RowKit Go.Shelf Go.Proofs.YtiggohkkokalcaaW.PrintWords Go.Proofs.YtiggohkkokalcaaW.PrintMore
set_option linter.unusedVariables false
set_option linter.unusedSimpArgs false

theorem bytesW_V (W : World) (s : ByteArray) (hs : s.size ≤ 70000) : Vb (Lib.bytesWorld W 5 s) (fun _ => True) (.slice (some ⟨W.heap.size, 0, none⟩) (sG s).length (grownCap W s.size 0 5)) (sG s) := by
  have hl := sG_length s
  refine V_of_cells (d := KG) (e := 5) (base := 0) (c := grownCap W s.size 0 5) (W := Lib.bytesWorld W 5 s) (ok := fun _ => True) (ad := ⟨W.heap.size, 0, none⟩) (xs := sG s) (by rw [hl]; exact grownCap_ge _ _ _ _) (by omega) trivial (fun j x hx => ?_)
  have hj : j < s.size := by have := (List.getElem?_eq_some_iff.1 hx).1; omega
  refine ⟨[encG x], rfl, fun _ _ => rfl, fun i u hu => ?_⟩
  match i with
  | 0 =>
    simp only [List.getElem?_cons_zero, Option.some.injEq] at hu
    subst hu
    have e : ((⟨W.heap.size, 0, none⟩ : Addr).add (j * KG.sz + 0)) = ⟨W.heap.size, j, none⟩ := by rw [add_plain]; show (⟨W.heap.size, j * 1 + 0, none⟩ : Addr) = _; simp
    rw [e, Lib.bytesWorld_cell W 5 s j hj]
    unfold sG at hx
    rw [List.getElem?_map] at hx
    obtain ⟨b, hb, rfl⟩ := Option.map_eq_some_iff.1 hx
    rw [List.getD_eq_getElem?_getD, hb]
    rfl
  | i + 1 => simp at hu
theorem fold_takeN (s : Nat) (l : List Nat) : foldN s (l.take 0) = s := by rw [List.take_zero]; rfl
theorem fold_takeS (s : Nat) (l : List Nat) (k : Nat) (h : k < l.length) : foldN s (l.take (k + 1)) = mixN (foldN s (l.take k)) (l.getD k 0) := by
  rw [List.take_succ_eq_append_getElem h, foldN_snoc, List.getD_eq_getElem?_getD, List.getElem?_eq_getElem h]
  rfl

theorem wordsN_lt (bs : List G) (k : Nat) (h : k < (wordsN bs).length) : (wordsN bs).getD k 0 < 2 ^ 64 := by
  unfold wordsN at *
  rw [wordsTo_length] at h
  rw [wordsTo_getD _ _ _ h]
  exact wordN_lt _ _ (by omega)
theorem refwords_len (bs : List G) (A : Option Addr) (n c : Nat) (hn : n = bs.length) (hlen : bs.length ≤ 70000) (w : World) (HX : Vb w (fun _ => True) (.slice A bs.length c) bs) :
    Calls Try.prog 68 #[.slice A n c] w fun e w' => ∃ v, e = .returned v ∧ OwnU w' w.heap.size v (wordsN bs) ∧ Below w.heap.size w w' := by
  subst hn
  exact refwords_any bs A c hlen w HX

set_option maxRecDepth 100000 in
set_option maxHeartbeats 4000000 in
theorem refsum_any (s : ByteArray) (hs : s.size ≤ 70000) (xs : List Int) (A : Option Addr) (c : Nat) (hlen : xs.length ≤ 70000) (w : World) (HX : Vi w (fun _ => True) (.slice A xs.length c) xs) :
    Calls Try.prog 69 #[.string s, .slice A xs.length c] w fun e w' => e = .returned (.int .u64 (sumN (sG s) xs : Nat)) ∧ Below w.heap.size w w' := by
  have HXB := Lib.hid (Kd.V_bound HX)
  clear HX
  have HR := Lib.hid (refwords_len (sG s) _ s.size _ (sG_length s).symm (by rw [sG_length]; exact hs) _ (bytesW_V w s hs))
  have HBB := Lib.hid (bytes_below (Below.refl w.heap.size w) (Nat.le_refl _) 5 s)
  have kb := print_bytes (P := Try.prog) 9 33 5 Try.underlying9 Try.underlying33 Try.underlying5 s w
  have HDEF : Hid (sumN (sG s) xs = mixN (foldN (mixN (mixN (foldN 0 (wordsN (sG s))) (sG s).length) xs.length) (xs.map uN)) 0) := Lib.hid rfl
  rw [sG_length] at HDEF
  have HWL := Lib.hid (wordsN_lt (sG s))
  generalize Lib.bytesWorld w 5 s = w0 at *
  generalize sumN (sG s) xs = target at *
  generalize wordsN (sG s) = ws at *
  generalize grownCap w s.size 0 5 = gc at *
  go_enter Try.func69, Try.ntmps69
  go_wp2_with (go_at_call 68; refine HR.out.mono ?_; rintro e w1 ⟨v, rfl, hO, hB⟩; obtain ⟨Aw, cw, rfl, hc, hm⟩ := V_open hO.V)
  have HV1 := Lib.hid (Kd.V_bound (Kd.V_mono (ok' := fun _ => True) hO.V (fun _ _ => trivial)))
  have HB1 : Hid (Below w.heap.size w w1) := Lib.hid (HBB.out.trans (hB.mono HBB.out.size))
  have HXX := Lib.hid (lowX HXB.out HB1.out)
  clear hO hB HR HBB HXB
  go_loop [5, 7] (fun v5 i => ∃ k : Nat, i = .int .i64 k ∧ k ≤ ws.length ∧ v5 = .int .u64 ((foldN 0 (ws.take k) : Nat) : Int)) (fun _ i => ws.length - (intOf i).toNat)
  case atStart => exact ⟨0, rfl, Nat.zero_le _, by rw [fold_takeN]; rfl⟩
  case round =>
    obtain ⟨k, rfl, hk, rfl⟩ := hrel
    by_cases hlt : k < ws.length
    · obtain ⟨ad, rfl, hcell, _⟩ := V_scalar HV1.out 0 k hlt
      unfold encN at hcell
      have HN := Lib.hid (fold_takeS 0 ws k hlt)
      have hf : foldN 0 (ws.take k) < 2 ^ 64 := foldN_lt _ _ (Nat.two_pow_pos 64)
      have HM := Lib.hid (fun W => refmix_any (foldN 0 (ws.take k)) (ws.getD k 0) W hf (HWL.out k hlt))
      generalize foldN 0 (ws.take k) = fk at *
      generalize ws.getD k 0 = x at *
      go_wp2_with (go_at_call 80; refine (HM.out _).mono ?_; rintro e w' ⟨rfl, rfl⟩)
      exact ⟨⟨k + 1, by go_num, by omega, by rw [HN.out]⟩, by simp [intOf]; omega⟩
    · obtain rfl : k = ws.length := by omega
      rw [List.take_length] at *
      have hs0 : foldN 0 ws < 2 ^ 64 := foldN_lt _ _ (Nat.two_pow_pos 64)
      generalize foldN 0 ws = s0 at *
      have HM := Lib.hid (fun s w W hs hw => refmix_any s w W hs hw)
      have hl1 : mixN s0 s.size < 2 ^ 64 := mixN_lt _ _
      have hls : s.size < 2 ^ 64 := by omega
      have hlx : xs.length < 2 ^ 64 := by omega
      have hl2 : mixN (mixN s0 s.size) xs.length < 2 ^ 64 := mixN_lt _ _
      have e1 : IntKind.u64.wrap (s.size : Int) = (s.size : Int) := by rw [u64_wrap_nat, Nat.mod_eq_of_lt hls]
      have e2 : IntKind.u64.wrap (xs.length : Int) = (xs.length : Int) := by rw [u64_wrap_nat, Nat.mod_eq_of_lt hlx]
      go_wp2_with (go_at_call 80; refine (HM.out _ _ _ (by first | exact hs0 | exact hl1) (by first | exact hls | exact hlx)).mono ?_; rintro e w' ⟨rfl, rfl⟩)
      generalize mixN (mixN s0 s.size) xs.length = s2 at *
      generalize mixN s0 s.size = s1 at *
      go_loop [5, 8] (fun v5 i => ∃ k : Nat, i = .int .i64 k ∧ k ≤ xs.length ∧ v5 = .int .u64 ((foldN s2 ((xs.take k).map uN) : Nat) : Int)) (fun _ i => xs.length - (intOf i).toNat)
      case atStart => exact ⟨0, rfl, Nat.zero_le _, by rw [fold_take0]⟩
      case round =>
        obtain ⟨k, rfl, hk, rfl⟩ := hrel
        by_cases hlt : k < xs.length
        · obtain ⟨ad, rfl, hcell, _⟩ := V_scalar HXX.out 0 k hlt
          have hlt2 : foldN s2 ((xs.take k).map uN) < 2 ^ 64 := foldN_lt _ _ hl2
          have HN : Hid (foldN s2 ((xs.take (k + 1)).map uN) = mixN (foldN s2 ((xs.take k).map uN)) (uN (xs.getD k 0))) := Lib.hid (by rw [List.take_succ_eq_append_getElem hlt, List.map_append, List.map_cons, List.map_nil, foldN_snoc, List.getD_eq_getElem?_getD, List.getElem?_eq_getElem hlt]; rfl)
          have HU := Lib.hid (uN_val (xs.getD k 0))
          have HM1 := Lib.hid (fun W => refmix_any (foldN s2 ((xs.take k).map uN)) (uN (xs.getD k 0)) W hlt2 (uN_lt _))
          rw [← HU.out] at HM1
          generalize foldN s2 ((xs.take k).map uN) = fk at *
          generalize uN (xs.getD k 0) = uk at *
          generalize xs.getD k 0 = xk at *
          go_wp2_with (go_at_call 80; refine (HM1.out _).mono ?_; rintro e w' ⟨rfl, rfl⟩)
          exact ⟨⟨k + 1, by go_num, by omega, by rw [HN.out]⟩, by simp [intOf]; omega⟩
        · obtain rfl : k = xs.length := by omega
          have hlt2 : foldN s2 ((xs.take xs.length).map uN) < 2 ^ 64 := foldN_lt _ _ hl2
          rw [List.take_length] at *
          have HM1 := Lib.hid (fun W => refmix_any (foldN s2 (xs.map uN)) 0 W hlt2 (Nat.two_pow_pos 64))
          generalize foldN s2 (xs.map uN) = fk at *
          go_wp2_with (go_at_call 80; refine (HM1.out _).mono ?_; rintro e w' ⟨rfl, rfl⟩)
          go_ret
          exact ⟨by rw [HDEF.out]; rfl, HB1.out⟩
end Go.Proofs.Ytiggohkkokalcaa

/-! The walk of the reference's Bytes. -/
namespace Go.Proofs.Ytiggohkkokalcaa
open Go.RowKit Go.Shelf Go.Proofs.YtiggohkkokalcaaW.PrintWords Go.Proofs.YtiggohkkokalcaaW.PrintMore
set_option linter.unusedVariables false
set_option linter.unusedSimpArgs false

theorem refsum_len (s : ByteArray) (hs : s.size ≤ 70000) (xs : List Int) (A : Option Addr) (n c : Nat) (hn : n = xs.length) (hlen : xs.length ≤ 70000) (w : World) (HX : Vi w (fun _ => True) (.slice A xs.length c) xs) :
    Calls Try.prog 69 #[.string s, .slice A n c] w fun e w' => e = .returned (.int .u64 (sumN (sG s) xs : Nat)) ∧ Below w.heap.size w w' := by
  subst hn
  exact refsum_any s hs xs A c hlen w HX
theorem takeI_zero (ws : List Nat) : (ws.take 0).map iN = [] := by rw [List.take_zero]; rfl
theorem takeI_succ (ws : List Nat) (k : Nat) (h : k < ws.length) : (ws.take (k + 1)).map iN = (ws.take k).map iN ++ [iN (ws.getD k 0)] := by
  rw [List.take_succ_eq_append_getElem h, List.map_append, List.getD_eq_getElem?_getD, List.getElem?_eq_getElem h]
  rfl
theorem takeI_length (ws : List Nat) (k : Nat) (h : k ≤ ws.length) : ((ws.take k).map iN).length = k := by
  rw [List.length_map, List.length_take]
  omega

set_option maxRecDepth 100000 in
set_option maxHeartbeats 4000000 in
theorem refbytes_any (s : ByteArray) (hs : s.size ≤ 70000) (bs : List G) (A : Option Addr) (c : Nat) (hlen : bs.length ≤ 70000) (w : World) (HX : Vb w (fun _ => True) (.slice A bs.length c) bs) :
    Calls Try.prog 46 #[.string s, .slice A bs.length c] w fun e w' => e = .returned (.int .u64 (bytesN (sG s) bs : Nat)) ∧ Below w.heap.size w w' := by
  have HR := Lib.hid (refwords_any bs A c hlen w HX)
  have HDEF : Hid (bytesN (sG s) bs = sumN (sG s) ((wordsN bs).map iN ++ [(bs.length : Int)])) := Lib.hid rfl
  have hwl : (wordsN bs).length ≤ 9000 := by unfold wordsN; rw [wordsTo_length]; omega
  clear HX
  generalize bytesN (sG s) bs = target at *
  generalize wordsN bs = ws at *
  go_enter Try.func46, Try.ntmps46
  go_wp2_with (go_at_call 68; refine HR.out.mono ?_; rintro e w1 ⟨v, rfl, hO, hB⟩; obtain ⟨Aw, cw, rfl, hc, hm⟩ := V_open hO.V)
  have HV1 := Lib.hid (Kd.V_bound (Kd.V_mono (ok' := fun _ => True) hO.V (fun _ _ => trivial)))
  have HB1 := Lib.hid hB
  have hB1s := hB.size
  clear hO hB HR
  go_loopw [6, 7] (fun v6 i wr => ∃ k : Nat, i = .int .i64 k ∧ k ≤ ws.length ∧ Hid (OwnI wr w1.heap.size v6 ((ws.take k).map iN)) ∧ Hid (Below w1.heap.size w1 wr)) (fun _ i _ => ws.length - (intOf i).toNat)
  case atStart => exact ⟨0, rfl, Nat.zero_le _, Lib.hid (by rw [takeI_zero]; exact OwnI.nil _ _), Lib.hid (Below.refl _ _)⟩
  case round =>
    obtain ⟨k, rfl, hk, HO, HB⟩ := hrel
    have htl := takeI_length ws k hk
    by_cases hlt : k < ws.length
    · obtain ⟨ad, rfl, hcell, _⟩ := V_scalar (lowX HV1.out HB.out) 0 k hlt
      unfold encN at hcell
      have HN := Lib.hid (takeI_succ ws k hlt)
      have HI : Hid (iN (ws.getD k 0) = wrap64 ((ws.getD k 0 : Nat) : Int)) := Lib.hid (by unfold iN; exact IntWalk.i64_left _)
      rw [HI.out] at HN
      clear HI
      generalize (ws.take k).map iN = pk at *
      generalize ws.getD k 0 = x at *
      go_wp2_with ((with_reducible refine gate_builtin (b := .append) (xs := #[.tmp 16, .tmp 22]) rfl ?_); at_builtin; refine app_int (w0 := w1) w1.heap.size rfl (.tmp 16) (.tmp 22) rfl _ pk (wrap64 (x : Int)) rfl rfl HO.out HB.out HB.out.size (by omega) ?_; intro v3 w3 hO3 hB3 hg3 hat3)
      exact ⟨⟨k + 1, by go_num, by omega, Lib.hid (by rw [HN.out]; exact hO3), Lib.hid hB3⟩, by simp [intOf]; omega⟩
    · obtain rfl : k = ws.length := by omega
      rw [List.take_length] at *
      generalize ws.map iN = pk at *
      go_wp2_with (first | ((with_reducible refine gate_builtin (b := .append) (xs := #[.tmp 25, .tmp 28]) rfl ?_); at_builtin; refine app_int (w0 := w1) w1.heap.size rfl (.tmp 25) (.tmp 28) rfl _ pk (bs.length : Int) rfl rfl HO.out HB.out HB.out.size (by omega) ?_; intro v3 w3 hO3 hB3 hg3 hat3; obtain ⟨A3, c3, rfl, hc3, hm3⟩ := V_open hO3.V) | (go_at_call 69; refine (refsum_len s hs (pk ++ [(bs.length : Int)]) _ _ _ (by simp only [List.length_append, List.length_singleton]; omega) (by rw [List.length_append, List.length_singleton]; omega) _ (Kd.V_mono hO3.V (fun _ _ => trivial))).mono ?_; rintro e w4 ⟨rfl, hB4⟩))
      go_ret
      exact ⟨by rw [HDEF.out]; rfl, HB1.out.trans ((hB3.mono hB1s).trans (hB4.mono (Nat.le_trans hB1s hB3.size)))⟩
end Go.Proofs.Ytiggohkkokalcaa

/-! The walk of the reference's Hashes. -/
namespace Go.Proofs.Ytiggohkkokalcaa
open Go.RowKit Go.Shelf Go.Proofs.YtiggohkkokalcaaW.PrintWords Go.Proofs.YtiggohkkokalcaaW.PrintMore
set_option linter.unusedVariables false
set_option linter.unusedSimpArgs false

theorem refhash_any (bs : List G) (A : Option Addr) (c : Nat) (hb : bs.length ≤ 70000) (w : World) (HX : Vb w (fun _ => True) (.slice A bs.length c) bs) :
    Calls Try.prog 46 #[.string { data := #[112, 97, 114, 105, 116, 121] }, .slice A bs.length c] w fun e w' => e = .returned (.int .u64 (hashG bs : Nat)) ∧ Below w.heap.size w w' := by
  have h := refbytes_any labB (by decide) bs A c hb w HX
  rw [labB_sG] at h
  exact h

set_option maxRecDepth 100000 in
set_option maxHeartbeats 4000000 in
theorem refhashes_any (ds ps : List (List G)) (A1 A2 : Option Addr) (c1 c2 : Nat) (h1 : ds.length ≤ 40) (h2 : ps.length ≤ 40) (hb : ∀ b ∈ ds ++ ps, b.length ≤ 70000) (w : World) (HD : Vbb w (fun _ => True) (.slice A1 ds.length c1) ds) (HP : Vbb w (fun _ => True) (.slice A2 ps.length c2) ps) :
    Calls Try.prog 22 #[.slice A1 ds.length c1, .slice A2 ps.length c2] w fun e w' => ∃ v, e = .returned v ∧ OwnU w' w.heap.size v (hashesG ds ps) ∧ Below w.heap.size w w' := by
  have HDB := Lib.hid (Kd.V_bound HD)
  have HPB := Lib.hid (Kd.V_bound HP)
  have HH : Hid (hashesG ds ps = hashTo ds ds.length ++ hashTo ps ps.length) := Lib.hid (by rw [hashTo_all, hashTo_all]; exact List.map_append)
  have HBD : Hid (∀ k, k < ds.length → (rat ds k).length ≤ 70000) := Lib.hid (fun k h => hb _ (List.mem_append_left _ (by unfold rat; rw [List.getD_eq_getElem?_getD, List.getElem?_eq_getElem h]; exact List.getElem_mem h)))
  have HBP : Hid (∀ k, k < ps.length → (rat ps k).length ≤ 70000) := Lib.hid (fun k h => hb _ (List.mem_append_right _ (by unfold rat; rw [List.getD_eq_getElem?_getD, List.getElem?_eq_getElem h]; exact List.getElem_mem h)))
  clear HD HP hb
  generalize hashesG ds ps = target at *
  go_enter Try.func22, Try.ntmps22
  go_wp2_with fail
  go_loopw [5, 6] (fun v5 i wr => ∃ k : Nat, i = .int .i64 k ∧ k ≤ ds.length ∧ Hid (OwnU wr w.heap.size v5 (hashTo ds k)) ∧ Hid (Below w.heap.size w wr)) (fun _ i _ => ds.length - (intOf i).toNat)
  case atStart => exact ⟨0, rfl, Nat.zero_le _, Lib.hid (OwnU.nil _ _), Lib.hid (Below.refl _ _)⟩
  case round =>
    obtain ⟨k, rfl, hk, HO, HB⟩ := hrel
    by_cases hlt : k < ds.length
    · obtain ⟨ad, A3, c3, rfl, hcell, HR, _⟩ := Vbb_row (lowX HDB.out HB.out) k hlt
      have HHS := Lib.hid (hashTo_succ ds k hlt)
      have HHL := Lib.hid (hashTo_length ds k hk)
      have hbl := HBD.out k hlt
      have HH1 := Lib.hid (refhash_any (rat ds k) A3 c3 hbl wr (Kd.V_mono HR (fun _ _ => trivial)))
      unfold rat at hbl HH1 HHS
      clear HR
      generalize ds.getD k [] = b at *
      generalize hashG b = hk1 at *
      go_wp2_with (first | (go_at_call 46; refine HH1.out.mono ?_; rintro e w2 ⟨rfl, hBS⟩; have HO2 := Lib.hid (HO.out.below hBS); have HB2 := Lib.hid (HB.out.trans (hBS.mono HB.out.size))) | ((with_reducible refine gate_builtin (b := .append) (xs := #[.tmp 14, .tmp 20]) rfl ?_); at_builtin; refine app_u64 (w0 := w) w.heap.size rfl (.tmp 14) (.tmp 20) rfl _ (hashTo ds k) hk1 rfl rfl HO2.out HB2.out HB2.out.size (by rw [HHL.out]; omega) ?_; intro v3 w3 hO3 hB3 hg3 hat3))
      exact ⟨⟨k + 1, by go_num, by omega, Lib.hid (by rw [HHS.out]; exact hO3), Lib.hid hB3⟩, by simp [intOf]; omega⟩
    · obtain rfl : k = ds.length := by omega
      have HDL := Lib.hid (hashTo_length ds ds.length (Nat.le_refl _))
      go_wp2_with fail
      go_loopw [5, 7] (fun v5 i wr => ∃ k : Nat, i = .int .i64 k ∧ k ≤ ps.length ∧ Hid (OwnU wr w.heap.size v5 (hashTo ds ds.length ++ hashTo ps k)) ∧ Hid (Below w.heap.size w wr)) (fun _ i _ => ps.length - (intOf i).toNat)
      case atStart => exact ⟨0, rfl, Nat.zero_le _, Lib.hid (by rw [hashTo_zero, List.append_nil]; exact HO.out), HB⟩
      case round =>
        obtain ⟨k, rfl, hk, HO, HB⟩ := hrel
        by_cases hlt : k < ps.length
        · obtain ⟨ad, A3, c3, rfl, hcell, HR, _⟩ := Vbb_row (lowX HPB.out HB.out) k hlt
          have HHS := Lib.hid (hashTo_succ ps k hlt)
          have HHL := Lib.hid (hashTo_length ps k hk)
          have hbl := HBP.out k hlt
          have HH1 := Lib.hid (refhash_any (rat ps k) A3 c3 hbl wr (Kd.V_mono HR (fun _ _ => trivial)))
          unfold rat at hbl HH1 HHS
          clear HR
          generalize ps.getD k [] = b at *
          generalize hashG b = hk1 at *
          go_wp2_with (first | (go_at_call 46; refine HH1.out.mono ?_; rintro e w2 ⟨rfl, hBS⟩; have HO2 := Lib.hid (HO.out.below hBS); have HB2 := Lib.hid (HB.out.trans (hBS.mono HB.out.size))) | ((with_reducible refine gate_builtin (b := .append) (xs := #[.tmp 28, .tmp 34]) rfl ?_); at_builtin; refine app_u64 (w0 := w) w.heap.size rfl (.tmp 28) (.tmp 34) rfl _ (hashTo ds ds.length ++ hashTo ps k) hk1 rfl rfl HO2.out HB2.out HB2.out.size (by rw [List.length_append, HDL.out, HHL.out]; omega) ?_; intro v3 w3 hO3 hB3 hg3 hat3))
          exact ⟨⟨k + 1, by go_num, by omega, Lib.hid (by rw [HHS.out, ← List.append_assoc]; exact hO3), Lib.hid hB3⟩, by simp [intOf]; omega⟩
        · obtain rfl : k = ps.length := by omega
          rw [← HH.out] at HO
          go_wp2_with fail
          go_ret
          exact ⟨_, rfl, HO.out, HB.out⟩
end Go.Proofs.Ytiggohkkokalcaa

/-! The walk of the reference's Scrub. -/
namespace Go.Proofs.Ytiggohkkokalcaa
open Go.RowKit Go.Shelf Go.Proofs.YtiggohkkokalcaaW.PrintWords Go.Proofs.YtiggohkkokalcaaW.PrintMore
set_option linter.unusedVariables false
set_option linter.unusedSimpArgs false

set_option maxRecDepth 100000 in
set_option maxHeartbeats 4000000 in
theorem refscrub_any (ds ps : List (List G)) (want : List Nat) (A1 A2 A3 : Option Addr) (c1 c2 c3 : Nat) (h1 : ds.length ≤ 40) (h2 : ps.length ≤ 40) (hb : ∀ b ∈ ds ++ ps, b.length ≤ 70000) (w : World) (HD : Vbb w (fun _ => True) (.slice A1 ds.length c1) ds) (HP : Vbb w (fun _ => True) (.slice A2 ps.length c2) ps) (HW : Kd.V KU 40 w 0 (fun _ => True) (.slice A3 want.length c3) want) :
    Calls Try.prog 25 #[.slice A1 ds.length c1, .slice A2 ps.length c2, .slice A3 want.length c3] w fun e w' => ∃ v, e = .returned (.tuple #[v, .int .i64 (scrubE (hashesG ds ps) want)]) ∧ OwnI w' w.heap.size v (scrubL (hashesG ds ps) want) ∧ Below w.heap.size w w' := by
  have HC := Lib.hid (refhashes_any ds ps A1 A2 c1 c2 h1 h2 hb w HD HP)
  have HWB := Lib.hid (Kd.V_bound HW)
  have hl := hashesG_le ds ps h1 h2
  clear HD HP HW hb
  generalize hashesG ds ps = h at *
  have HE : Hid (scrubE h want = if h.length = want.length then 0 else 1) := Lib.hid rfl
  have HL : Hid (scrubL h want = if h.length = want.length then badTo h want h.length else []) := Lib.hid rfl
  go_enter Try.func25, Try.ntmps25
  by_cases hlw : h.length = want.length
  · have hlb : ((h.length : Int) != (want.length : Int)) = false := by rw [bne_eq_false_iff_eq]; omega
    go_wp2_with (go_at_call 22; refine HC.out.mono ?_; rintro e w1 ⟨v, rfl, hO, hB⟩; obtain ⟨A, c, rfl, hc, hm⟩ := V_open hO.V)
    have HV1 := Lib.hid (Kd.V_bound (Kd.V_mono (ok' := fun _ => True) hO.V (fun _ _ => trivial)))
    have HB1 := Lib.hid hB
    have hB1s := hB.size
    clear hO hB HC
    go_loopw [9, 10] (fun v9 i wr => ∃ k : Nat, i = .int .i64 k ∧ k ≤ h.length ∧ Hid (OwnI wr w1.heap.size v9 (badTo h want k)) ∧ Hid (Below w1.heap.size w1 wr)) (fun _ i _ => h.length - (intOf i).toNat)
    case atStart => exact ⟨0, rfl, Nat.zero_le _, Lib.hid (OwnI.nil _ _), Lib.hid (Below.refl _ _)⟩
    case round =>
      obtain ⟨k, rfl, hk, HO, HB⟩ := hrel
      by_cases hlt : k < h.length
      · have hlt2 : k < want.length := by omega
        have HBW : Hid (Below w.heap.size w wr) := Lib.hid (HB1.out.trans (HB.out.mono hB1s))
        obtain ⟨ad, rfl, hcell, _⟩ := V_scalar (lowX HV1.out HB.out) 0 k hlt
        obtain ⟨ad2, rfl, hcell2, _⟩ := V_scalar (lowX HWB.out HBW.out) 0 k hlt2
        have HBT : Hid (badTo h want (k + 1) = if h.getD k 0 = want.getD k 0 then badTo h want k else badTo h want k ++ [(k : Int)]) := Lib.hid rfl
        have hbl := badTo_le h want k
        unfold encN at hcell hcell2
        generalize h.getD k 0 = x at *
        generalize want.getD k 0 = y at *
        have HO2 : Hid (OwnI wr.drew w1.heap.size _ (badTo h want k)) := Lib.hid (OwnI.below HO.out (below_drew (Below.refl _ _)))
        have HB2 : Hid (Below w1.heap.size w1 wr.drew) := Lib.hid (below_drew HB.out)
        by_cases hxy : x = y
        · have hne : ((x : Int) != (y : Int)) = false := by rw [bne_eq_false_iff_eq]; omega
          go_wp2_with fail
          go_region
          go_wp2_with fail
          exact ⟨⟨k + 1, by go_num, by omega, Lib.hid (by rw [HBT.out, if_pos hxy]; exact HO2.out), HB2⟩, by simp [intOf]; omega⟩
        · have hne : ((x : Int) != (y : Int)) = true := by rw [bne_iff_ne]; omega
          go_wp2_with fail
          go_region
          go_wp2_with ((with_reducible refine gate_builtin (b := .append) (xs := #[.tmp 34, .tmp 36]) rfl ?_); at_builtin; refine app_int (w0 := w1) w1.heap.size rfl (.tmp 34) (.tmp 36) rfl _ (badTo h want k) k rfl rfl HO2.out HB2.out HB2.out.size (by omega) ?_; intro v3 w3 hO3 hB3 hg3 hat3)
          exact ⟨⟨k + 1, by go_num, by omega, Lib.hid (by rw [HBT.out, if_neg hxy]; exact hO3), Lib.hid hB3⟩, by simp [intOf]; omega⟩
      · obtain rfl : k = h.length := by omega
        go_wp2_with fail
        go_ret2
        exact ⟨_, by rw [HE.out, if_pos hlw]; rfl, by rw [HL.out, if_pos hlw]; exact OwnI.lower HO.out hB1s, HB1.out.trans (HB.out.mono hB1s)⟩
  · have hlb : ((h.length : Int) != (want.length : Int)) = true := by rw [bne_iff_ne]; omega
    go_wp2_with (go_at_call 22; refine HC.out.mono ?_; rintro e w1 ⟨v, rfl, hO, hB⟩; obtain ⟨A, c, rfl, hc, hm⟩ := V_open hO.V)
    go_ret2
    exact ⟨_, by rw [HE.out, if_neg hlw]; rfl, by rw [HL.out, if_neg hlw]; exact OwnI.nil _ _, hB⟩
end Go.Proofs.Ytiggohkkokalcaa
