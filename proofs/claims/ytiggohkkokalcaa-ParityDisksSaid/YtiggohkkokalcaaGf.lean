/- The field of 256 elements: plain algebra on bytes. -/
import Derived.Laws.BitsAllLaws
namespace Go.Proofs.Ytiggohkkokalcaa

abbrev G := BitVec 8
def xt (a : G) : G := if a.getLsbD 7 then (a <<< 1) ^^^ 0x1d#8 else a <<< 1
def xtN : Nat → G → G
  | 0, a => a
  | k + 1, a => xt (xtN k a)
def gmTo : Nat → G → G → G
  | 0, _, _ => 0
  | k + 1, a, b => gmTo k a b ^^^ (if b.getLsbD k then xtN k a else 0)
def gm (a b : G) : G := gmTo 8 a b
def expG : Nat → G
  | 0 => 1
  | k + 1 => xt (expG k)
def ginv (a : G) : G :=
  let a2 := gm a a
  let a4 := gm a2 a2
  let a8 := gm a4 a4
  let a16 := gm a8 a8
  let a32 := gm a16 a16
  let a64 := gm a32 a32
  let a128 := gm a64 a64
  gm a2 (gm a4 (gm a8 (gm a16 (gm a32 (gm a64 a128)))))

theorem xor_lc (a b c : G) : a ^^^ (b ^^^ c) = b ^^^ (a ^^^ c) := by rw [← BitVec.xor_assoc, BitVec.xor_comm a b, BitVec.xor_assoc]
theorem xor_self_lc (a b : G) : a ^^^ (a ^^^ b) = b := by rw [← BitVec.xor_assoc, BitVec.xor_self, BitVec.zero_xor]
theorem xt_xor (a b : G) : xt (a ^^^ b) = xt a ^^^ xt b := by
  simp only [xt, BitVec.getLsbD_xor]
  cases a.getLsbD 7 <;> cases b.getLsbD 7 <;> simp [BitVec.shiftLeft_xor_distrib, BitVec.xor_assoc, BitVec.xor_comm, xor_lc]
theorem xt_zero : xt 0 = 0 := by decide
theorem xtN_xor (k : Nat) (a b : G) : xtN k (a ^^^ b) = xtN k a ^^^ xtN k b := by
  induction k with
  | zero => rfl
  | succ k ih => simp only [xtN, ih, xt_xor]
theorem gmTo_add_right (k : Nat) (a b c : G) : gmTo k a (b ^^^ c) = gmTo k a b ^^^ gmTo k a c := by
  induction k with
  | zero => simp [gmTo]
  | succ k ih =>
    simp only [gmTo, ih, BitVec.getLsbD_xor]
    cases b.getLsbD k <;> cases c.getLsbD k <;> simp [BitVec.xor_assoc, BitVec.xor_comm, xor_lc]
theorem gmTo_add_left (k : Nat) (a b c : G) : gmTo k (a ^^^ b) c = gmTo k a c ^^^ gmTo k b c := by
  induction k with
  | zero => simp [gmTo]
  | succ k ih =>
    simp only [gmTo, ih, xtN_xor]
    cases c.getLsbD k <;> simp [BitVec.xor_assoc, BitVec.xor_comm, xor_lc]
theorem gm_add (a b c : G) : gm a (b ^^^ c) = gm a b ^^^ gm a c := gmTo_add_right 8 a b c
theorem add_gm (a b c : G) : gm (a ^^^ b) c = gm a c ^^^ gm b c := gmTo_add_left 8 a b c

/-- A byte is the sum of its bits. -/
theorem parts : ∀ a : G, (a &&& 1) ^^^ ((a &&& 2) ^^^ ((a &&& 4) ^^^ ((a &&& 8) ^^^ ((a &&& 16) ^^^ ((a &&& 32) ^^^ ((a &&& 64) ^^^ (a &&& 128))))))) = a := by decide +kernel
theorem part1 : ∀ a : G, a &&& 1 = 0 ∨ a &&& 1 = 1 := by decide +kernel
theorem part2 : ∀ a : G, a &&& 2 = 0 ∨ a &&& 2 = 2 := by decide +kernel
theorem part4 : ∀ a : G, a &&& 4 = 0 ∨ a &&& 4 = 4 := by decide +kernel
theorem part8 : ∀ a : G, a &&& 8 = 0 ∨ a &&& 8 = 8 := by decide +kernel
theorem part16 : ∀ a : G, a &&& 16 = 0 ∨ a &&& 16 = 16 := by decide +kernel
theorem part32 : ∀ a : G, a &&& 32 = 0 ∨ a &&& 32 = 32 := by decide +kernel
theorem part64 : ∀ a : G, a &&& 64 = 0 ∨ a &&& 64 = 64 := by decide +kernel
theorem part128 : ∀ a : G, a &&& 128 = 0 ∨ a &&& 128 = 128 := by decide +kernel
def basis : List G := [1, 2, 4, 8, 16, 32, 64, 128]
/-- Two additive functions that agree on the bits are one. -/
theorem ext_lin (f g : G → G) (hf : ∀ x y, f (x ^^^ y) = f x ^^^ f y) (hg : ∀ x y, g (x ^^^ y) = g x ^^^ g y) (h : ∀ b ∈ basis, f b = g b) (a : G) : f a = g a := by
  have f0 : f 0 = 0 := by have := hf 0 0; simp at this; exact this
  have g0 : g 0 = 0 := by have := hg 0 0; simp at this; exact this
  have one : ∀ x y : G, y ∈ basis → (x = 0 ∨ x = y) → f x = g x := by
    intro x y hy hx
    rcases hx with rfl | rfl
    · rw [f0, g0]
    · exact h _ hy
  rw [← parts a]
  simp only [hf, hg]
  rw [one _ 1 (by decide) (part1 a), one _ 2 (by decide) (part2 a), one _ 4 (by decide) (part4 a), one _ 8 (by decide) (part8 a), one _ 16 (by decide) (part16 a), one _ 32 (by decide) (part32 a), one _ 64 (by decide) (part64 a), one _ 128 (by decide) (part128 a)]

theorem comm_basis : ∀ a ∈ basis, ∀ b ∈ basis, gm a b = gm b a := by decide +kernel
theorem assoc_basis : ∀ a ∈ basis, ∀ b ∈ basis, ∀ c ∈ basis, gm (gm a b) c = gm a (gm b c) := by decide +kernel
theorem gm_comm (a b : G) : gm a b = gm b a := by
  refine ext_lin (fun a => gm a b) (fun a => gm b a) (fun x y => add_gm x y b) (fun x y => gm_add b x y) (fun x hx => ?_) a
  exact ext_lin (fun b => gm x b) (fun b => gm b x) (fun y z => gm_add x y z) (fun y z => add_gm y z x) (fun y hy => comm_basis x hx y hy) b
theorem gm_assoc (a b c : G) : gm (gm a b) c = gm a (gm b c) := by
  refine ext_lin (fun a => gm (gm a b) c) (fun a => gm a (gm b c)) (fun x y => by rw [add_gm, add_gm]) (fun x y => by rw [add_gm]) (fun x hx => ?_) a
  refine ext_lin (fun b => gm (gm x b) c) (fun b => gm x (gm b c)) (fun y z => by rw [gm_add, add_gm]) (fun y z => by rw [add_gm, gm_add]) (fun y hy => ?_) b
  exact ext_lin (fun c => gm (gm x y) c) (fun c => gm x (gm y c)) (fun z u => by rw [gm_add]) (fun z u => by rw [gm_add, gm_add]) (fun z hz => assoc_basis x hx y hy z hz) c
theorem gm_left_comm (a b c : G) : gm a (gm b c) = gm b (gm a c) := by rw [← gm_assoc, gm_comm a b, gm_assoc]
theorem gm_one : ∀ a : G, gm a 1 = a := by decide +kernel
theorem one_gm (a : G) : gm 1 a = a := by rw [gm_comm, gm_one]
theorem gm_zero (a : G) : gm a 0 = 0 := by have := gm_add a 0 0; simp at this; exact this
theorem zero_gm (a : G) : gm 0 a = 0 := by rw [gm_comm, gm_zero]
theorem xt_gm (a : G) : xt a = gm 2 a :=
  ext_lin xt (gm 2) xt_xor (gm_add 2) (by decide +kernel) a
theorem gm_inv : ∀ a : G, a ≠ 0 → gm a (ginv a) = 1 := by decide +kernel
theorem ginv_unique (a x : G) (h : gm a x = 1) : x = ginv a := by
  have ha : a ≠ 0 := by rintro rfl; rw [zero_gm] at h; exact absurd h (by decide)
  have h2 : gm (ginv a) (gm a x) = ginv a := by rw [h, gm_one]
  rwa [← gm_assoc, gm_comm (ginv a), gm_inv a ha, one_gm] at h2
theorem ginv_ne (a : G) (ha : a ≠ 0) : ginv a ≠ 0 := by
  intro h; have := gm_inv a ha; rw [h, gm_zero] at this; exact absurd this (by decide)
theorem gm_eq_zero (a b : G) : gm a b = 0 ↔ a = 0 ∨ b = 0 := by
  constructor
  · intro h
    by_cases ha : a = 0
    · exact .inl ha
    · right
      have h2 : gm (ginv a) (gm a b) = 0 := by rw [h, gm_zero]
      rwa [← gm_assoc, gm_comm (ginv a), gm_inv a ha, one_gm] at h2
  · rintro (rfl | rfl)
    · exact zero_gm _
    · exact gm_zero _

/-! the powers of 2 -/
theorem expG_add (i j : Nat) : gm (expG i) (expG j) = expG (i + j) := by
  induction i with
  | zero => rw [show expG 0 = 1 from rfl, one_gm, Nat.zero_add]
  | succ i ih => rw [show i + 1 + j = (i + j) + 1 by omega, show expG (i + j + 1) = xt (expG (i + j)) from rfl, show expG (i + 1) = xt (expG i) from rfl, xt_gm, xt_gm, gm_assoc, ih]
theorem exp255 : expG 255 = 1 := by decide +kernel
theorem expG_period (i : Nat) : expG (i + 255) = expG i := by rw [← expG_add, exp255, gm_one]
/-- the exponent of an element: the first i from k on with x = a (x the i-th power), n tries -/
def findExp : Nat → Nat → G → G → Option Nat
  | 0, _, _, _ => none
  | n + 1, i, x, a => if x = a then some i else findExp n (i + 1) (xt x) a
theorem findExp_some : ∀ (n i : Nat) (a : G) (r : Nat), findExp n i (expG i) a = some r → expG r = a ∧ r < i + n
  | 0, _, _, _, h => by simp [findExp] at h
  | n + 1, i, a, r, h => by
    simp only [findExp] at h
    split at h
    · cases h; exact ⟨by assumption, by omega⟩
    · have := findExp_some n (i + 1) a r h
      exact ⟨this.1, by omega⟩
theorem all_exp : ∀ a : G, a ≠ 0 → (findExp 255 0 1 a).isSome = true := by decide +kernel
theorem exp_onto (a : G) (h : a ≠ 0) : ∃ i, i < 255 ∧ expG i = a := by
  obtain ⟨r, hr⟩ := Option.isSome_iff_exists.1 (all_exp a h)
  have := findExp_some 255 0 a r hr
  exact ⟨r, by omega, this.1⟩
theorem exp_ne_one : ∀ d, d < 255 → d ≠ 0 → expG d ≠ 1 := by decide +kernel
theorem exp_inj {i j : Nat} (hi : i < 255) (hj : j < 255) (h : expG i = expG j) : i = j := by
  have key : ∀ i j : Nat, j < 255 → i < j → expG i = expG j → False := by
    intro i j hj hij h
    have h1 : gm (expG i) (expG (j - i)) = expG i := by rw [expG_add, show i + (j - i) = j by omega, h]
    have h2 : gm (expG (255 - i)) (expG i) = 1 := by rw [expG_add, show 255 - i + i = 255 by omega, exp255]
    have h3 : expG (j - i) = 1 := by
      have h4 : gm (gm (expG (255 - i)) (expG i)) (expG (j - i)) = 1 := by rw [gm_assoc, h1, h2]
      rwa [h2, one_gm] at h4
    exact exp_ne_one (j - i) (by omega) (by omega) h3
  rcases Nat.lt_trichotomy i j with h1 | h1 | h1
  · exact (key i j hj h1 h).elim
  · exact h1
  · exact (key j i hi h1 h.symm).elim
/-- the exponent of an element -/
def lgG (a : G) : Nat := (findExp 255 0 1 a).getD 0
theorem lgG_spec (a : G) (h : a ≠ 0) : lgG a < 255 ∧ expG (lgG a) = a := by
  obtain ⟨r, hr⟩ := Option.isSome_iff_exists.1 (all_exp a h)
  have := findExp_some 255 0 a r hr
  have e : lgG a = r := by unfold lgG; rw [hr]; rfl
  rw [e]; exact ⟨by omega, this.1⟩
theorem gm_exp (a b : G) (ha : a ≠ 0) (hb : b ≠ 0) : expG (lgG a + lgG b) = gm a b := by
  rw [← expG_add, (lgG_spec a ha).2, (lgG_spec b hb).2]
theorem ginv_exp (a : G) (ha : a ≠ 0) : expG (255 - lgG a) = ginv a := by
  refine ginv_unique a _ ?_
  have h := lgG_spec a ha
  have : gm (expG (lgG a)) (expG (255 - lgG a)) = 1 := by rw [expG_add, show lgG a + (255 - lgG a) = 255 by omega, exp255]
  rwa [h.2] at this
theorem expG_ne (i : Nat) : expG i ≠ 0 := by
  induction i with
  | zero => decide
  | succ i ih => rw [show expG (i + 1) = xt (expG i) from rfl, xt_gm, Ne, gm_eq_zero]; rintro (h | h); exact absurd h (by decide); exact ih h

/-! bytes as numbers -/
def toI (a : G) : Int := (a.toNat : Int)
theorem toI_rng (a : G) : 0 ≤ toI a ∧ toI a ≤ 255 := by have := a.isLt; unfold toI; omega
def ofI (x : Int) : G := BitVec.ofNat 8 x.toNat
theorem ofI_toI (a : G) : ofI (toI a) = a := by simp [ofI, toI]
theorem toI_ofI (x : Int) (h0 : 0 ≤ x) (h1 : x ≤ 255) : toI (ofI x) = x := by
  simp only [ofI, toI, BitVec.toNat_ofNat]; omega
theorem toI_inj {a b : G} (h : toI a = toI b) : a = b := by rw [← ofI_toI a, h, ofI_toI]
theorem toI_eq_zero (a : G) : toI a = 0 ↔ a = 0 := ⟨fun h => toI_inj (h.trans rfl), fun h => by rw [h]; rfl⟩
theorem toI_xor (a b : G) : bits .xor .u8 (toI a) (toI b) = toI (a ^^^ b) := by
  have h1 := toI_rng a; have h2 := toI_rng b
  rw [u8_xor _ _ h1.1 (by omega) h2.1 (by omega)]
  simp [toI]
theorem xt_toI : ∀ a : G, toI (xt a) = if toI a * 2 > 255 then bits .xor .i64 (toI a * 2) 285 else toI a * 2 := by decide +kernel
end Go.Proofs.Ytiggohkkokalcaa
