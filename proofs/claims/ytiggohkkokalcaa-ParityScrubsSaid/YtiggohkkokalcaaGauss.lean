/- Elimination: row operations keep the solutions of a system. -/
import Derived.Test.YtiggohkkokalcaaLin
namespace Go.Proofs.Ytiggohkkokalcaa

theorem lin_congr {n : Nat} {M M' : Nat → Nat → G} {x : Nat → G} {r : Nat} (h : ∀ c, c < n → M r c = M' r c) : lin n M x r = lin n M' x r :=
  xsum_congr n _ _ (fun c hc => by rw [h c hc])
/-- an operation on the rows, told of one column -/
structure RowOp (n : Nat) (T : (Nat → G) → Nat → G) : Prop where
  lin : ∀ (M : Nat → Nat → G) (x : Nat → G) (r : Nat), r < n → Go.Proofs.Ytiggohkkokalcaa.lin n (fun r c => T (fun q => M q c) r) x r = T (fun q => Go.Proofs.Ytiggohkkokalcaa.lin n M x q) r
  inj : ∀ v w : Nat → G, (∀ r, r < n → T v r = T w r) ↔ ∀ r, r < n → v r = w r
  zero : ∀ r, T (fun _ => 0) r = 0
def tSwap (i p : Nat) (v : Nat → G) (r : Nat) : G := if r = i then v p else if r = p then v i else v r
def tScale (i : Nat) (c : G) (v : Nat → G) (r : Nat) : G := if r = i then gm c (v i) else v r
def tAdd (k i : Nat) (c : G) (v : Nat → G) (r : Nat) : G := if r = k then v k ^^^ gm c (v i) else v r
theorem rowSwap {n i p : Nat} (hi : i < n) (hp : p < n) : RowOp n (tSwap i p) where
  lin M x r hr := by
    unfold tSwap lin
    by_cases h : r = i
    · simp only [if_pos h]
    · by_cases h2 : r = p
      · simp only [if_neg h, if_pos h2]
      · simp only [if_neg h, if_neg h2]
  inj v w := by
    constructor
    · intro h r hr
      by_cases h1 : r = i
      · subst h1
        have := h p hp
        unfold tSwap at this
        by_cases h2 : p = r
        · subst h2; simpa using this
        · simpa [h2] using this
      · by_cases h2 : r = p
        · subst h2
          have := h i hi
          simpa [tSwap] using this
        · have := h r hr
          simpa [tSwap, h1, h2] using this
    · intro h r hr
      unfold tSwap
      split
      · exact h p hp
      · split
        · exact h i hi
        · exact h r hr
  zero r := by unfold tSwap; simp
theorem rowScale {n i : Nat} {c : G} (hi : i < n) (hc : c ≠ 0) : RowOp n (tScale i c) where
  lin M x r hr := by
    unfold tScale lin
    by_cases h : r = i
    · simp only [if_pos h]
      rw [← xsum_gm]
      exact xsum_congr _ _ _ (fun q _ => gm_assoc _ _ _)
    · simp only [if_neg h]
  inj v w := by
    constructor
    · intro h r hr
      have := h r hr
      unfold tScale at this
      by_cases h1 : r = i
      · subst h1
        rw [if_pos rfl, if_pos rfl] at this
        have h2 : gm (ginv c) (gm c (v r)) = gm (ginv c) (gm c (w r)) := by rw [this]
        rwa [← gm_assoc, ← gm_assoc, gm_comm (ginv c), gm_inv c hc, one_gm, one_gm] at h2
      · rwa [if_neg h1, if_neg h1] at this
    · intro h r hr
      unfold tScale
      split
      · rw [h i hi]
      · exact h r hr
  zero r := by unfold tScale; dsimp only; rw [gm_zero]; simp
theorem rowAdd {n k i : Nat} {c : G} (hk : k < n) (hi : i < n) (hne : k ≠ i) : RowOp n (tAdd k i c) where
  lin M x r hr := by
    unfold tAdd lin
    by_cases h : r = k
    · simp only [if_pos h]
      rw [← xsum_gm, ← xsum_add]
      exact xsum_congr _ _ _ (fun q _ => by rw [add_gm, gm_assoc])
    · simp only [if_neg h]
  inj v w := by
    constructor
    · intro h
      have hvi : v i = w i := by
        have := h i hi
        unfold tAdd at this
        rwa [if_neg (Ne.symm hne), if_neg (Ne.symm hne)] at this
      intro r hr
      have := h r hr
      unfold tAdd at this
      by_cases h1 : r = k
      · subst h1
        rw [if_pos rfl, if_pos rfl, hvi] at this
        have h2 := congrArg (· ^^^ gm c (w i)) this
        simpa [BitVec.xor_assoc] using h2
      · rwa [if_neg h1, if_neg h1] at this
    · intro h r hr
      unfold tAdd
      split
      · rw [h k hk, h i hi]
      · exact h r hr
  zero r := by unfold tAdd; dsimp only; rw [gm_zero]; simp

/-- the systems (R, B) and (R', B') have the same solutions, in each of the first L columns, and at 0 -/
structure Eqv (n L : Nat) (R B R' B' : List (List G)) : Prop where
  lr : R'.length = n
  lb : B'.length = n
  wr : ∀ r, r < n → (R'.getD r []).length = n
  wb : ∀ r, r < n → (B'.getD r []).length = L
  ker : ∀ x, Sol n (at2 R) (fun _ => 0) x ↔ Sol n (at2 R') (fun _ => 0) x
  sol : ∀ k, k < L → ∀ x, Sol n (at2 R) (fun r => at2 B r k) x ↔ Sol n (at2 R') (fun r => at2 B' r k) x
theorem Eqv.start {n L : Nat} {R B : List (List G)} (h1 : R.length = n) (h2 : B.length = n) (h3 : ∀ r, r < n → (R.getD r []).length = n) (h4 : ∀ r, r < n → (B.getD r []).length = L) : Eqv n L R B R B :=
  ⟨h1, h2, h3, h4, fun _ => Iff.rfl, fun _ _ _ => Iff.rfl⟩
theorem sol_op {n : Nat} {T : (Nat → G) → Nat → G} (hT : RowOp n T) {M M' : Nat → Nat → G} {b b' : Nat → G} (hM : ∀ r, r < n → ∀ c, c < n → M' r c = T (fun q => M q c) r) (hb : ∀ r, r < n → b' r = T b r) (x : Nat → G) :
    Sol n M b x ↔ Sol n M' b' x := by
  unfold Sol
  rw [← hT.inj]
  constructor
  · intro h r hr
    rw [hb r hr, ← h r hr, ← hT.lin M x r hr]
    exact lin_congr (fun c hc => hM r hr c hc)
  · intro h r hr
    rw [← hb r hr, ← h r hr, ← hT.lin M x r hr]
    exact (lin_congr (fun c hc => hM r hr c hc)).symm
theorem Eqv.step {n L : Nat} {R B R1 B1 R2 B2 : List (List G)} (h : Eqv n L R B R1 B1) {T : (Nat → G) → Nat → G} (hT : RowOp n T) (l1 : R2.length = n) (l2 : B2.length = n) (l3 : ∀ r, r < n → (R2.getD r []).length = n) (l4 : ∀ r, r < n → (B2.getD r []).length = L)
    (hR : ∀ r, r < n → ∀ c, c < n → at2 R2 r c = T (fun q => at2 R1 q c) r) (hB : ∀ r, r < n → ∀ k, k < L → at2 B2 r k = T (fun q => at2 B1 q k) r) : Eqv n L R B R2 B2 :=
  ⟨l1, l2, l3, l4, fun x => (h.ker x).trans (sol_op hT hR (fun r _ => (hT.zero r).symm) x), fun k hk x => (h.sol k hk x).trans (sol_op hT hR (fun r hr => hB r hr k hk) x)⟩

/-- the first i columns are those of the unit matrix -/
def UnitTo (n i : Nat) (R : List (List G)) : Prop := ∀ c, c < i → ∀ r, r < n → at2 R r c = if r = c then 1 else 0
theorem pivot {n L i : Nat} {R B R1 B1 : List (List G)} (hI : Inj n (at2 R)) (h : Eqv n L R B R1 B1) (hu : UnitTo n i R1) (hi : i < n) : ∃ p, i ≤ p ∧ p < n ∧ at2 R1 p i ≠ 0 := by
  apply Classical.byContradiction
  intro hn
  have hz : ∀ p, i ≤ p → p < n → at2 R1 p i = 0 := fun p h1 h2 => Classical.byContradiction fun h3 => hn ⟨p, h1, h2, h3⟩
  have hs : Sol n (at2 R1) (fun _ => 0) (fun c => if c < i then at2 R1 c i else if c = i then 1 else 0) := by
    intro r hr
    by_cases hri : r < i
    · have : lin n (at2 R1) (fun c => if c < i then at2 R1 c i else if c = i then 1 else 0) r = xsum n (fun c => (if c = r then at2 R1 r i else 0) ^^^ (if c = i then at2 R1 r i else 0)) := by
        apply xsum_congr
        intro c hc
        dsimp only
        by_cases h1 : c < i
        · rw [if_pos h1, hu c h1 r hr]
          by_cases h2 : r = c
          · subst h2; rw [if_pos rfl, if_pos rfl, if_neg (by omega), one_gm]; simp
          · rw [if_neg h2, if_neg (fun e => h2 e.symm), if_neg (by omega), zero_gm]; simp
        · rw [if_neg h1, if_neg (show ¬ c = r by omega)]
          by_cases h2 : c = i
          · subst h2; rw [if_pos rfl, if_pos rfl, gm_one]; simp
          · rw [if_neg h2, if_neg h2, gm_zero]; simp
      rw [this, xsum_add, xsum_one n _ r hr (fun q _ hq => if_neg hq), xsum_one n _ i hi (fun q _ hq => if_neg hq), if_pos rfl, if_pos rfl]; simp
    · apply xsum_zero
      intro c hc
      dsimp only
      by_cases h1 : c < i
      · rw [hu c h1 r hr, if_neg (by omega), zero_gm]
      · rw [if_neg h1]
        by_cases h2 : c = i
        · subst h2; rw [if_pos rfl, hz r (by omega) hr, zero_gm]
        · rw [if_neg h2, gm_zero]
  have := hI _ ((h.ker _).2 hs) i hi
  rw [if_neg (by omega), if_pos rfl] at this
  exact absurd this (by decide)
theorem unit_done {n L : Nat} {R B R1 B1 : List (List G)} (h : Eqv n L R B R1 B1) (hu : UnitTo n n R1) (k : Nat) (hk : k < L) : Sol n (at2 R) (fun r => at2 B r k) (fun c => at2 B1 c k) := by
  rw [h.sol k hk]
  intro r hr
  unfold lin
  rw [xsum_one n _ r hr (fun c hc hne => by rw [hu c hc r hr, if_neg (fun e => hne e.symm), zero_gm]), hu r hr r hr, if_pos rfl, one_gm]
theorem lin_sub (n : Nat) (M : Nat → Nat → G) (x y : Nat → G) (r : Nat) : lin n M (fun c => x c ^^^ y c) r = lin n M x r ^^^ lin n M y r := by
  unfold lin
  rw [← xsum_add]
  exact xsum_congr _ _ _ (fun c _ => gm_add _ _ _)
theorem sol_unique {n : Nat} {M : Nat → Nat → G} (hI : Inj n M) {b x y : Nat → G} (hx : Sol n M b x) (hy : Sol n M b y) : ∀ c, c < n → x c = y c := by
  intro c hc
  have := hI (fun c => x c ^^^ y c) (fun r hr => by rw [lin_sub, hx r hr, hy r hr]; simp) c hc
  exact (xor_eq_zero _ _).1 this
end Go.Proofs.Ytiggohkkokalcaa
