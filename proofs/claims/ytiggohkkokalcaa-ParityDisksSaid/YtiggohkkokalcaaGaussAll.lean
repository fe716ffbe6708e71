/- Linear systems over the field: row operations keep the solutions; the factors of lost blocks in parity blocks form a system with one solution. Elimination: row operations keep the solutions of a system. -/
import Derived.Test.YtiggohkkokalcaaLinPlain
/-! Linear systems over the field: row operations keep the solutions; the factors of lost blocks in parity blocks form a system with one solution. -/
namespace Go.Proofs.Ytiggohkkokalcaa

def lin (n : Nat) (M : Nat → Nat → G) (x : Nat → G) (r : Nat) : G := xsum n (fun c => gm (M r c) (x c))
/-- only 0 is mapped to 0 -/
def Inj (n : Nat) (M : Nat → Nat → G) : Prop := ∀ x : Nat → G, (∀ r, r < n → lin n M x r = 0) → ∀ c, c < n → x c = 0
def Sol (n : Nat) (M : Nat → Nat → G) (b x : Nat → G) : Prop := ∀ r, r < n → lin n M x r = b r

theorem xsum_zero (n : Nat) (f : Nat → G) (h : ∀ i, i < n → f i = 0) : xsum n f = 0 := by
  induction n with
  | zero => rfl
  | succ n ih => rw [xsum, ih (fun i hi => h i (by omega)), h n (by omega)]; simp
theorem xsum_one (n : Nat) (f : Nat → G) (j : Nat) (hj : j < n) (h : ∀ i, i < n → i ≠ j → f i = 0) : xsum n f = f j := by
  induction n with
  | zero => omega
  | succ n ih =>
    rw [xsum]
    by_cases e : j = n
    · subst e
      rw [xsum_zero j f (fun i hi => h i (by omega) (by omega))]; simp
    · rw [ih (by omega) (fun i hi => h i (by omega)), h n (by omega) (fun e2 => e e2.symm)]; simp
theorem xor_eq_zero (a b : G) : a ^^^ b = 0 ↔ a = b := by
  constructor
  · intro h
    have : a ^^^ b ^^^ b = b := by rw [h]; simp
    rwa [BitVec.xor_assoc, BitVec.xor_self, BitVec.xor_zero] at this
  · rintro rfl; simp
theorem xor_eq (a b c : G) : a ^^^ b = c ↔ a = b ^^^ c := by
  constructor
  · rintro rfl; rw [xor_lc]; simp
  · rintro rfl; rw [BitVec.xor_comm b c, BitVec.xor_assoc]; simp

/-- the factors 1 / (x r + y c), x and y without repetition and apart: a system with one solution -/
theorem cauchy : ∀ (n : Nat) (x y : Nat → G), (∀ i j, i < n → j < n → i ≠ j → x i ≠ x j) → (∀ i j, i < n → j < n → i ≠ j → y i ≠ y j) → (∀ i j, i < n → j < n → x i ≠ y j) →
    Inj n (fun r c => ginv (x r ^^^ y c))
  | 0, _, _, _, _, _ => fun _ _ c hc => by omega
  | n + 1, x, y, hx, hy, hxy => by
    intro z hz
    have hd : ∀ i j, i < n + 1 → j < n + 1 → x i ^^^ y j ≠ 0 := fun i j hi hj h => hxy i j hi hj ((xor_eq_zero _ _).1 h)
    -- each equation, multiplied by x r + y n
    have h1 : ∀ r, r < n + 1 → xsum (n + 1) z ^^^ xsum n (fun c => gm (gm (z c) (y n ^^^ y c)) (ginv (x r ^^^ y c))) = 0 := by
      intro r hr
      have h := hz r hr
      have h2 : gm (x r ^^^ y n) (lin (n + 1) (fun r c => ginv (x r ^^^ y c)) z r) = 0 := by rw [h, gm_zero]
      unfold lin at h2
      rw [← xsum_gm] at h2
      have h3 : xsum (n + 1) (fun c => gm (x r ^^^ y n) (gm (ginv (x r ^^^ y c)) (z c))) = xsum (n + 1) (fun c => z c ^^^ gm (gm (z c) (y n ^^^ y c)) (ginv (x r ^^^ y c))) := by
        apply xsum_congr
        intro c hc
        have e : x r ^^^ y n = (x r ^^^ y c) ^^^ (y n ^^^ y c) := by
          rw [BitVec.xor_assoc, xor_lc (y c), BitVec.xor_self, BitVec.xor_zero]
        rw [e, add_gm, ← gm_assoc (x r ^^^ y c), gm_inv _ (hd r c hr hc), one_gm]
        congr 1
        rw [gm_assoc, gm_comm (z c), gm_assoc]
      rw [h3, xsum_add] at h2
      rw [xsum] at h2
      have h4 : gm (gm (z n) (y n ^^^ y n)) (ginv (x r ^^^ y n)) = 0 := by rw [BitVec.xor_self, show (0#8 : G) = 0 from rfl, gm_zero, zero_gm]
      rw [show xsum (n + 1) (fun i => gm (gm (z i) (y n ^^^ y i)) (ginv (x r ^^^ y i))) = xsum n (fun i => gm (gm (z i) (y n ^^^ y i)) (ginv (x r ^^^ y i))) from by rw [xsum, h4]; simp] at h2
      exact h2
    -- the difference of equation r and equation n, divided by x r + x n
    have h2 : ∀ r, r < n → lin n (fun r c => ginv (x r ^^^ y c)) (fun c => gm (gm (z c) (y n ^^^ y c)) (ginv (x n ^^^ y c))) r = 0 := by
      intro r hr
      have e1 := h1 r (by omega)
      have e2 := h1 n (by omega)
      have e3 : xsum n (fun c => gm (gm (z c) (y n ^^^ y c)) (ginv (x r ^^^ y c)) ^^^ gm (gm (z c) (y n ^^^ y c)) (ginv (x n ^^^ y c))) = 0 := by
        rw [xsum_add]
        rw [xor_eq_zero] at e1 e2 ⊢
        rw [← e1, ← e2]
      have hne : x r ^^^ x n ≠ 0 := fun h => hx r n (by omega) (by omega) (by omega) ((xor_eq_zero _ _).1 h)
      have e4 : gm (x r ^^^ x n) (lin n (fun r c => ginv (x r ^^^ y c)) (fun c => gm (gm (z c) (y n ^^^ y c)) (ginv (x n ^^^ y c))) r) = 0 := by
        unfold lin
        rw [← xsum_gm, ← e3]
        apply xsum_congr
        intro c hc
        dsimp only
        generalize gm (z c) (y n ^^^ y c) = u
        have ha := hd r c (by omega) (by omega)
        have hb := hd n c (by omega) (by omega)
        have e : x r ^^^ x n = (x r ^^^ y c) ^^^ (x n ^^^ y c) := by
          rw [BitVec.xor_assoc, BitVec.xor_comm (x n) (y c), ← BitVec.xor_assoc (y c), BitVec.xor_self, BitVec.zero_xor]
        rw [e]
        generalize x r ^^^ y c = A at *
        generalize x n ^^^ y c = B at *
        rw [add_gm, ← gm_assoc A, gm_inv A ha, one_gm]
        have : gm B (gm (ginv A) (gm u (ginv B))) = gm u (ginv A) := by
          rw [gm_left_comm B, gm_left_comm B u, gm_inv B hb, gm_one, gm_comm]
        rw [this, BitVec.xor_comm]
      rcases (gm_eq_zero _ _).1 e4 with h | h
      · exact absurd h hne
      · exact h
    have h3 := cauchy n x y (fun i j hi hj => hx i j (by omega) (by omega)) (fun i j hi hj => hy i j (by omega) (by omega)) (fun i j hi hj => hxy i j (by omega) (by omega)) _ h2
    have h4 : ∀ c, c < n → z c = 0 := by
      intro c hc
      have := h3 c hc
      rcases (gm_eq_zero _ _).1 this with h | h
      · rcases (gm_eq_zero _ _).1 h with h | h
        · exact h
        · exact absurd ((xor_eq_zero _ _).1 h) (hy n c (by omega) (by omega) (by omega))
      · exact absurd h (ginv_ne _ (hd n c (by omega) (by omega)))
    intro c hc
    by_cases e : c < n
    · exact h4 c e
    · have : c = n := by omega
      subst this
      have h5 := hz 0 (by omega)
      unfold lin at h5
      rw [xsum_one (c + 1) _ c (by omega) (fun i hi hne => by rw [h4 i (by omega), gm_zero])] at h5
      rcases (gm_eq_zero _ _).1 h5 with h | h
      · exact absurd h (ginv_ne _ (hd 0 c (by omega) (by omega)))
      · exact h
end Go.Proofs.Ytiggohkkokalcaa

/-! Elimination: row operations keep the solutions of a system. -/
namespace Go.Proofs.Ytiggohkkokalcaa

theorem lin_congr {n : Nat} {M M' : Nat → Nat → G} {x : Nat → G} {r : Nat} (h : ∀ c, c < n → M r c = M' r c) : lin n M x r = lin n M' x r :=
  xsum_congr n _ _ (fun c hc => by rw [h c hc])
/-- an operation on the rows, told of one column -/
structure RowOp (n : Nat) (T : (Nat → G) → Nat → G) : Prop where
  lin : ∀ (M : Nat → Nat → G) (x : Nat → G) (r : Nat), r < n → Go.Proofs.Ytiggohkkokalcaa.lin n (fun r c => T (fun q => M q c) r) x r = T (fun q => Go.Proofs.Ytiggohkkokalcaa.lin n M x q) r
  inj : ∀ v w : Nat → G, (∀ r, r < n → T v r = T w r) ↔ ∀ r, r < n → v r = w r
  zero : ∀ r, T (fun _ => 0) r = 0
def tSwap (i p : Nat) (v : Nat → G) (r : Nat) : G := if r = i then v p else if r = p then v i else v r
def tScale (i : Nat) (c : G) (v : Nat → G) (r : Nat) : G := if r = i then gm c (v i) else v r
def tAdd (k i : Nat) (c : G) (v : Nat → G) (r : Nat) : G := if r = k then v k ^^^ gm c (v i) else v r
theorem rowSwap {n i p : Nat} (hi : i < n) (hp : p < n) : RowOp n (tSwap i p) where
  lin M x r hr := by
    unfold tSwap lin
    by_cases h : r = i
    · simp only [if_pos h]
    · by_cases h2 : r = p
      · simp only [if_neg h, if_pos h2]
      · simp only [if_neg h, if_neg h2]
  inj v w := by
    constructor
    · intro h r hr
      by_cases h1 : r = i
      · subst h1
        have := h p hp
        unfold tSwap at this
        by_cases h2 : p = r
        · subst h2; simpa using this
        · simpa [h2] using this
      · by_cases h2 : r = p
        · subst h2
          have := h i hi
          simpa [tSwap] using this
        · have := h r hr
          simpa [tSwap, h1, h2] using this
    · intro h r hr
      unfold tSwap
      split
      · exact h p hp
      · split
        · exact h i hi
        · exact h r hr
  zero r := by unfold tSwap; simp
theorem rowScale {n i : Nat} {c : G} (hi : i < n) (hc : c ≠ 0) : RowOp n (tScale i c) where
  lin M x r hr := by
    unfold tScale lin
    by_cases h : r = i
    · simp only [if_pos h]
      rw [← xsum_gm]
      exact xsum_congr _ _ _ (fun q _ => gm_assoc _ _ _)
    · simp only [if_neg h]
  inj v w := by
    constructor
    · intro h r hr
      have := h r hr
      unfold tScale at this
      by_cases h1 : r = i
      · subst h1
        rw [if_pos rfl, if_pos rfl] at this
        have h2 : gm (ginv c) (gm c (v r)) = gm (ginv c) (gm c (w r)) := by rw [this]
        rwa [← gm_assoc, ← gm_assoc, gm_comm (ginv c), gm_inv c hc, one_gm, one_gm] at h2
      · rwa [if_neg h1, if_neg h1] at this
    · intro h r hr
      unfold tScale
      split
      · rw [h i hi]
      · exact h r hr
  zero r := by unfold tScale; dsimp only; rw [gm_zero]; simp
theorem rowAdd {n k i : Nat} {c : G} (hk : k < n) (hi : i < n) (hne : k ≠ i) : RowOp n (tAdd k i c) where
  lin M x r hr := by
    unfold tAdd lin
    by_cases h : r = k
    · simp only [if_pos h]
      rw [← xsum_gm, ← xsum_add]
      exact xsum_congr _ _ _ (fun q _ => by rw [add_gm, gm_assoc])
    · simp only [if_neg h]
  inj v w := by
    constructor
    · intro h
      have hvi : v i = w i := by
        have := h i hi
        unfold tAdd at this
        rwa [if_neg (Ne.symm hne), if_neg (Ne.symm hne)] at this
      intro r hr
      have := h r hr
      unfold tAdd at this
      by_cases h1 : r = k
      · subst h1
        rw [if_pos rfl, if_pos rfl, hvi] at this
        have h2 := congrArg (· ^^^ gm c (w i)) this
        simpa [BitVec.xor_assoc] using h2
      · rwa [if_neg h1, if_neg h1] at this
    · intro h r hr
      unfold tAdd
      split
      · rw [h k hk, h i hi]
      · exact h r hr
  zero r := by unfold tAdd; dsimp only; rw [gm_zero]; simp

/-- the systems (R, B) and (R', B') have the same solutions, in each of the first L columns, and at 0 -/
structure Eqv (n L : Nat) (R B R' B' : List (List G)) : Prop where
  lr : R'.length = n
  lb : B'.length = n
  wr : ∀ r, r < n → (R'.getD r []).length = n
  wb : ∀ r, r < n → (B'.getD r []).length = L
  ker : ∀ x, Sol n (at2 R) (fun _ => 0) x ↔ Sol n (at2 R') (fun _ => 0) x
  sol : ∀ k, k < L → ∀ x, Sol n (at2 R) (fun r => at2 B r k) x ↔ Sol n (at2 R') (fun r => at2 B' r k) x
theorem Eqv.start {n L : Nat} {R B : List (List G)} (h1 : R.length = n) (h2 : B.length = n) (h3 : ∀ r, r < n → (R.getD r []).length = n) (h4 : ∀ r, r < n → (B.getD r []).length = L) : Eqv n L R B R B :=
  ⟨h1, h2, h3, h4, fun _ => Iff.rfl, fun _ _ _ => Iff.rfl⟩
theorem sol_op {n : Nat} {T : (Nat → G) → Nat → G} (hT : RowOp n T) {M M' : Nat → Nat → G} {b b' : Nat → G} (hM : ∀ r, r < n → ∀ c, c < n → M' r c = T (fun q => M q c) r) (hb : ∀ r, r < n → b' r = T b r) (x : Nat → G) :
    Sol n M b x ↔ Sol n M' b' x := by
  unfold Sol
  rw [← hT.inj]
  constructor
  · intro h r hr
    rw [hb r hr, ← h r hr, ← hT.lin M x r hr]
    exact lin_congr (fun c hc => hM r hr c hc)
  · intro h r hr
    rw [← hb r hr, ← h r hr, ← hT.lin M x r hr]
    exact (lin_congr (fun c hc => hM r hr c hc)).symm
theorem Eqv.step {n L : Nat} {R B R1 B1 R2 B2 : List (List G)} (h : Eqv n L R B R1 B1) {T : (Nat → G) → Nat → G} (hT : RowOp n T) (l1 : R2.length = n) (l2 : B2.length = n) (l3 : ∀ r, r < n → (R2.getD r []).length = n) (l4 : ∀ r, r < n → (B2.getD r []).length = L)
    (hR : ∀ r, r < n → ∀ c, c < n → at2 R2 r c = T (fun q => at2 R1 q c) r) (hB : ∀ r, r < n → ∀ k, k < L → at2 B2 r k = T (fun q => at2 B1 q k) r) : Eqv n L R B R2 B2 :=
  ⟨l1, l2, l3, l4, fun x => (h.ker x).trans (sol_op hT hR (fun r _ => (hT.zero r).symm) x), fun k hk x => (h.sol k hk x).trans (sol_op hT hR (fun r hr => hB r hr k hk) x)⟩

/-- the first i columns are those of the unit matrix -/
def UnitTo (n i : Nat) (R : List (List G)) : Prop := ∀ c, c < i → ∀ r, r < n → at2 R r c = if r = c then 1 else 0
theorem pivot {n L i : Nat} {R B R1 B1 : List (List G)} (hI : Inj n (at2 R)) (h : Eqv n L R B R1 B1) (hu : UnitTo n i R1) (hi : i < n) : ∃ p, i ≤ p ∧ p < n ∧ at2 R1 p i ≠ 0 := by
  apply Classical.byContradiction
  intro hn
  have hz : ∀ p, i ≤ p → p < n → at2 R1 p i = 0 := fun p h1 h2 => Classical.byContradiction fun h3 => hn ⟨p, h1, h2, h3⟩
  have hs : Sol n (at2 R1) (fun _ => 0) (fun c => if c < i then at2 R1 c i else if c = i then 1 else 0) := by
    intro r hr
    by_cases hri : r < i
    · have : lin n (at2 R1) (fun c => if c < i then at2 R1 c i else if c = i then 1 else 0) r = xsum n (fun c => (if c = r then at2 R1 r i else 0) ^^^ (if c = i then at2 R1 r i else 0)) := by
        apply xsum_congr
        intro c hc
        dsimp only
        by_cases h1 : c < i
        · rw [if_pos h1, hu c h1 r hr]
          by_cases h2 : r = c
          · subst h2; rw [if_pos rfl, if_pos rfl, if_neg (by omega), one_gm]; simp
          · rw [if_neg h2, if_neg (fun e => h2 e.symm), if_neg (by omega), zero_gm]; simp
        · rw [if_neg h1, if_neg (show ¬ c = r by omega)]
          by_cases h2 : c = i
          · subst h2; rw [if_pos rfl, if_pos rfl, gm_one]; simp
          · rw [if_neg h2, if_neg h2, gm_zero]; simp
      rw [this, xsum_add, xsum_one n _ r hr (fun q _ hq => if_neg hq), xsum_one n _ i hi (fun q _ hq => if_neg hq), if_pos rfl, if_pos rfl]; simp
    · apply xsum_zero
      intro c hc
      dsimp only
      by_cases h1 : c < i
      · rw [hu c h1 r hr, if_neg (by omega), zero_gm]
      · rw [if_neg h1]
        by_cases h2 : c = i
        · subst h2; rw [if_pos rfl, hz r (by omega) hr, zero_gm]
        · rw [if_neg h2, gm_zero]
  have := hI _ ((h.ker _).2 hs) i hi
  rw [if_neg (by omega), if_pos rfl] at this
  exact absurd this (by decide)
theorem unit_done {n L : Nat} {R B R1 B1 : List (List G)} (h : Eqv n L R B R1 B1) (hu : UnitTo n n R1) (k : Nat) (hk : k < L) : Sol n (at2 R) (fun r => at2 B r k) (fun c => at2 B1 c k) := by
  rw [h.sol k hk]
  intro r hr
  unfold lin
  rw [xsum_one n _ r hr (fun c hc hne => by rw [hu c hc r hr, if_neg (fun e => hne e.symm), zero_gm]), hu r hr r hr, if_pos rfl, one_gm]
theorem lin_sub (n : Nat) (M : Nat → Nat → G) (x y : Nat → G) (r : Nat) : lin n M (fun c => x c ^^^ y c) r = lin n M x r ^^^ lin n M y r := by
  unfold lin
  rw [← xsum_add]
  exact xsum_congr _ _ _ (fun c _ => gm_add _ _ _)
theorem sol_unique {n : Nat} {M : Nat → Nat → G} (hI : Inj n M) {b x y : Nat → G} (hx : Sol n M b x) (hy : Sol n M b y) : ∀ c, c < n → x c = y c := by
  intro c hc
  have := hI (fun c => x c ^^^ y c) (fun r hr => by rw [lin_sub, hx r hr, hy r hr]; simp) c hc
  exact (xor_eq_zero _ _).1 this
end Go.Proofs.Ytiggohkkokalcaa
