/- Linear systems over the field: row operations keep the solutions; the factors of lost blocks in parity blocks form a system with one solution. -/
import Derived.Test.YtiggohkkokalcaaLinPlain
namespace Go.Proofs.Ytiggohkkokalcaa

def lin (n : Nat) (M : Nat → Nat → G) (x : Nat → G) (r : Nat) : G := xsum n (fun c => gm (M r c) (x c))
/-- only 0 is mapped to 0 -/
def Inj (n : Nat) (M : Nat → Nat → G) : Prop := ∀ x : Nat → G, (∀ r, r < n → lin n M x r = 0) → ∀ c, c < n → x c = 0
def Sol (n : Nat) (M : Nat → Nat → G) (b x : Nat → G) : Prop := ∀ r, r < n → lin n M x r = b r

theorem xsum_zero (n : Nat) (f : Nat → G) (h : ∀ i, i < n → f i = 0) : xsum n f = 0 := by
  induction n with
  | zero => rfl
  | succ n ih => rw [xsum, ih (fun i hi => h i (by omega)), h n (by omega)]; simp
theorem xsum_one (n : Nat) (f : Nat → G) (j : Nat) (hj : j < n) (h : ∀ i, i < n → i ≠ j → f i = 0) : xsum n f = f j := by
  induction n with
  | zero => omega
  | succ n ih =>
    rw [xsum]
    by_cases e : j = n
    · subst e
      rw [xsum_zero j f (fun i hi => h i (by omega) (by omega))]; simp
    · rw [ih (by omega) (fun i hi => h i (by omega)), h n (by omega) (fun e2 => e e2.symm)]; simp
theorem xor_eq_zero (a b : G) : a ^^^ b = 0 ↔ a = b := by
  constructor
  · intro h
    have : a ^^^ b ^^^ b = b := by rw [h]; simp
    rwa [BitVec.xor_assoc, BitVec.xor_self, BitVec.xor_zero] at this
  · rintro rfl; simp
theorem xor_eq (a b c : G) : a ^^^ b = c ↔ a = b ^^^ c := by
  constructor
  · rintro rfl; rw [xor_lc]; simp
  · rintro rfl; rw [BitVec.xor_comm b c, BitVec.xor_assoc]; simp

/-- the factors 1 / (x r + y c), x and y without repetition and apart: a system with one solution -/
theorem cauchy : ∀ (n : Nat) (x y : Nat → G), (∀ i j, i < n → j < n → i ≠ j → x i ≠ x j) → (∀ i j, i < n → j < n → i ≠ j → y i ≠ y j) → (∀ i j, i < n → j < n → x i ≠ y j) →
    Inj n (fun r c => ginv (x r ^^^ y c))
  | 0, _, _, _, _, _ => fun _ _ c hc => by omega
  | n + 1, x, y, hx, hy, hxy => by
    intro z hz
    have hd : ∀ i j, i < n + 1 → j < n + 1 → x i ^^^ y j ≠ 0 := fun i j hi hj h => hxy i j hi hj ((xor_eq_zero _ _).1 h)
    -- each equation, multiplied by x r + y n
    have h1 : ∀ r, r < n + 1 → xsum (n + 1) z ^^^ xsum n (fun c => gm (gm (z c) (y n ^^^ y c)) (ginv (x r ^^^ y c))) = 0 := by
      intro r hr
      have h := hz r hr
      have h2 : gm (x r ^^^ y n) (lin (n + 1) (fun r c => ginv (x r ^^^ y c)) z r) = 0 := by rw [h, gm_zero]
      unfold lin at h2
      rw [← xsum_gm] at h2
      have h3 : xsum (n + 1) (fun c => gm (x r ^^^ y n) (gm (ginv (x r ^^^ y c)) (z c))) = xsum (n + 1) (fun c => z c ^^^ gm (gm (z c) (y n ^^^ y c)) (ginv (x r ^^^ y c))) := by
        apply xsum_congr
        intro c hc
        have e : x r ^^^ y n = (x r ^^^ y c) ^^^ (y n ^^^ y c) := by
          rw [BitVec.xor_assoc, xor_lc (y c), BitVec.xor_self, BitVec.xor_zero]
        rw [e, add_gm, ← gm_assoc (x r ^^^ y c), gm_inv _ (hd r c hr hc), one_gm]
        congr 1
        rw [gm_assoc, gm_comm (z c), gm_assoc]
      rw [h3, xsum_add] at h2
      rw [xsum] at h2
      have h4 : gm (gm (z n) (y n ^^^ y n)) (ginv (x r ^^^ y n)) = 0 := by rw [BitVec.xor_self, show (0#8 : G) = 0 from rfl, gm_zero, zero_gm]
      rw [show xsum (n + 1) (fun i => gm (gm (z i) (y n ^^^ y i)) (ginv (x r ^^^ y i))) = xsum n (fun i => gm (gm (z i) (y n ^^^ y i)) (ginv (x r ^^^ y i))) from by rw [xsum, h4]; simp] at h2
      exact h2
    -- the difference of equation r and equation n, divided by x r + x n
    have h2 : ∀ r, r < n → lin n (fun r c => ginv (x r ^^^ y c)) (fun c => gm (gm (z c) (y n ^^^ y c)) (ginv (x n ^^^ y c))) r = 0 := by
      intro r hr
      have e1 := h1 r (by omega)
      have e2 := h1 n (by omega)
      have e3 : xsum n (fun c => gm (gm (z c) (y n ^^^ y c)) (ginv (x r ^^^ y c)) ^^^ gm (gm (z c) (y n ^^^ y c)) (ginv (x n ^^^ y c))) = 0 := by
        rw [xsum_add]
        rw [xor_eq_zero] at e1 e2 ⊢
        rw [← e1, ← e2]
      have hne : x r ^^^ x n ≠ 0 := fun h => hx r n (by omega) (by omega) (by omega) ((xor_eq_zero _ _).1 h)
      have e4 : gm (x r ^^^ x n) (lin n (fun r c => ginv (x r ^^^ y c)) (fun c => gm (gm (z c) (y n ^^^ y c)) (ginv (x n ^^^ y c))) r) = 0 := by
        unfold lin
        rw [← xsum_gm, ← e3]
        apply xsum_congr
        intro c hc
        dsimp only
        generalize gm (z c) (y n ^^^ y c) = u
        have ha := hd r c (by omega) (by omega)
        have hb := hd n c (by omega) (by omega)
        have e : x r ^^^ x n = (x r ^^^ y c) ^^^ (x n ^^^ y c) := by
          rw [BitVec.xor_assoc, BitVec.xor_comm (x n) (y c), ← BitVec.xor_assoc (y c), BitVec.xor_self, BitVec.zero_xor]
        rw [e]
        generalize x r ^^^ y c = A at *
        generalize x n ^^^ y c = B at *
        rw [add_gm, ← gm_assoc A, gm_inv A ha, one_gm]
        have : gm B (gm (ginv A) (gm u (ginv B))) = gm u (ginv A) := by
          rw [gm_left_comm B, gm_left_comm B u, gm_inv B hb, gm_one, gm_comm]
        rw [this, BitVec.xor_comm]
      rcases (gm_eq_zero _ _).1 e4 with h | h
      · exact absurd h hne
      · exact h
    have h3 := cauchy n x y (fun i j hi hj => hx i j (by omega) (by omega)) (fun i j hi hj => hy i j (by omega) (by omega)) (fun i j hi hj => hxy i j (by omega) (by omega)) _ h2
    have h4 : ∀ c, c < n → z c = 0 := by
      intro c hc
      have := h3 c hc
      rcases (gm_eq_zero _ _).1 this with h | h
      · rcases (gm_eq_zero _ _).1 h with h | h
        · exact h
        · exact absurd ((xor_eq_zero _ _).1 h) (hy n c (by omega) (by omega) (by omega))
      · exact absurd h (ginv_ne _ (hd n c (by omega) (by omega)))
    intro c hc
    by_cases e : c < n
    · exact h4 c e
    · have : c = n := by omega
      subst this
      have h5 := hz 0 (by omega)
      unfold lin at h5
      rw [xsum_one (c + 1) _ c (by omega) (fun i hi hne => by rw [h4 i (by omega), gm_zero])] at h5
      rcases (gm_eq_zero _ _).1 h5 with h | h
      · exact absurd h (ginv_ne _ (hd 0 c (by omega) (by omega)))
      · exact h
end Go.Proofs.Ytiggohkkokalcaa
