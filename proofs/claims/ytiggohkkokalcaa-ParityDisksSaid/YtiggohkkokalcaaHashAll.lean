/- The hash in plain numbers: the words of a byte sequence, the mixing of words. The walks of package hash's mix and of the reference's. The walks of package hash's words: its iterators over the words of a row of bytes and of a string. The walks of package hash's Sum and Bytes. The walk of package hash's Bytes. -/
import Derived.Test.YtiggohkkokalcaaFac
import Derived.Test.YtiggohkkokalcaaMem
import Derived.Laws.BitsAllLaws
import Derived.Laws.Bits64
import Derived.RangeFuncBox
import Derived.RangeFuncLeaves
import Derived.Shelf.Abstract
import Derived.WalkKit
import Derived.OwnWalkIn
import Derived.TacticsInMore
import Derived.LoopNIn
import Derived.LoopIn
import Derived.Maps.AppendAt
import Derived.Laws.ShiftsVarLaws
import Derived.Test.YtiggohkkokalcaaChkPlain
import Derived.RangeFuncNested
import Derived.RangeFuncBound
import Derived.RangeFuncCalls
/-! The hash in plain numbers: the words of a byte sequence, the mixing of words. -/
namespace Go.Proofs.Ytiggohkkokalcaa
set_option linter.unusedVariables false

/-- the number whose bytes are these, the lowest one first -/
def leN : List G → Nat
  | [] => 0
  | a :: l => a.toNat + 256 * leN l
theorem leN_snoc (l : List G) (a : G) : leN (l ++ [a]) = leN l + 256 ^ l.length * a.toNat := by
  induction l with
  | nil => simp [leN]
  | cons b l ih =>
    simp only [List.cons_append, leN, ih, List.length_cons, Nat.pow_succ, Nat.mul_add]
    rw [Nat.mul_comm (256 ^ l.length) 256, Nat.mul_assoc]
    omega
theorem leN_lt (l : List G) : leN l < 256 ^ l.length := by
  induction l with
  | nil => simp [leN]
  | cons b l ih =>
    have := b.isLt
    simp only [leN, List.length_cons, Nat.pow_succ]
    omega
/-- the bytes from place i to place k -/
def piece (bs : List G) (i k : Nat) : List G := (bs.drop i).take (k - i)
theorem piece_length (bs : List G) (i k : Nat) (h : i ≤ k) (hk : k ≤ bs.length) : (piece bs i k).length = k - i := by
  unfold piece; rw [List.length_take, List.length_drop]; omega
theorem piece_self (bs : List G) (i : Nat) : piece bs i i = [] := by unfold piece; simp
theorem piece_snoc (bs : List G) (i k : Nat) (h : i ≤ k) (hk : k < bs.length) : piece bs i (k + 1) = piece bs i k ++ [bs.getD k 0] := by
  unfold piece
  rw [show k + 1 - i = (k - i) + 1 by omega, List.take_add_one, List.getElem?_drop, show i + (k - i) = k by omega, List.getD_eq_getElem?_getD, List.getElem?_eq_getElem hk]
  rfl
theorem piece_cons (bs : List G) (i k : Nat) (h : i < k) (hk : k ≤ bs.length) : piece bs i k = bs.getD i 0 :: piece bs (i + 1) k := by
  unfold piece
  rw [List.drop_eq_getElem_cons (by omega : i < bs.length), show k - i = (k - (i + 1)) + 1 by omega, List.take_succ_cons, List.getD_eq_getElem?_getD, List.getElem?_eq_getElem (by omega)]
  rfl
/-- the word from place i on -/
def wordN (bs : List G) (i : Nat) : Nat := leN (piece bs i (min (i + 8) bs.length))
theorem wordN_lt (bs : List G) (i : Nat) (h : i ≤ bs.length) : wordN bs i < 2 ^ 64 := by
  have h1 := leN_lt (piece bs i (min (i + 8) bs.length))
  rw [piece_length _ _ _ (by omega) (by omega)] at h1
  have h2 : 256 ^ (min (i + 8) bs.length - i) ≤ 256 ^ 8 := Nat.pow_le_pow_right (by decide) (by omega)
  have h3 : (256 : Nat) ^ 8 = 2 ^ 64 := by decide
  unfold wordN
  omega
/-- the first k words -/
def wordsTo (bs : List G) (k : Nat) : List Nat := (List.range k).map fun i => wordN bs (8 * i)
theorem wordsTo_succ (bs : List G) (k : Nat) : wordsTo bs (k + 1) = wordsTo bs k ++ [wordN bs (8 * k)] := by simp [wordsTo, List.range_succ]
theorem wordsTo_length (bs : List G) (k : Nat) : (wordsTo bs k).length = k := by simp [wordsTo]
def wordsN (bs : List G) : List Nat := wordsTo bs ((bs.length + 7) / 8)
theorem wordsTo_getD (bs : List G) (k i : Nat) (h : i < k) : (wordsTo bs k).getD i 0 = wordN bs (8 * i) := by simp [wordsTo, h]
/-- a byte joins a word -/
theorem word_or (l : List G) (a : G) (n : Nat) (h : l.length = n) : leN l ||| (a.toNat <<< (8 * n)) = leN (l ++ [a]) := by
  have h1 := leN_lt l
  rw [h] at h1
  rw [leN_snoc, h, Nat.shiftLeft_eq, Nat.or_comm, Nat.mul_comm a.toNat]
  have e : (256 : Nat) ^ n = 2 ^ (8 * n) := by rw [Nat.pow_mul]
  rw [e] at h1 ⊢
  rw [← Nat.two_pow_add_eq_or_of_lt h1]
  omega
/-- the factor of the hash -/
def mulN : Nat := 11400714819323198485
def mixN (s w : Nat) : Nat := (((s ^^^ w) * mulN) % 2 ^ 64) ^^^ ((((s ^^^ w) * mulN) % 2 ^ 64) / 2 ^ 32)
theorem mixN_lt (s w : Nat) : mixN s w < 2 ^ 64 := by
  unfold mixN
  generalize (s ^^^ w) * mulN = t
  have h1 : t % 2 ^ 64 < 2 ^ 64 := Nat.mod_lt _ (Nat.two_pow_pos 64)
  generalize t % 2 ^ 64 = u at *
  exact Nat.xor_lt_two_pow h1 (Nat.lt_of_le_of_lt (Nat.div_le_self _ _) h1)
/-- an int as a word -/
def uN (n : Int) : Nat := (IntKind.u64.wrap n).toNat
def foldN (s : Nat) (l : List Nat) : Nat := l.foldl mixN s
theorem foldN_snoc (s : Nat) (l : List Nat) (x : Nat) : foldN s (l ++ [x]) = mixN (foldN s l) x := by unfold foldN; rw [List.foldl_append, List.foldl_cons, List.foldl_nil]
def sumN (lab : List G) (l : List Int) : Nat := mixN (foldN (mixN (mixN (foldN 0 (wordsN lab)) lab.length) l.length) (l.map uN)) 0
/-- a word as an int -/
def iN (n : Nat) : Int := IntKind.i64.wrap (n : Int)
def bytesN (lab bs : List G) : Nat := sumN lab ((wordsN bs).map iN ++ [(bs.length : Int)])
def labG : List G := [0x70, 0x61, 0x72, 0x69, 0x74, 0x79]
/-- the hash of a block -/
def hashG (bs : List G) : Nat := bytesN labG bs
theorem foldN_lt (s : Nat) (l : List Nat) (h : s < 2 ^ 64) : foldN s l < 2 ^ 64 := by
  induction l generalizing s with
  | nil => exact h
  | cons x l ih =>
    have h1 := ih (mixN s x) (mixN_lt s x)
    have e : foldN s (x :: l) = foldN (mixN s x) l := by unfold foldN; rw [List.foldl_cons]
    rw [e]; exact h1
theorem sumN_lt (lab : List G) (l : List Int) : sumN lab l < 2 ^ 64 := by unfold sumN; exact mixN_lt _ _
theorem hashG_lt (bs : List G) : hashG bs < 2 ^ 64 := by unfold hashG bytesN; exact sumN_lt _ _
/-- all hashes of a group -/
def hashesG (data par : List (List G)) : List Nat := (data ++ par).map hashG
end Go.Proofs.Ytiggohkkokalcaa

/-! The walks of package hash's mix and of the reference's. -/
namespace Go.Proofs.Ytiggohkkokalcaa
open Go.RowKit Go.Proofs.YtiggohkkokalcaaW.PrintWords
set_option linter.unusedVariables false

theorem u64_xor_nat (a b : Nat) (ha : a < 2 ^ 64) (hb : b < 2 ^ 64) : bits .xor .u64 (a : Int) (b : Int) = ((a ^^^ b : Nat) : Int) := by
  have hx : a ^^^ b < 2 ^ 64 := Nat.xor_lt_two_pow ha hb
  have e : (2 : Nat) ^ 64 = 18446744073709551616 := by decide
  rw [e] at ha hb hx
  show IntKind.u64.wrap ((BitVec.ofInt 64 (a : Int) ^^^ BitVec.ofInt 64 (b : Int)).toNat : Int) = _
  rw [BitVec.toNat_xor, ofInt_u64 a ha, ofInt_u64 b hb, IntKind.wrap_u64]
  generalize a ^^^ b = x at *
  omega
theorem u64_or_nat (a b : Nat) (ha : a < 2 ^ 64) (hb : b < 2 ^ 64) : bits .or .u64 (a : Int) (b : Int) = ((a ||| b : Nat) : Int) := by
  have hx : a ||| b < 2 ^ 64 := Nat.or_lt_two_pow ha hb
  have e : (2 : Nat) ^ 64 = 18446744073709551616 := by decide
  rw [e] at ha hb hx
  show IntKind.u64.wrap ((BitVec.ofInt 64 (a : Int) ||| BitVec.ofInt 64 (b : Int)).toNat : Int) = _
  rw [BitVec.toNat_or, ofInt_u64 a ha, ofInt_u64 b hb, IntKind.wrap_u64]
  generalize a ||| b = x at *
  omega
theorem u64_wrap_nat (n : Nat) : IntKind.u64.wrap (n : Int) = ((n % 2 ^ 64 : Nat) : Int) := by
  rw [IntKind.wrap_u64, show (2 : Nat) ^ 64 = 18446744073709551616 by decide]
  omega
theorem mix_mul (s w : Nat) (hs : s < 2 ^ 64) (hw : w < 2 ^ 64) : IntKind.u64.wrap (bits .xor .u64 (s : Int) (w : Int) * 11400714819323198485) = ((((s ^^^ w) * mulN) % 2 ^ 64 : Nat) : Int) := by
  rw [u64_xor_nat s w hs hw, show (11400714819323198485 : Int) = ((mulN : Nat) : Int) from rfl, ← Int.natCast_mul, u64_wrap_nat]
theorem mix_val (s w : Nat) (hs : s < 2 ^ 64) (hw : w < 2 ^ 64) :
    bits .xor .u64 (IntKind.u64.wrap (bits .xor .u64 (s : Int) (w : Int) * 11400714819323198485)) (IntKind.u64.wrap (bits .xor .u64 (s : Int) (w : Int) * 11400714819323198485) / 4294967296) = ((mixN s w : Nat) : Int) := by
  rw [mix_mul s w hs hw]
  unfold mixN
  generalize (s ^^^ w) * mulN = t
  have h1 : t % 2 ^ 64 < 2 ^ 64 := Nat.mod_lt _ (Nat.two_pow_pos 64)
  generalize t % 2 ^ 64 = u at *
  have h2 : u / 2 ^ 32 < 2 ^ 64 := Nat.lt_of_le_of_lt (Nat.div_le_self _ _) h1
  rw [show ((u : Int) / 4294967296) = ((u / 2 ^ 32 : Nat) : Int) by rw [show (2 : Nat) ^ 32 = 4294967296 by decide]; omega]
  exact u64_xor_nat _ _ h1 h2
theorem mix_val2 (s w : Nat) (hs : s < 2 ^ 64) (hw : w < 2 ^ 64) :
    bits .xor .u64 (IntKind.u64.wrap (bits .xor .u64 (s : Int) (w : Int) * 11400714819323198485)) (IntKind.u64.wrap ((IntKind.u64.wrap (bits .xor .u64 (s : Int) (w : Int) * 11400714819323198485)).tdiv 4294967296)) = ((mixN s w : Nat) : Int) := by
  rw [← mix_val s w hs hw, mix_mul s w hs hw, Int.tdiv_eq_ediv_of_nonneg (Int.natCast_nonneg _)]
  have h1 : ((s ^^^ w) * mulN) % 2 ^ 64 < 2 ^ 64 := Nat.mod_lt _ (Nat.two_pow_pos 64)
  generalize ((s ^^^ w) * mulN) % 2 ^ 64 = u at *
  have h2 : u / 2 ^ 32 < 2 ^ 64 := Nat.lt_of_le_of_lt (Nat.div_le_self _ _) h1
  rw [show ((u : Int) / 4294967296) = ((u / 2 ^ 32 : Nat) : Int) by rw [show (2 : Nat) ^ 32 = 4294967296 by decide]; omega, u64_wrap_nat, Nat.mod_eq_of_lt h2]
theorem ret_u64 {a b : Int} (h : a = b) : Ending.returned (.int .u64 a) = .returned (.int .u64 b) := by rw [h]

set_option maxRecDepth 100000 in
set_option maxHeartbeats 1000000 in
theorem mix_any (s w : Nat) (W : World) (hs : s < 2 ^ 64) (hw : w < 2 ^ 64) : Calls Try.prog 72 #[.int .u64 (s : Int), .int .u64 (w : Int)] W fun e w' => e = .returned (.int .u64 (mixN s w : Int)) ∧ W = w' := by
  have HV := Lib.hid (mix_val s w hs hw)
  clear hs hw
  generalize ((mixN s w : Nat) : Int) = r at *
  generalize (s : Int) = a at *
  generalize (w : Int) = b at *
  go_enter Try.func72, Try.ntmps72
  go_wp2
  go_ret
  exact ⟨ret_u64 HV.out, rfl⟩
set_option maxRecDepth 100000 in
set_option maxHeartbeats 1000000 in
theorem refmix_any (s w : Nat) (W : World) (hs : s < 2 ^ 64) (hw : w < 2 ^ 64) : Calls Try.prog 80 #[.int .u64 (s : Int), .int .u64 (w : Int)] W fun e w' => e = .returned (.int .u64 (mixN s w : Int)) ∧ W = w' := by
  have HV := Lib.hid (mix_val2 s w hs hw)
  clear hs hw
  generalize ((mixN s w : Nat) : Int) = r at *
  generalize (s : Int) = a at *
  generalize (w : Int) = b at *
  go_enter Try.func80, Try.ntmps80
  go_wp2
  go_ret
  exact ⟨ret_u64 HV.out, rfl⟩
end Go.Proofs.Ytiggohkkokalcaa

/-! The walks of package hash's words: its iterators over the words of a row of bytes and of a string. -/
namespace Go.Proofs.Ytiggohkkokalcaa
open Go.RowKit Go.Shelf Go.Proofs.YtiggohkkokalcaaW.PrintWords Go.Proofs.YtiggohkkokalcaaW.PrintMore
set_option linter.unusedVariables false
set_option linter.unusedSimpArgs false
attribute [local go_sem] Oper.semAt_some
attribute [local go_sem] min2_int min_two

abbrev U := BitVec 64
/-- the words, as words of 64 bits -/
def wordsU (bs : List G) (m : Nat) : List U := (wordsTo bs m).map (BitVec.ofNat 64)
def wordsA (bs : List G) : List U := wordsU bs ((bs.length + 7) / 8)
theorem wordsU_length (bs : List G) (m : Nat) : (wordsU bs m).length = m := by unfold wordsU; rw [List.length_map]; exact wordsTo_length _ _
theorem wordsU_succ (bs : List G) (m : Nat) : wordsU bs (m + 1) = wordsU bs m ++ [BitVec.ofNat 64 (wordN bs (8 * m))] := by unfold wordsU; rw [wordsTo_succ, List.map_append]; rfl
theorem wordU_toNat (bs : List G) (i : Nat) (h : i ≤ bs.length) : (BitVec.ofNat 64 (wordN bs i)).toNat = wordN bs i := by
  rw [BitVec.toNat_ofNat]; exact Nat.mod_eq_of_lt (wordN_lt bs i h)
theorem wordsA_toNat (bs : List G) : (wordsA bs).map BitVec.toNat = wordsN bs := by
  unfold wordsA wordsU wordsN wordsTo
  rw [List.map_map, List.map_map]
  apply List.map_congr_left
  intro i hi
  rw [List.mem_range] at hi
  exact wordU_toNat bs (8 * i) (by omega)
/-- what a round keeps: whatever lay below n₀; the box B of the iterator -/
def KeepBox (n₀ B : Nat) (t : TypeId) (W W' : World) : Prop := Below n₀ W W' ∧ ∀ v, Boxed W B t v → Boxed W' B t v
theorem KeepBox.t {n₀ B : Nat} {t : TypeId} {A C D : World} (h : KeepBox n₀ B t A C) (k : KeepBox n₀ B t C D) : KeepBox n₀ B t A D := ⟨h.1.trans k.1, fun v hv => k.2 v (h.2 v hv)⟩
theorem KeepBox.b {n₀ B : Nat} {t : TypeId} {w : World} (hn : n₀ ≤ w.heap.size) (hB : B < w.heap.size) (W : World) (l : Nat) (o o' : Obj) (hl : w.heap.size ≤ l) (h : W.heap[l]? = some o) (h1 : o.isCells = false) (h2 : o.isWalk = false) : KeepBox n₀ B t W (W.putObj l o') :=
  ⟨belowK_b hn W l o o' hl h h1 h2, fun v hv => hv.kept (grownBy_putObj' W l o') (fun e => by injection e with e; omega)⟩

theorem word_val (bs : List G) (i q : Nat) (h : i ≤ q) (hq : q < bs.length) (h8 : q < i + 8) :
    bits .or .u64 ((leN (piece bs i q) : Nat) : Int) (IntKind.u64.wrap (IntKind.u64.wrap (toI (bs.getD q 0)) * 2 ^ (8 * (q - i)))) = ((leN (piece bs i (q + 1)) : Nat) : Int) := by
  have hpl := piece_length bs i q h (Nat.le_of_lt hq)
  have hl := leN_lt (piece bs i q)
  rw [hpl] at hl
  have hw := word_or (piece bs i q) (bs.getD q 0) (q - i) hpl
  rw [← piece_snoc bs i q h hq, Nat.shiftLeft_eq] at hw
  generalize leN (piece bs i (q + 1)) = r at *
  generalize leN (piece bs i q) = x at *
  generalize bs.getD q 0 = y at *
  have hy := y.isLt
  have hd : q - i ≤ 7 := by omega
  generalize q - i = d at *
  have hp : (2 : Nat) ^ (8 * d) ≤ 2 ^ 56 := Nat.pow_le_pow_right (by decide) (by omega)
  have hb : y.toNat * 2 ^ (8 * d) < 2 ^ 64 := by
    have h1 : y.toNat * 2 ^ (8 * d) ≤ 255 * 2 ^ 56 := Nat.mul_le_mul (by omega) hp
    have h2 : 255 * 2 ^ 56 < 2 ^ 64 := by decide
    exact Nat.lt_of_le_of_lt h1 h2
  have hx : x < 2 ^ 64 := by
    have h1 : (256 : Nat) ^ d ≤ 256 ^ 7 := Nat.pow_le_pow_right (by decide) hd
    have h2 : (256 : Nat) ^ 7 < 2 ^ 64 := by decide
    exact Nat.lt_trans (Nat.lt_of_lt_of_le hl h1) h2
  have hyb : y.toNat < 2 ^ 64 := Nat.lt_trans hy (by decide)
  have e1 : IntKind.u64.wrap (toI y) = ((y.toNat : Nat) : Int) := by
    show IntKind.u64.wrap ((y.toNat : Nat) : Int) = _
    rw [u64_wrap_nat, Nat.mod_eq_of_lt hyb]
  have e2 : ((y.toNat : Nat) : Int) * 2 ^ (8 * d) = ((y.toNat * 2 ^ (8 * d) : Nat) : Int) := by rw [Int.natCast_mul, Int.natCast_pow]; rfl
  rw [e1, e2, u64_wrap_nat, Nat.mod_eq_of_lt hb, u64_or_nat _ _ hx hb, hw]
theorem V_low {α : Type} {d : Kd α} {e n₀ : Nat} {W W' : World} {v : Value} {xs : List α} (h : Kd.V d e W 0 (fun k => k < n₀) v xs) (hb : Below n₀ W W') : Kd.V d e W' 0 (fun k => k < n₀) v xs := by
  obtain ⟨A, c, rfl, hl, hf⟩ := h
  exact ⟨A, c, rfl, hl, Kd.F_step hf (fun k hk _ => hb.block k hk)⟩

set_option maxRecDepth 100000 in
set_option maxHeartbeats 4000000 in
theorem words1_in (F : Fence) (n : Nat) (h70 : F.fn 70) (hro : F.round = none) (hn : 1 ≤ n) (l Bs n₀ : Nat) (bs : List G) (A : Option Addr) (c : Nat) (hlen : bs.length ≤ 70000) (J Jx : List U → World → Prop)
    (hY : ∀ pre x W, J pre W → pre.length < (bs.length + 7) / 8 → YieldAt F (n - 1) Try.prog l #[.int .u64 ((x.toNat : Nat) : Int)] W fun e W' =>
      (e = .returned (.bool true) ∧ J (pre ++ [x]) W' ∧ KeepBox n₀ Bs 33 W W') ∨ (e = .returned (.bool false) ∧ Jx (pre ++ [x]) W'))
    (W : World) (hBs : Boxed W Bs 33 (.slice A bs.length c)) (hc : Vb W (fun k => k < n₀) (.slice A bs.length c) bs) (hn₀ : n₀ ≤ W.heap.size) (h0 : J [] W) :
    CallsIn F n Try.prog 70 #[.func (.yield l) #[] #[], .pointer (some ⟨Bs, 0, none⟩)] W fun e W' => (∃ v, e = .returned v) ∧
      (J (wordsA bs) W' ∨ (∃ pre, Jx pre W')) := by
  refine callsIn_of_wp Try.func70 rfl h70 ?_ hro
  simp only [Try.ntmps70, List.size_toArray, List.length_cons, List.length_nil, Nat.reduceAdd, Nat.reduceSub, Array.replicate_succ, Array.replicate_zero, List.push_toArray, List.append_toArray, List.nil_append, List.cons_append]
  have HC := Lib.hid hc
  clear hc
  gi_wp2
  gi_loopw [3] (fun i wr => ∃ m : Nat, i = .int .i64 ((8 * m : Nat) : Int) ∧ m ≤ (bs.length + 7) / 8 ∧ J (wordsU bs m) wr ∧ Hid (Below n₀ W wr) ∧ Hid (Boxed wr Bs 33 (.slice A bs.length c)))
    (fun i _ => bs.length + 8 - (intOf i).toNat)
  case atStart => exact ⟨0, rfl, Nat.zero_le _, h0, Lib.hid (Below.refl _ _), Lib.hid hBs⟩
  case round =>
    obtain ⟨m, rfl, hm, hJ, HB, HBX⟩ := hrel
    have hbx := HBX.out.cell
    obtain ⟨i, hi⟩ : ∃ i, i = 8 * m := ⟨_, rfl⟩
    rw [← hi]
    by_cases hlt : i < bs.length
    · have hi0 : (0 : Int) ≤ (i : Int) := by omega
      have hli : (i : Int) < (bs.length : Int) := by omega
      obtain ⟨e, he⟩ : ∃ e, e = min (i + 8) bs.length := ⟨_, rfl⟩
      have he1 : i < e := by omega
      have he2 : e ≤ bs.length := by omega
      have he3 : e ≤ i + 8 := by omega
      have HE := Lib.hid he
      have HI := Lib.hid hi
      have HS0 := Lib.hid (show leN (piece bs i i) = 0 by rw [piece_self]; rfl)
      by_cases h8 : i + 8 ≤ bs.length
      case pos =>
        have h8i : (i : Int) + 8 ≤ (bs.length : Int) := by omega
        have he4 : e = i + 8 := by omega
        have HE4 := Lib.hid he4
        clear he he4 hi
        gi_wp2
        gi_loop [4, 5] (fun w k => ∃ q : Nat, k = .int .i64 (q : Int) ∧ i ≤ q ∧ q ≤ e ∧ w = .int .u64 ((leN (piece bs i q) : Nat) : Int)) (fun _ k => e - (intOf k).toNat)
        case atStart => exact ⟨i, rfl, Nat.le_refl _, by omega, by rw [HS0.out]; rfl⟩
        case round =>
          obtain ⟨q, rfl, hq1, hq2, rfl⟩ := hrel
          by_cases hqe : q < e
          · obtain ⟨ad, rfl, hcell, _⟩ := Vb_cell (V_low HC.out HB.out) q (by omega)
            have hql : (q : Int) < (i : Int) + 8 := by have := HE4.out; omega
            have HWV := Lib.hid (word_val bs i q hq1 (by omega) (by omega))
            generalize hr : leN (piece bs i (q + 1)) = r at *
            have HR := Lib.hid hr
            clear hr
            generalize bs.getD q 0 = y at *
            generalize leN (piece bs i q) = x at *
            gi_wp2
            exact ⟨⟨q + 1, by go_num, by omega, by omega, by rw [HWV.out, HR.out]⟩, by simp [intOf]; omega⟩
          · obtain rfl : q = e := by omega
            have hx : leN (piece bs i q) = wordN bs i := by unfold wordN; rw [← HE.out]
            rw [hx]
            clear hx
            have HPL := Lib.hid (wordsU_length bs m)
            obtain ⟨fn, tmps, assign, body, hy, hR⟩ := hY (wordsU bs m) (BitVec.ofNat 64 (wordN bs i)) wr hJ (by rw [HPL.out]; have := HI.out; omega)
            rw [wordU_toNat bs i (Nat.le_of_lt hlt)] at hy
            have HWS : Hid (wordsU bs (m + 1) = wordsU bs m ++ [BitVec.ofNat 64 (wordN bs i)]) := Lib.hid (by rw [wordsU_succ, ← HI.out])
            have hnq : ¬ (q : Int) < (i : Int) + 8 := by have := HE4.out; omega
            have hnb : decide ((q : Int) < (i : Int) + 8) = false := decide_eq_false hnq
            generalize BitVec.ofNat 64 (wordN bs i) = xu at *
            generalize wordN bs i = x at *
            gi_wp2
            refine hR.mono ?_
            rintro e' W3 (⟨rfl, hJ3, hk3⟩ | ⟨rfl, hJx3⟩)
            · have hbx3 := (hk3.2 _ HBX.out).cell
              gi_wp2
              exact ⟨⟨m + 1, congrArg (Value.int .i64) (by have := HI.out; omega), by have := HI.out; omega, by rw [HWS.out]; exact hJ3, Lib.hid (HB.out.trans hk3.1), Lib.hid (hk3.2 _ HBX.out)⟩, by simp [intOf]; omega⟩
            · gi_wp2
              refine bodyPost_ret (results_none rfl _ _ _) rfl ?_
              exact ⟨⟨_, rfl⟩, .inr ⟨_, hJx3⟩⟩
      case neg =>
        have h8i : ¬ (i : Int) + 8 ≤ (bs.length : Int) := by omega
        have he4 : e = bs.length := by omega
        have HE4 := Lib.hid he4
        clear he he4 hi
        gi_wp2
        gi_loop [4, 5] (fun w k => ∃ q : Nat, k = .int .i64 (q : Int) ∧ i ≤ q ∧ q ≤ e ∧ w = .int .u64 ((leN (piece bs i q) : Nat) : Int)) (fun _ k => e - (intOf k).toNat)
        case atStart => exact ⟨i, rfl, Nat.le_refl _, by omega, by rw [HS0.out]; rfl⟩
        case round =>
          obtain ⟨q, rfl, hq1, hq2, rfl⟩ := hrel
          by_cases hqe : q < e
          · obtain ⟨ad, rfl, hcell, _⟩ := Vb_cell (V_low HC.out HB.out) q (by omega)
            have hql : (q : Int) < (bs.length : Int) := by have := HE4.out; omega
            have HWV := Lib.hid (word_val bs i q hq1 (by omega) (by omega))
            generalize hr : leN (piece bs i (q + 1)) = r at *
            have HR := Lib.hid hr
            clear hr
            generalize bs.getD q 0 = y at *
            generalize leN (piece bs i q) = x at *
            gi_wp2
            exact ⟨⟨q + 1, by go_num, by omega, by omega, by rw [HWV.out, HR.out]⟩, by simp [intOf]; omega⟩
          · obtain rfl : q = e := by omega
            have hx : leN (piece bs i q) = wordN bs i := by unfold wordN; rw [← HE.out]
            rw [hx]
            clear hx
            have HPL := Lib.hid (wordsU_length bs m)
            obtain ⟨fn, tmps, assign, body, hy, hR⟩ := hY (wordsU bs m) (BitVec.ofNat 64 (wordN bs i)) wr hJ (by rw [HPL.out]; have := HI.out; omega)
            rw [wordU_toNat bs i (Nat.le_of_lt hlt)] at hy
            have HWS : Hid (wordsU bs (m + 1) = wordsU bs m ++ [BitVec.ofNat 64 (wordN bs i)]) := Lib.hid (by rw [wordsU_succ, ← HI.out])
            have hnq : ¬ (q : Int) < (bs.length : Int) := by have := HE4.out; omega
            have hnb : decide (q < bs.length) = false := decide_eq_false (by omega)
            generalize BitVec.ofNat 64 (wordN bs i) = xu at *
            generalize wordN bs i = x at *
            gi_wp2
            refine hR.mono ?_
            rintro e' W3 (⟨rfl, hJ3, hk3⟩ | ⟨rfl, hJx3⟩)
            · have hbx3 := (hk3.2 _ HBX.out).cell
              gi_wp2
              exact ⟨⟨m + 1, congrArg (Value.int .i64) (by have := HI.out; omega), by have := HI.out; omega, by rw [HWS.out]; exact hJ3, Lib.hid (HB.out.trans hk3.1), Lib.hid (hk3.2 _ HBX.out)⟩, by simp [intOf]; omega⟩
            · gi_wp2
              refine bodyPost_ret (results_none rfl _ _ _) rfl ?_
              exact ⟨⟨_, rfl⟩, .inr ⟨_, hJx3⟩⟩
    · have hnl : ¬ (i : Int) < (bs.length : Int) := by omega
      obtain rfl : m = (bs.length + 7) / 8 := by omega
      gi_wp2
      go_end0
      exact ⟨⟨_, rfl⟩, .inl hJ⟩
/-- the bytes of a string -/
def sG (s : ByteArray) : List G := s.data.toList.map fun b => b.toBitVec
theorem sG_length (s : ByteArray) : (sG s).length = s.size := by unfold sG; rw [List.length_map]; exact Array.length_toList
theorem sG_at (s : ByteArray) (q : Nat) (h : q < s.size) : (s[q].toNat : Int) = toI ((sG s).getD q 0) := by
  have h1 : q < s.data.toList.length := Nat.lt_of_lt_of_eq h Array.length_toList.symm
  have e : (sG s).getD q 0 = s[q].toBitVec := by
    unfold sG
    rw [List.getD_eq_getElem?_getD, List.getElem?_map, List.getElem?_eq_getElem h1]
    rfl
  rw [e]; rfl
set_option maxRecDepth 100000 in
set_option maxHeartbeats 4000000 in
theorem words2_in (F : Fence) (n : Nat) (h81 : F.fn 81) (hro : F.round = none) (hn : 1 ≤ n) (l Bs n₀ : Nat) (s : ByteArray) (hlen : s.size ≤ 70000) (J Jx : List U → World → Prop)
    (hY : ∀ pre x W, J pre W → pre.length < (s.size + 7) / 8 → YieldAt F (n - 1) Try.prog l #[.int .u64 ((x.toNat : Nat) : Int)] W fun e W' =>
      (e = .returned (.bool true) ∧ J (pre ++ [x]) W' ∧ KeepBox n₀ Bs 9 W W') ∨ (e = .returned (.bool false) ∧ Jx (pre ++ [x]) W'))
    (W : World) (hBs : Boxed W Bs 9 (.string s)) (hn₀ : n₀ ≤ W.heap.size) (h0 : J [] W) :
    CallsIn F n Try.prog 81 #[.func (.yield l) #[] #[], .pointer (some ⟨Bs, 0, none⟩)] W fun e W' => (∃ v, e = .returned v) ∧
      (J (wordsA (sG s)) W' ∨ (∃ pre, Jx pre W')) := by
  refine callsIn_of_wp Try.func81 rfl h81 ?_ hro
  simp only [Try.ntmps81, List.size_toArray, List.length_cons, List.length_nil, Nat.reduceAdd, Nat.reduceSub, Array.replicate_succ, Array.replicate_zero, List.push_toArray, List.append_toArray, List.nil_append, List.cons_append]
  have HSL := Lib.hid (sG_length s)
  gi_wp2
  gi_loopw [3] (fun i wr => ∃ m : Nat, i = .int .i64 ((8 * m : Nat) : Int) ∧ m ≤ (s.size + 7) / 8 ∧ J (wordsU (sG s) m) wr ∧ Hid (Below n₀ W wr) ∧ Hid (Boxed wr Bs 9 (.string s)))
    (fun i _ => s.size + 8 - (intOf i).toNat)
  case atStart => exact ⟨0, rfl, Nat.zero_le _, h0, Lib.hid (Below.refl _ _), Lib.hid hBs⟩
  case round =>
    obtain ⟨m, rfl, hm, hJ, HB, HBX⟩ := hrel
    have hbx := HBX.out.cell
    obtain ⟨i, hi⟩ : ∃ i, i = 8 * m := ⟨_, rfl⟩
    rw [← hi]
    by_cases hlt : i < s.size
    · have hi0 : (0 : Int) ≤ (i : Int) := by omega
      have hli : (i : Int) < (s.size : Int) := by omega
      obtain ⟨e, he⟩ : ∃ e, e = min (i + 8) s.size := ⟨_, rfl⟩
      have he1 : i < e := by omega
      have he2 : e ≤ s.size := by omega
      have he3 : e ≤ i + 8 := by omega
      have HE := Lib.hid he
      have HI := Lib.hid hi
      have HS0 := Lib.hid (show leN (piece (sG s) i i) = 0 by rw [piece_self]; rfl)
      by_cases h8 : i + 8 ≤ s.size
      case pos =>
        have h8i : (i : Int) + 8 ≤ (s.size : Int) := by omega
        have he4 : e = i + 8 := by omega
        have HE4 := Lib.hid he4
        clear he he4 hi
        gi_wp2
        gi_loop [4, 5] (fun w k => ∃ q : Nat, k = .int .i64 (q : Int) ∧ i ≤ q ∧ q ≤ e ∧ w = .int .u64 ((leN (piece (sG s) i q) : Nat) : Int)) (fun _ k => e - (intOf k).toNat)
        case atStart => exact ⟨i, rfl, Nat.le_refl _, by omega, by rw [HS0.out]; rfl⟩
        case round =>
          obtain ⟨q, rfl, hq1, hq2, rfl⟩ := hrel
          by_cases hqe : q < e
          · have hqs : q < s.size := by omega
            have hgx := sG_at s q hqs
            have hql : (q : Int) < (i : Int) + 8 := by have := HE4.out; omega
            have HWV := Lib.hid (word_val (sG s) i q hq1 (by rw [HSL.out]; omega) (by omega))
            generalize hr : leN (piece (sG s) i (q + 1)) = r at *
            have HR := Lib.hid hr
            clear hr
            rw [← hgx] at HWV
            clear hgx
            generalize leN (piece (sG s) i q) = x at *
            gi_wp2
            exact ⟨⟨q + 1, by go_num, by omega, by omega, by rw [HWV.out, HR.out]⟩, by simp [intOf]; omega⟩
          · obtain rfl : q = e := by omega
            have hx : leN (piece (sG s) i q) = wordN (sG s) i := by unfold wordN; rw [HSL.out, ← HE.out]
            rw [hx]
            clear hx
            have HPL := Lib.hid (wordsU_length (sG s) m)
            obtain ⟨fn, tmps, assign, body, hy, hR⟩ := hY (wordsU (sG s) m) (BitVec.ofNat 64 (wordN (sG s) i)) wr hJ (by rw [HPL.out]; have := HI.out; omega)
            rw [wordU_toNat (sG s) i (by rw [HSL.out]; exact Nat.le_of_lt hlt)] at hy
            have HWS : Hid (wordsU (sG s) (m + 1) = wordsU (sG s) m ++ [BitVec.ofNat 64 (wordN (sG s) i)]) := Lib.hid (by rw [wordsU_succ, ← HI.out])
            have hnq : ¬ (q : Int) < (i : Int) + 8 := by have := HE4.out; omega
            have hnb : decide ((q : Int) < (i : Int) + 8) = false := decide_eq_false hnq
            generalize BitVec.ofNat 64 (wordN (sG s) i) = xu at *
            generalize wordN (sG s) i = x at *
            gi_wp2
            refine hR.mono ?_
            rintro e' W3 (⟨rfl, hJ3, hk3⟩ | ⟨rfl, hJx3⟩)
            · have hbx3 := (hk3.2 _ HBX.out).cell
              gi_wp2
              exact ⟨⟨m + 1, congrArg (Value.int .i64) (by have := HI.out; omega), by have := HI.out; omega, by rw [HWS.out]; exact hJ3, Lib.hid (HB.out.trans hk3.1), Lib.hid (hk3.2 _ HBX.out)⟩, by simp [intOf]; omega⟩
            · gi_wp2
              refine bodyPost_ret (results_none rfl _ _ _) rfl ?_
              exact ⟨⟨_, rfl⟩, .inr ⟨_, hJx3⟩⟩
      case neg =>
        have h8i : ¬ (i : Int) + 8 ≤ (s.size : Int) := by omega
        have he4 : e = s.size := by omega
        have HE4 := Lib.hid he4
        clear he he4 hi
        gi_wp2
        gi_loop [4, 5] (fun w k => ∃ q : Nat, k = .int .i64 (q : Int) ∧ i ≤ q ∧ q ≤ e ∧ w = .int .u64 ((leN (piece (sG s) i q) : Nat) : Int)) (fun _ k => e - (intOf k).toNat)
        case atStart => exact ⟨i, rfl, Nat.le_refl _, by omega, by rw [HS0.out]; rfl⟩
        case round =>
          obtain ⟨q, rfl, hq1, hq2, rfl⟩ := hrel
          by_cases hqe : q < e
          · have hqs : q < s.size := by omega
            have hgx := sG_at s q hqs
            have hql : (q : Int) < (s.size : Int) := by have := HE4.out; omega
            have HWV := Lib.hid (word_val (sG s) i q hq1 (by rw [HSL.out]; omega) (by omega))
            generalize hr : leN (piece (sG s) i (q + 1)) = r at *
            have HR := Lib.hid hr
            clear hr
            rw [← hgx] at HWV
            clear hgx
            generalize leN (piece (sG s) i q) = x at *
            gi_wp2
            exact ⟨⟨q + 1, by go_num, by omega, by omega, by rw [HWV.out, HR.out]⟩, by simp [intOf]; omega⟩
          · obtain rfl : q = e := by omega
            have hx : leN (piece (sG s) i q) = wordN (sG s) i := by unfold wordN; rw [HSL.out, ← HE.out]
            rw [hx]
            clear hx
            have HPL := Lib.hid (wordsU_length (sG s) m)
            obtain ⟨fn, tmps, assign, body, hy, hR⟩ := hY (wordsU (sG s) m) (BitVec.ofNat 64 (wordN (sG s) i)) wr hJ (by rw [HPL.out]; have := HI.out; omega)
            rw [wordU_toNat (sG s) i (by rw [HSL.out]; exact Nat.le_of_lt hlt)] at hy
            have HWS : Hid (wordsU (sG s) (m + 1) = wordsU (sG s) m ++ [BitVec.ofNat 64 (wordN (sG s) i)]) := Lib.hid (by rw [wordsU_succ, ← HI.out])
            have hnq : ¬ (q : Int) < (s.size : Int) := by have := HE4.out; omega
            have hnb : decide (q < s.size) = false := decide_eq_false (by omega)
            generalize BitVec.ofNat 64 (wordN (sG s) i) = xu at *
            generalize wordN (sG s) i = x at *
            gi_wp2
            refine hR.mono ?_
            rintro e' W3 (⟨rfl, hJ3, hk3⟩ | ⟨rfl, hJx3⟩)
            · have hbx3 := (hk3.2 _ HBX.out).cell
              gi_wp2
              exact ⟨⟨m + 1, congrArg (Value.int .i64) (by have := HI.out; omega), by have := HI.out; omega, by rw [HWS.out]; exact hJ3, Lib.hid (HB.out.trans hk3.1), Lib.hid (hk3.2 _ HBX.out)⟩, by simp [intOf]; omega⟩
            · gi_wp2
              refine bodyPost_ret (results_none rfl _ _ _) rfl ?_
              exact ⟨⟨_, rfl⟩, .inr ⟨_, hJx3⟩⟩
    · have hnl : ¬ (i : Int) < (s.size : Int) := by omega
      obtain rfl : m = (s.size + 7) / 8 := by omega
      gi_wp2
      go_end0
      exact ⟨⟨_, rfl⟩, .inl (by unfold wordsA; rw [HSL.out]; exact hJ)⟩
end Go.Proofs.Ytiggohkkokalcaa

/-! The walks of package hash's Sum and Bytes. -/
namespace Go.Proofs.Ytiggohkkokalcaa
open Go.RowKit Go.Shelf Go.Proofs.YtiggohkkokalcaaW.PrintWords Go.Proofs.YtiggohkkokalcaaW.PrintMore
set_option linter.unusedVariables false
set_option linter.unusedSimpArgs false
attribute [local go_sem] Oper.semAt_some

set_option maxHeartbeats 1000000 in
theorem wordsB_in (F : Fence) (n : Nat) (h47 : F.fn 47) (hro : F.round = none) (A : Option Addr) (len c : Nat) (w : World) :
    CallsIn F n Try.prog 47 #[.slice A len c] w fun e w' => e = .returned (.func (.func 70) #[] #[.pointer (some ⟨w.heap.size, 0, none⟩)]) ∧ w' = w.alloc (.cells #[.slice A len c] 33) := by
  refine callsIn_of_wp Try.func47 rfl h47 ?_ hro
  simp only [Try.ntmps47, List.size_toArray, List.length_cons, List.length_nil, Nat.reduceAdd, Nat.reduceSub, Array.replicate_succ, Array.replicate_zero, List.push_toArray, List.append_toArray, List.nil_append, List.cons_append]
  gi_wp2
  go_ret
  exact ⟨rfl, rfl⟩
set_option maxHeartbeats 1000000 in
theorem wordsS_in (F : Fence) (n : Nat) (h71 : F.fn 71) (hro : F.round = none) (s : ByteArray) (w : World) :
    CallsIn F n Try.prog 71 #[.string s] w fun e w' => e = .returned (.func (.func 81) #[] #[.pointer (some ⟨w.heap.size, 0, none⟩)]) ∧ w' = w.alloc (.cells #[.string s] 9) := by
  refine callsIn_of_wp Try.func71 rfl h71 ?_ hro
  simp only [Try.ntmps71, List.size_toArray, List.length_cons, List.length_nil, Nat.reduceAdd, Nat.reduceSub, Array.replicate_succ, Array.replicate_zero, List.push_toArray, List.append_toArray, List.nil_append, List.cons_append]
  gi_wp2
  go_ret
  exact ⟨rfl, rfl⟩
theorem boxed_below {W W' : World} {B : Nat} {t : TypeId} {v : Value} (h : Boxed W B t v) (hb : Below W.heap.size W W') : Boxed W' B t v := (hb.block B h.lt).trans h
theorem words2_stops (F : Fence) (n : Nat) (h81 : F.fn 81) (hro : F.round = none) (hn : 1 ≤ n) (Bs n₀ : Nat) (s : ByteArray) (hlen : s.size ≤ 70000) (w : World) (hBs : Boxed w Bs 9 (.string s)) (hn₀ : n₀ ≤ w.heap.size) :
    SeqStopsK F n Try.prog 81 #[.pointer (some ⟨Bs, 0, none⟩)] (fun x : U => #[Value.int .u64 ((x.toNat : Nat) : Int)]) (KeepBox n₀ Bs 9) (fun ys => ys = wordsA (sG s)) (fun _ => True) ((s.size + 7) / 8) w := fun l J Jx W hW _ _ hY h0 => by
  refine (words2_in F n h81 hro hn l Bs n₀ s hlen J Jx hY W (boxed_below hBs hW) (Nat.le_trans hn₀ hW.size) h0).mono ?_
  rintro e W' ⟨he, hj | ⟨pre, hj⟩⟩
  · exact ⟨he, .inl ⟨_, rfl, hj⟩⟩
  · exact ⟨he, .inr ⟨pre, trivial, hj⟩⟩
theorem words1_stops (F : Fence) (n : Nat) (h70 : F.fn 70) (hro : F.round = none) (hn : 1 ≤ n) (Bs n₀ : Nat) (bs : List G) (A : Option Addr) (c : Nat) (hlen : bs.length ≤ 70000) (w : World) (hBs : Boxed w Bs 33 (.slice A bs.length c)) (hc : Vb w (fun k => k < n₀) (.slice A bs.length c) bs) (hn₀ : n₀ ≤ w.heap.size) :
    SeqStopsK F n Try.prog 70 #[.pointer (some ⟨Bs, 0, none⟩)] (fun x : U => #[Value.int .u64 ((x.toNat : Nat) : Int)]) (KeepBox n₀ Bs 33) (fun ys => ys = wordsA bs) (fun _ => True) ((bs.length + 7) / 8) w := fun l J Jx W hW _ _ hY h0 => by
  refine (words1_in F n h70 hro hn l Bs n₀ bs A c hlen J Jx hY W (boxed_below hBs hW) (V_low hc (hW.mono hn₀)) (Nat.le_trans hn₀ hW.size) h0).mono ?_
  rintro e W' ⟨he, hj | ⟨pre, hj⟩⟩
  · exact ⟨he, .inl ⟨_, rfl, hj⟩⟩
  · exact ⟨he, .inr ⟨pre, trivial, hj⟩⟩
/-- the state behind some words -/
def stU (s : Nat) (pre : List U) : Nat := foldN s (pre.map BitVec.toNat)
theorem stU_snoc (s : Nat) (pre : List U) (x : U) : stU s (pre ++ [x]) = mixN (stU s pre) x.toNat := by unfold stU; rw [List.map_append]; exact foldN_snoc _ _ _
theorem stU_lt (s : Nat) (pre : List U) (h : s < 2 ^ 64) : stU s pre < 2 ^ 64 := foldN_lt _ _ h
theorem boxed_own' (B : Nat) (t : TypeId) (f : List U → Value) : Own (fun pre W => Boxed W B t (f pre)) := by
  intro pre X Y row hv hg hrow
  refine hv.kept hg (fun e' => ?_)
  obtain ⟨o, ho, hc⟩ := hrow B e'.symm
  rw [show X.heap[B]? = _ from hv] at ho; cases ho; cases hc

theorem lowX {α : Type} {d : Kd α} {e n₀ : Nat} {W W' : World} {v : Value} {xs : List α} (h : Kd.V d e W 0 (fun k => True ∧ k < n₀) v xs) (hb : Below n₀ W W') : Kd.V d e W' 0 (fun k => True ∧ k < n₀) v xs := by
  obtain ⟨A, c, rfl, hl, hf⟩ := h
  exact ⟨A, c, rfl, hl, Kd.F_step hf (fun k hk _ => hb.block k hk.2)⟩
theorem fold_take0 (s : Nat) (xs : List Int) : foldN s ((xs.take 0).map uN) = s := by rw [List.take_zero]; rfl
theorem uN_val (n : Int) : IntKind.u64.wrap n = ((uN n : Nat) : Int) := by
  have h : IntKind.u64.wrap n = n % 18446744073709551616 := rfl
  unfold uN
  rw [h]
  omega
theorem uN_lt (n : Int) : uN n < 2 ^ 64 := by
  have h := uN_val n
  have h' : IntKind.u64.wrap n = n % 18446744073709551616 := rfl
  rw [h'] at h
  omega

set_option maxRecDepth 100000 in
set_option maxHeartbeats 4000000 in
theorem hsum_in (n : Nat) (hn : 6 ≤ n) (s : ByteArray) (xs : List Int) (A : Option Addr) (c : Nat) (hs : s.size ≤ 70000) (hx : xs.length ≤ 70000) (w : World) (HX : Vi w (fun _ => True) (.slice A xs.length c) xs) :
    CallsIn Fence.wide n Try.prog 48 #[.string s, .slice A xs.length c] w fun e W' => e = .returned (.int .u64 (sumN (sG s) xs : Nat)) ∧ Below w.heap.size w W' := by
  have h1 : 1 ≤ n := by omega
  have HXX := Lib.hid (Kd.V_bound HX)
  clear HX
  refine callsIn_of_wp_marks Try.func48 rfl trivial ?_ rfl
  simp only [Try.ntmps48, List.size_toArray, List.length_cons, List.length_nil, Nat.reduceAdd, Nat.reduceSub, Array.replicate_succ, Array.replicate_zero, List.push_toArray, List.append_toArray, List.nil_append, List.cons_append]
  gi_wp2_with (refine ⟨trivial, ?_⟩; gi_at_call 71; refine (wordsS_in Fence.wide (n - 1) trivial rfl _ _).mono ?_; rintro e w' ⟨rfl, rfl⟩)
  have bS := Boxed.new w 40 (.int .u64 0)
  have bN := Boxed.new (w.alloc (.cells #[.int .u64 0] 40)) 9 (.string s)
  rw [World.size_alloc] at bN
  have hB0 : Below w.heap.size w ((w.alloc (.cells #[.int .u64 0] 40)).alloc (.cells #[.string s] 9)) := ((Below.refl _ w).alloc (Nat.le_refl _) _).alloc (by simp) _
  refine wpIn_rangeFunc_ownG rfl h1 (gf := 81) (lb := #[.pointer (some ⟨w.heap.size + 1, 0, none⟩)]) rfl trivial (enters_of Try.func81 (by kernel_rfl) rfl)
    (words2_stops Fence.wide (n - 1) trivial rfl (by omega) (w.heap.size + 1) w.heap.size s hs _ bN (by simp; omega)) KeepBox.t (KeepBox.b (by simp; omega) (by simp)) (Below.refl _ _) (fun _ => rfl)
    (fun pre W => Boxed W w.heap.size 40 (.int .u64 ((stU 0 pre : Nat) : Int)) ∧ Below w.heap.size w W)
    (fun _ _ _ => False)
    (OwnFrom.and (Own.from (boxed_own' w.heap.size 40 (fun pre => .int .u64 ((stU 0 pre : Nat) : Int))) _) (ownFrom_below (Nat.le_refl _) (by simp; omega)))
    (fun _ _ _ _ _ hs _ _ => hs)
    ⟨bS.alloc _, hB0⟩
    (fun x => { tmps := #[.string s, .slice A xs.length c, undef, undef, .int .u64 0, .pointer (some ⟨w.heap.size, 0, none⟩), .int .u64 ((x.toNat : Nat) : Int), undef, undef, .string s, .func (.func 81) #[] #[.pointer (some ⟨w.heap.size + 1, 0, none⟩)], .int .u64 ((x.toNat : Nat) : Int), undef, undef, undef, undef, undef, undef, undef, undef, undef, undef, undef, undef, undef, undef, undef, undef, undef, undef, undef, undef, undef, undef, undef, undef, undef], defers := [] }) ?assign ?body ?done ?stop
  case assign =>
    intro l x W K hK
    gi_wp2
    exact hK
  case body =>
    rintro l pre x W ⟨hv, hB⟩ hlt
    have hc := hv.cell
    have hf := hv.frozen
    have HM := Lib.hid (fun W => (callsIn_wide (n := n - 1 - 1 - 1)).2 (mix_any (stU 0 pre) x.toNat W (stU_lt 0 pre (Nat.two_pow_pos 64)) x.isLt))
    have HST := Lib.hid (stU_snoc 0 pre x)
    generalize hxx : x.toNat = xn at *
    clear hxx
    gi_wp2_with (refine ⟨trivial, fun _ => by omega, ?_⟩; gi_at_call 72; refine (CallsIn.inRound l (HM.out _)).mono ?_; rintro e w' ⟨rfl, rfl⟩)
    exact ⟨(KeepsOthers.setCell _ _ _).from _, ⟨(Below.refl w.heap.size W).setCell (p := ⟨w.heap.size, 0, none⟩) (Nat.le_refl _) _, fun v h => h.kept (grownBy_setCell' W w.heap.size _) (fun e => by injection e with e; omega)⟩, ⟨by rw [HST.out]; exact hv.set _, hB.setCell (Nat.le_refl _) _⟩⟩
  case done =>
    rintro D ys W hD rfl ⟨hv, hB⟩ hK
    have hDw : w.heap.size + 2 ≤ D := by simpa using hD
    have hv' : Hid (Boxed W w.heap.size 40 (.int .u64 ((foldN 0 (wordsN (sG s)) : Nat) : Int))) := Lib.hid (by have := hv; unfold stU at this; rw [wordsA_toNat] at this; exact this)
    clear hv
    have hs0 : foldN 0 (wordsN (sG s)) < 2 ^ 64 := foldN_lt _ _ (Nat.two_pow_pos 64)
    have HSL := Lib.hid (sG_length s)
    have HDEF : Hid (sumN (sG s) xs = mixN (foldN (mixN (mixN (foldN 0 (wordsN (sG s))) (sG s).length) xs.length) (xs.map uN)) 0) := Lib.hid rfl
    rw [HSL.out] at HDEF
    generalize foldN 0 (wordsN (sG s)) = s0 at *
    have HM := Lib.hid (fun s w W hs hw => (callsIn_wide (n := n - 1)).2 (mix_any s w W hs hw))
    have hl1 : mixN s0 s.size < 2 ^ 64 := mixN_lt _ _
    have hls : s.size < 2 ^ 64 := by omega
    have hlx : xs.length < 2 ^ 64 := by omega
    have hl2 : mixN (mixN s0 s.size) xs.length < 2 ^ 64 := mixN_lt _ _
    have e1 : IntKind.u64.wrap (s.size : Int) = (s.size : Int) := by rw [u64_wrap_nat, Nat.mod_eq_of_lt (by omega)]
    have e2 : IntKind.u64.wrap (xs.length : Int) = (xs.length : Int) := by rw [u64_wrap_nat, Nat.mod_eq_of_lt (by omega)]
    have hv0 := hv'.out.cell
    have hf0 := hv'.out.frozen
    gi_wp2_with (refine ⟨trivial, ?_⟩; gi_at_call 72; refine (HM.out _ _ _ (by first | exact hs0 | exact hl1) (by first | exact hls | exact hlx)).mono ?_; rintro e w' ⟨rfl, rfl⟩)
    generalize mixN (mixN s0 s.size) xs.length = s2 at *
    have hX2 : Hid (Boxed (W.setCell ⟨w.heap.size, 0, none⟩ (.int .u64 ((s2 : Nat) : Int))) w.heap.size 40 (.int .u64 ((s2 : Nat) : Int))) := Lib.hid (hv'.out.set _)
    have hX3 : Hid (Below w.heap.size w (W.setCell ⟨w.heap.size, 0, none⟩ (.int .u64 ((s2 : Nat) : Int)))) := Lib.hid (hB.setCell (p := ⟨w.heap.size, 0, none⟩) (Nat.le_refl _) _)
    have hX4 : (W.setCell ⟨w.heap.size, 0, none⟩ (.int .u64 ((s2 : Nat) : Int))).heap[D]? = some (Obj.deferred (some [])) := by rw [Below.heap_setCell _ _ _ _ (by simp; omega)]; exact hK
    clear hK hB hv' hv0 hf0 HM hl1
    generalize W.setCell ⟨w.heap.size, 0, none⟩ (.int .u64 ((s2 : Nat) : Int)) = W1 at *
    gi_loopw [26] (fun i wr => ∃ k : Nat, i = .int .i64 k ∧ k ≤ xs.length ∧ Hid (Boxed wr w.heap.size 40 (.int .u64 ((foldN s2 ((xs.take k).map uN) : Nat) : Int))) ∧ Hid (Below w.heap.size w wr) ∧ Hid (wr.heap[D]? = some (Obj.deferred (some [])))) (fun i _ => xs.length - (intOf i).toNat)
    case atStart => exact ⟨0, rfl, Nat.zero_le _, by rw [fold_take0]; exact hX2, hX3, Lib.hid hX4⟩
    case round =>
      obtain ⟨k, rfl, hk, HB, HL, HD⟩ := hrel
      by_cases hlt : k < xs.length
      · obtain ⟨ad, rfl, hcell, _⟩ := V_scalar (lowX HXX.out HL.out) 0 k hlt
        have hlt2 : foldN s2 ((xs.take k).map uN) < 2 ^ 64 := foldN_lt _ _ hl2
        have HN : Hid (foldN s2 ((xs.take (k + 1)).map uN) = mixN (foldN s2 ((xs.take k).map uN)) (uN (xs.getD k 0))) := Lib.hid (by rw [List.take_succ_eq_append_getElem hlt, List.map_append, List.map_cons, List.map_nil, foldN_snoc, List.getD_eq_getElem?_getD, List.getElem?_eq_getElem hlt]; rfl)
        have HU := Lib.hid (uN_val (xs.getD k 0))
        have HM1 := Lib.hid (fun W => (callsIn_wide (n := n - 1)).2 (mix_any (foldN s2 ((xs.take k).map uN)) (uN (xs.getD k 0)) W hlt2 (uN_lt _)))
        rw [← HU.out] at HM1
        generalize foldN s2 ((xs.take k).map uN) = fk at *
        generalize uN (xs.getD k 0) = uk at *
        generalize xs.getD k 0 = xk at *
        have hv1 := HB.out.cell
        have hf1 := HB.out.frozen
        gi_wp2_with (refine ⟨trivial, ?_⟩; gi_at_call 72; refine (HM1.out _).mono ?_; rintro e w' ⟨rfl, rfl⟩)
        exact ⟨⟨k + 1, by go_num, by omega, Lib.hid (by rw [HN.out]; exact HB.out.set _), Lib.hid (HL.out.setCell (p := ⟨w.heap.size, 0, none⟩) (Nat.le_refl _) _), Lib.hid (by rw [Below.heap_setCell _ _ _ _ (by simp; omega)]; exact HD.out)⟩, by simp [intOf]; omega⟩
      · obtain rfl : k = xs.length := by omega
        have hlt2 : foldN s2 ((xs.take xs.length).map uN) < 2 ^ 64 := foldN_lt _ _ hl2
        rw [List.take_length] at *
        have HM1 := Lib.hid (fun W => (callsIn_wide (n := n - 1)).2 (mix_any (foldN s2 (xs.map uN)) 0 W hlt2 (Nat.two_pow_pos 64)))
        generalize foldN s2 (xs.map uN) = fk at *
        have hv1 := HB.out.cell
        have hK := HD.out
        gi_wp2_with (refine ⟨trivial, ?_⟩; gi_at_call 72; refine (HM1.out _).mono ?_; rintro e w' ⟨rfl, rfl⟩)
        refine ⟨by simp, .inl ⟨_, _, rfl, run_takeDeferred hK, ?_⟩⟩
        exact ⟨_, results_tmp rfl _ _ _, by rw [HDEF.out]; rfl, HL.out.trans (belowK_b (w := w) (Nat.le_refl _) _ D _ _ (by omega) hK rfl rfl)⟩
  case stop =>
    rintro D cc pre W _ _ h _
    exact h.elim
end Go.Proofs.Ytiggohkkokalcaa

/-! The walk of package hash's Bytes. -/
namespace Go.Proofs.Ytiggohkkokalcaa
open Go.RowKit Go.Shelf Go.Proofs.YtiggohkkokalcaaW.PrintWords Go.Proofs.YtiggohkkokalcaaW.PrintMore
set_option linter.unusedVariables false
set_option linter.unusedSimpArgs false
attribute [local go_sem] Oper.semAt_some

/-- the words of bytes, as ints -/
def intsU (pre : List U) : List Int := pre.map fun x => iN x.toNat
def rowU (pre : List U) : List Value := encs encI (intsU pre)
theorem intsU_length (pre : List U) : (intsU pre).length = pre.length := by unfold intsU; exact List.length_map _
theorem rowU_snoc (pre : List U) (x : U) : rowU (pre ++ [x]) = rowU pre ++ [.int .i64 (iN x.toNat)] := by unfold rowU intsU encs; rw [List.map_append, List.map_append]; rfl
theorem intsU_A (bs : List G) : intsU (wordsA bs) = (wordsN bs).map iN := by
  unfold intsU
  rw [← wordsA_toNat, List.map_map]
  rfl
theorem app_keeps {W w1 : World} {n₀ : Nat} {e : TypeId} {size : Nat} {v : Value} {k : Nat} {xs : List Value} {tmp : Obj}
    (hrow : W.ownsRow n₀ e size v k xs) (hn₀ : n₀ ≤ W.heap.size) (hgrow : (W.alloc tmp).grownBy w1 v.ownBlock) : KeepsOthers W w1 ∧ Below n₀ W w1 := by
  refine ⟨?_, ?_⟩
  · refine (KeepsOthers.alloc W tmp).trans (KeepsOthers.of_grownBy hgrow fun j o ej hj => ?_)
    rcases (hrow.alloc tmp).2 with ⟨rfl, _⟩ | ⟨g, cap, cur, rfl, _, hgb, _⟩
    · simp [Value.ownBlock] at ej
    · obtain rfl : g = j := by simpa [Value.ownBlock] using ej
      rw [hgb] at hj; cases hj; rfl
  · refine ((Below.refl n₀ W).alloc hn₀ tmp).grown hgrow (by simp; omega) fun j ej => ?_
    rcases hrow.2 with ⟨rfl, _⟩ | ⟨g, cap, cur, rfl, hb, _, _⟩
    · simp [Value.ownBlock] at ej
    · obtain rfl : g = j := by simpa [Value.ownBlock] using ej
      exact hb
theorem own_ints {W : World} {B : Nat} {v : Value} {ys : List U} {b : Int} (h : W.ownsRow B 3 1 v (ys.length + 1) (rowU ys ++ [.int .i64 b])) : OwnI W B v (intsU ys ++ [b]) := by
  unfold OwnI
  rw [List.length_append, intsU_length, encs, List.map_append]
  exact h
theorem hsum_len (n : Nat) (hn : 6 ≤ n) (s : ByteArray) (xs : List Int) (A : Option Addr) (len c : Nat) (hl : len = xs.length) (hs : s.size ≤ 70000) (hx : xs.length ≤ 70000) (w : World) (HX : Vi w (fun _ => True) (.slice A len c) xs) :
    CallsIn Fence.wide n Try.prog 48 #[.string s, .slice A len c] w fun e W' => e = .returned (.int .u64 (sumN (sG s) xs : Nat)) ∧ Below w.heap.size w W' := by
  subst hl
  exact hsum_in n hn s xs A c hs hx w HX

set_option maxRecDepth 100000 in
set_option maxHeartbeats 4000000 in
theorem hbytes_in (n : Nat) (hn : 8 ≤ n) (s : ByteArray) (bs : List G) (A : Option Addr) (c : Nat) (hs : s.size ≤ 70000) (hb : bs.length ≤ 70000) (w : World) (HX : Vb w (fun _ => True) (.slice A bs.length c) bs) :
    CallsIn Fence.wide n Try.prog 23 #[.string s, .slice A bs.length c] w fun e W' => e = .returned (.int .u64 (bytesN (sG s) bs : Nat)) ∧ Below w.heap.size w W' := by
  have h1 : 1 ≤ n := by omega
  have HXX : Hid (Vb w (fun k => k < w.heap.size) (.slice A bs.length c) bs) := Lib.hid (by
    have h := Kd.V_bound HX
    rw [show (fun k => True ∧ k < w.heap.size) = (fun k => k < w.heap.size) from funext fun k => propext ⟨fun h => h.2, fun h => ⟨trivial, h⟩⟩] at h
    exact h)
  clear HX
  obtain ⟨i0, hi, hz0, hz1, hz2⟩ := info_parts info3
  refine callsIn_of_wp_marks Try.func23 rfl trivial ?_ rfl
  simp only [Try.ntmps23, List.size_toArray, List.length_cons, List.length_nil, Nat.reduceAdd, Nat.reduceSub, Array.replicate_succ, Array.replicate_zero, List.push_toArray, List.append_toArray, List.nil_append, List.cons_append]
  gi_wp2_with (refine ⟨trivial, ?_⟩; gi_at_call 47; refine (wordsB_in Fence.wide (n - 1) trivial rfl _ _ _ _).mono ?_; rintro e w' ⟨rfl, rfl⟩)
  have bO := Boxed.new w 29 (.slice none 0 0)
  have bN := Boxed.new (w.alloc (.cells #[.slice none 0 0] 29)) 33 (.slice A bs.length c)
  rw [World.size_alloc] at bN
  have hB0 : Below w.heap.size w ((w.alloc (.cells #[.slice none 0 0] 29)).alloc (.cells #[.slice A bs.length c] 33)) := ((Below.refl _ w).alloc (Nat.le_refl _) _).alloc (by simp) _
  refine wpIn_rangeFunc_ownG rfl h1 (gf := 70) (lb := #[.pointer (some ⟨w.heap.size + 1, 0, none⟩)]) rfl trivial (enters_of Try.func70 (by kernel_rfl) rfl)
    (words1_stops Fence.wide (n - 1) trivial rfl (by omega) (w.heap.size + 1) w.heap.size bs A c hb _ bN (V_low HXX.out hB0) (by simp; omega)) KeepBox.t (KeepBox.b (by simp; omega) (by simp)) (Below.refl _ _) (fun _ => rfl)
    (fun pre W => (∃ v, Boxed W w.heap.size 29 v ∧ W.ownsRow w.heap.size 3 1 v pre.length (rowU pre) ∧ True) ∧ Below w.heap.size w W)
    (fun _ _ _ => False)
    (OwnFrom.and (Own.from (holdsRow_own w.heap.size w.heap.size 29 3 1 (fun pre => pre.length) rowU (fun _ _ => True)) _) (ownFrom_below (Nat.le_refl _) (by simp; omega)))
    (fun _ _ _ _ _ hs _ _ => hs)
    ⟨⟨_, bO.alloc _, World.ownsRow_nil _ _ _ _, trivial⟩, hB0⟩
    (fun x => { tmps := #[.string s, .slice A bs.length c, undef, undef, .int .u64 0, .pointer (some ⟨w.heap.size, 0, none⟩), .int .u64 ((x.toNat : Nat) : Int), .slice A bs.length c, .func (.func 70) #[] #[.pointer (some ⟨w.heap.size + 1, 0, none⟩)], .int .u64 ((x.toNat : Nat) : Int), undef, undef, undef, undef, undef, undef, undef, undef, undef, undef, undef, undef], defers := [] }) ?assign ?body ?done ?stop
  case assign =>
    intro l x W K hK
    gi_wp2
    exact hK
  case body =>
    rintro l pre x W ⟨⟨v, hv, hrow, -⟩, hB⟩ hlt
    have hc := hv.cell
    have HR := Lib.hid (rowU_snoc pre x)
    have HI : Hid (wrap64 ((x.toNat : Nat) : Int) = iN x.toNat) := Lib.hid (by unfold iN; exact (IntWalk.i64_left _).symm)
    generalize x.toNat = xn at *
    generalize iN xn = yn at *
    have hpl : pre.length ≤ 9000 := by omega
    have h0 : w.heap.size ≤ W.heap.size := by have := hB.size; omega
    gi_wp2_with (gi_at_builtin; refine wpListIn_append_own _ rfl _ _ 29 rfl w.heap.size 3 i0 (.int .i64 0) 1 8 Try.underlying29 hi hz0 hz1 hz2 rfl (by decide) _ _ _ rfl (hrow.alloc _) ⟨W.heap.size, 0, none⟩ 1 1 [.int .i64 (wrap64 (xn : Int))] rfl rfl (cell_one_new _ _ _) (by simp [Value.oneCell']) (Nat.le_trans (m := 10000) (by omega) (by decide)) (by omega) (by simp; omega) ?_; intro v' w1 hown' hgrow _; obtain ⟨g', cap', rfl⟩ := ownsRow_succ hown'; obtain ⟨hv1, hv2, hr2, hk2, hb2⟩ := hv.appended (by decide) hrow h0 (Nat.le_refl _) hown' hgrow; have hc1 := hv1.cell; have hf1 := hv1.frozen)
    exact ⟨hk2.from _, ⟨hb2, fun u hu => ((hu.alloc _).kept hgrow (hu.not_row (by decide) hrow)).other (by omega) _⟩, ⟨⟨_, hv2, by rw [HR.out, ← HI.out, List.length_append]; exact hr2, trivial⟩, hB.trans hb2⟩⟩
  case done =>
    rintro D ys W hD rfl ⟨⟨v, hv, hrow, -⟩, hB⟩ hK
    have hc := hv.cell
    have hDw : w.heap.size + 2 ≤ D := by simpa using hD
    have h0 : w.heap.size ≤ W.heap.size := by have := hB.size; omega
    have hYL : (wordsA bs).length ≤ 9000 := by unfold wordsA; rw [wordsU_length]; omega
    have HSUM : Hid (bytesN (sG s) bs = sumN (sG s) (intsU (wordsA bs) ++ [(bs.length : Int)])) := Lib.hid (by unfold bytesN; rw [intsU_A])
    generalize wordsA bs = ys at *
    gi_wp2_with (first | (gi_at_builtin; refine wpListIn_append_own _ rfl _ _ 29 rfl w.heap.size 3 i0 (.int .i64 0) 1 8 Try.underlying29 hi hz0 hz1 hz2 rfl (by decide) _ _ _ rfl (hrow.alloc _) ⟨W.heap.size, 0, none⟩ 1 1 [.int .i64 ((bs.length : Nat) : Int)] rfl rfl (cell_one_new _ _ _) (by simp [Value.oneCell']) (Nat.le_trans (m := 10000) (by omega) (by decide)) (by omega) (by simp; omega) ?_; intro v' w1 hown' hgrow _; obtain ⟨g', cap', rfl⟩ := ownsRow_succ hown'; obtain ⟨hk1, hb1⟩ := app_keeps hrow h0 hgrow; have hO := own_ints hown') | (refine ⟨trivial, ?_⟩; gi_at_call 48; refine (hsum_len (n - 1) (by omega) s (intsU ys ++ [(bs.length : Int)]) _ _ _ (by rw [List.length_append, intsU_length]; rfl) hs (by rw [List.length_append, intsU_length, List.length_singleton]; omega) w1 (Kd.V_mono hO.V (fun _ _ => trivial))).mono ?_; rintro e w' ⟨rfl, hBS⟩))
    have hK2 : w'.heap[D]? = some (Obj.deferred (some [])) := by
      have hk := hk1.same D _ hK rfl
      exact (hBS.block D (Array.getElem?_eq_some_iff.1 hk).1).trans hk
    have hB2 : Below w.heap.size w w' := (hB.trans hb1).trans (hBS.mono (Nat.le_trans h0 hb1.size))
    refine ⟨by simp, .inl ⟨_, _, rfl, run_takeDeferred hK2, ?_⟩⟩
    exact ⟨_, results_tmp rfl _ _ _, by rw [HSUM.out]; rfl, hB2.trans (belowK_b (w := w) (Nat.le_refl _) _ D _ _ (by omega) hK2 rfl rfl)⟩
  case stop =>
    rintro D cc pre W _ _ h _
    exact h.elim
/-- the label of package parity -/
def labB : ByteArray := { data := #[112, 97, 114, 105, 116, 121] }
theorem labB_sG : sG labB = labG := by decide
theorem hash_any (bs : List G) (A : Option Addr) (c : Nat) (hb : bs.length ≤ 70000) (w : World) (HX : Vb w (fun _ => True) (.slice A bs.length c) bs) :
    Calls Try.prog 23 #[.string { data := #[112, 97, 114, 105, 116, 121] }, .slice A bs.length c] w fun e W' => e = .returned (.int .u64 (hashG bs : Nat)) ∧ Below w.heap.size w W' := by
  have h := hbytes_in 8 (Nat.le_refl _) labB bs A c (by decide) hb w HX
  rw [labB_sG] at h
  exact callsIn_wide.1 h
end Go.Proofs.Ytiggohkkokalcaa
