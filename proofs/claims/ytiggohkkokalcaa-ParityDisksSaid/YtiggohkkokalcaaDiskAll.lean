/- The disk in memory: a map of files behind a pointer; what is read of it, stored into it, and struck from it. A store at a key that is there, into the map that is ranged over. The walks of the disk's small methods. The walks of the disk's methods Sync, Read, Append, Rot. The library's contracts on maps.Keys, slices.Sorted and slices.Sort at this program, laid in plain words (by the kit's tool). The walks of the disk's Files and Crash. The plain law behind ParityDisks: what is turned is found. -/
import Derived.Test.YtiggohkkokalcaaSmall
import Derived.Maps.RangeWalk
import Derived.Maps.Views
import Derived.Deep.RegionHeld3
import Derived.Test.YtiggohkkokalcaaU64All
import Derived.Deep.QuietTactic
import Derived.BigQuiet
import Derived.Deep.CutBlock
import Derived.Deep.DeepCutAuto
import Derived.BigRegion
import Derived.Deep.DeepMust
import Derived.Shelf.SlGeneric
import Derived.Shelf.SlIterI.Nil
import Derived.Shelf.SortM.Plain
import Derived.Shelf.SortM.SortNone
import Derived.Test.YtiggohkkokalcaaProg
import Derived.RangeFuncBox
import Derived.TacticsInMore
import Derived.OwnWalkIn
import Derived.Test.YtiggohkkokalcaaHealAll
/-! The disk in memory: a map of files behind a pointer; what is read of it, stored into it, and struck from it. -/
namespace Go.Proofs.Ytiggohkkokalcaa
open Go.RowKit Go.Maps Go.ChangeMaps Go.MapKept Go.Proofs.YtiggohkkokalcaaW.PrintWords Go.Proofs.YtiggohkkokalcaaW.PrintMore
open Go.WideElems (Fit rd rg pl rd_key rd_val rg_of)
set_option linter.unusedVariables false
set_option linter.unusedSimpArgs false

/-- a file: its bytes (a slice), and how many of them are durable -/
structure FE where
  A : Option Addr
  n : Nat
  c : Nat
  d : Int
def FE.v (x : FE) : Value := .agg #[.slice x.A x.n x.c, .int .i64 x.d]
def feZ : FE := ⟨none, 0, 0, 0⟩
open Classical in
/-- how a file reads: as itself -/
noncomputable def RF (v : Value) : Option (DataW Value × List MemPlace) := if ∃ x : FE, v = x.v then some (.held v, []) else none
theorem RF_v (x : FE) : RF x.v = some (.held x.v, []) := by unfold RF; rw [if_pos ⟨x, rfl⟩]
theorem RF_inv {v : Value} {y : DataW Value × List MemPlace} (h : RF v = some y) : ∃ x : FE, v = x.v ∧ y = (.held x.v, []) := by
  unfold RF at h
  by_cases hx : ∃ x : FE, v = x.v
  · rw [if_pos hx] at h
    obtain ⟨x, rfl⟩ := hx
    cases h
    exact ⟨x, rfl, rfl⟩
  · rw [if_neg hx] at h; cases h
theorem law3 : Keyed Try.prog 3 := int_keyed Try.underlying3
theorem zero101 (w : World) : (zeroValue 101).run Try.prog w = .ok feZ.v w := by kernel_rfl
theorem wf64 {x : Int} (h0 : 0 ≤ x) (h1 : x ≤ 70000) : (Lit.int .i64 x).wf = true := WalkArith.wf_i64 (by omega)
theorem key64 {x : Int} (h0 : 0 ≤ x) (h1 : x ≤ 70000) : keyOf Try.prog 3 (.int .i64 x) = some (.int .i64 x) := keyOf_int_mk Try.underlying3 (wf64 h0 h1)

/-- the datum has just these files -/
def Tells (D : DataW Value) (f : Int → Option FE) : Prop := IsMap D ∧ ∀ x : Int, Maps.has D (.int .i64 x) = (f x).isSome ∧ ∀ e, f x = some e → ∀ z, D.atKey (.int .i64 x) z = .held e.v
def updF (f : Int → Option FE) (x : Int) (e : FE) : Int → Option FE := fun y => if y = x then some e else f y
def delF (f : Int → Option FE) (x : Int) : Int → Option FE := fun y => if y = x then none else f y
theorem tells_none : Tells (.map []) (fun _ => none) := ⟨isMap_empty, fun x => ⟨rfl, fun e h => by cases h⟩⟩
theorem tells_put {D : DataW Value} {f : Int → Option FE} (h : Tells D f) (x : Int) (e : FE) : Tells (D.put (.int .i64 x) (.held e.v)) (updF f x e) := by
  refine ⟨h.1.put _ _, fun y => ?_⟩
  unfold updF
  by_cases hy : y = x
  · subst hy
    rw [if_pos rfl]
    exact ⟨has_put_same (k := .int .i64 y) h.1 trivial _, fun e' he z => by cases he; exact atKey_put_same (k := .int .i64 y) h.1 trivial _ _⟩
  · rw [if_neg hy]
    have hne : (Lit.int .i64 y) ≠ .int .i64 x := fun h => hy (by cases h; rfl)
    exact ⟨by rw [has_put_other hne]; exact (h.2 y).1, fun e' he z => by rw [atKey_put_other hne]; exact (h.2 y).2 e' he z⟩
theorem tells_del {D : DataW Value} {f : Int → Option FE} (h : Tells D f) (x : Int) : Tells (D.del (.int .i64 x)) (delF f x) := by
  refine ⟨h.1.del _, fun y => ?_⟩
  unfold delF
  by_cases hy : y = x
  · subst hy
    rw [if_pos rfl]
    exact ⟨has_del_same, fun e' he => by cases he⟩
  · rw [if_neg hy]
    have hne : (Lit.int .i64 y) ≠ .int .i64 x := fun h => hy (by cases h; rfl)
    exact ⟨by rw [has_del_other hne]; exact (h.2 y).1, fun e' he z => by rw [atKey_del_other hne]; exact (h.2 y).2 e' he z⟩
def feAt (f : Int → Option FE) (x : Int) : FE := (f x).getD feZ
theorem look_run {w : World} {bm nn : Nat} {D : DataW Value} {f : Int → Option FE} (h : w.ownsMap Try.prog 3 RF bm nn D) (t : Tells D f) {x : Int} (h0 : 0 ≤ x) (h1 : x ≤ 70000) :
    (Instr.lookup 95 (.map (some bm)) (.int .i64 x) false).run Try.prog w = .ok (feAt f x).v w := by
  obtain ⟨v, ps, hrun, hR⟩ := h.lookup law3 Try.underlying95 (zero101 w) (RF_v feZ) (key64 h0 h1)
  rw [hrun]
  obtain ⟨x', rfl, hy⟩ := RF_inv hR
  have hd : D.atKey (.int .i64 x) (.held feZ.v) = .held (feAt f x).v := by
    unfold feAt
    cases hf : f x with
    | none =>
      refine atKey_of_not_has ?_ _
      rw [(t.2 x).1, hf]; rfl
    | some e => exact (t.2 x).2 e hf _
  have h3 : (DataW.held (feAt f x).v : DataW Value) = .held x'.v := by rw [← hd]; exact congrArg Prod.fst hy
  have h4 : (feAt f x).v = x'.v := DataW.held.inj h3
  rw [h4]

/-- nothing but the disk's two blocks has turned, and what is new -/
structure Fr (dp bm : Nat) (w w' : World) : Prop where
  os : w'.os = w.os
  tape : w'.tape = w.tape
  output : w'.output = w.output
  size : w.heap.size ≤ w'.heap.size
  block : ∀ i, i < w.heap.size → i ≠ dp → i ≠ bm → w'.heap[i]? = w.heap[i]?
section
variable {dp bm : Nat} {w w1 w2 : World}
theorem Fr.refl (w : World) : Fr dp bm w w := ⟨rfl, rfl, rfl, Nat.le_refl _, fun _ _ _ _ => rfl⟩
theorem Fr.trans (h : Fr dp bm w w1) (k : Fr dp bm w1 w2) : Fr dp bm w w2 :=
  ⟨k.os.trans h.os, k.tape.trans h.tape, k.output.trans h.output, Nat.le_trans h.size k.size, fun i hi h1 h2 => (k.block i (Nat.lt_of_lt_of_le hi h.size) h1 h2).trans (h.block i hi h1 h2)⟩
theorem Fr.of_below (h : Below w.heap.size w w1) : Fr dp bm w w1 := ⟨h.os, h.tape, h.output, h.size, fun i hi _ _ => h.block i hi⟩
theorem Fr.below (h : Fr dp bm w w1) (k : Below w1.heap.size w1 w2) : Fr dp bm w w2 := h.trans (Fr.of_below k)
theorem Fr.grown (h : Fr dp bm w w1) {row : Option Nat} (k : w1.grownBy w2 row) (hr : ∀ i, row = some i → i = dp ∨ i = bm ∨ w.heap.size ≤ i) : Fr dp bm w w2 :=
  ⟨k.os.trans h.os, k.tape.trans h.tape, k.output.trans h.output, Nat.le_trans h.size k.size, fun i hi h1 h2 => (k.block i (Nat.lt_of_lt_of_le hi h.size) (fun e => by rcases hr i e.symm with h3 | h3 | h3 <;> omega)).trans (h.block i hi h1 h2)⟩
theorem Fr.toBelow (h : Fr dp bm w w1) {B : Nat} {w0 : World} (hB : Below B w0 w) (h1 : B ≤ dp) (h2 : B ≤ bm) (h3 : B ≤ w.heap.size) : Below B w0 w1 :=
  ⟨h.os.trans hB.os, h.tape.trans hB.tape, h.output.trans hB.output, Nat.le_trans hB.size h.size, fun i hi => (h.block i (by omega) (by omega) (by omega)).trans (hB.block i hi)⟩
theorem Fr.V {α : Type} {d : Kd α} {e base : Nat} {ok : Nat → Prop} {v : Value} {xs : List α} (h : Fr dp bm w w1) (hV : Kd.V d e w base ok v xs) (hok : ∀ k, ok k → k ≠ dp ∧ k ≠ bm) : Kd.V d e w1 base ok v xs :=
  Kd.V_step hV (fun k hk hl => h.block k hl (hok k hk).1 (hok k hk).2)
theorem Fr.blk (h : Fr dp bm w w1) {i : Nat} {o : Obj} (hi : w.heap[i]? = some o) (h1 : i ≠ dp) (h2 : i ≠ bm) : w1.heap[i]? = some o :=
  (h.block i (Array.getElem?_eq_some_iff.1 hi).1 h1 h2).trans hi
end
def dispCells (bm : Nat) : Array Value := #[.map (some bm), .int .i64 4096, .bool false, .bool false, .int .i64 0]
/-- the disk: its struct in block dp, its map in block bm, its files -/
structure Disk (w : World) (dp bm nn : Nat) (f : Int → Option FE) (bs : Int → List G) : Prop where
  ne : dp ≠ bm
  blk : w.heap[dp]? = some (.cells (dispCells bm) 97 (0, 0))
  map : ∃ D, w.ownsMap Try.prog 3 RF bm nn D ∧ Tells D f
  rd : ∀ x e, f x = some e → e.n = (bs x).length ∧ Vb w (fun k => k ≠ dp ∧ k ≠ bm) (.slice e.A e.n e.c) (bs x)
section
variable {w w1 : World} {dp bm nn : Nat} {f : Int → Option FE} {bs : Int → List G}
theorem Disk.cells (h : Disk w dp bm nn f bs) : w.cell? ⟨dp, 0, none⟩ = some (.map (some bm)) ∧ w.cell? ⟨dp, 1, none⟩ = some (.int .i64 4096) ∧ w.cell? ⟨dp, 2, none⟩ = some (.bool false) ∧ w.cell? ⟨dp, 3, none⟩ = some (.bool false) ∧ w.cell? ⟨dp, 4, none⟩ = some (.int .i64 0) := by
  simp [World.cell?, h.blk, dispCells]
theorem Disk.lt (h : Disk w dp bm nn f bs) : dp < w.heap.size ∧ bm < w.heap.size := by
  refine ⟨(Array.getElem?_eq_some_iff.1 h.blk).1, ?_⟩
  obtain ⟨D, hD, _⟩ := h.map
  exact hD.lt
/-- the disk stays as it is while other blocks turn -/
theorem Disk.below (h : Disk w dp bm nn f bs) (hb : Below w.heap.size w w1) : Disk w1 dp bm nn f bs := by
  obtain ⟨h1, h2⟩ := h.lt
  obtain ⟨D, hD, hT⟩ := h.map
  exact ⟨h.ne, (hb.block dp h1).trans h.blk, ⟨D, hD.kept (grown_of_below hb none) (by simp), hT⟩, fun x e he => ⟨(h.rd x e he).1, Kd.V_below (h.rd x e he).2 hb⟩⟩
theorem Disk.grown (h : Disk w dp bm nn f bs) {row : Option Nat} (hg : w.grownBy w1 row) (h1 : some dp ≠ row) (h2 : some bm ≠ row) (h3 : ∀ x e, f x = some e → ∀ k, row = some k → Vb w (fun q => (q ≠ dp ∧ q ≠ bm) ∧ some q ≠ row) (.slice e.A e.n e.c) (bs x)) : Disk w1 dp bm nn f bs := by
  obtain ⟨l1, l2⟩ := h.lt
  obtain ⟨D, hD, hT⟩ := h.map
  refine ⟨h.ne, (hg.block dp l1 h1).trans h.blk, ⟨D, hD.kept hg h2, hT⟩, fun x e he => ⟨(h.rd x e he).1, ?_⟩⟩
  cases row with
  | none => exact Kd.V_grown (h.rd x e he).2 hg (fun k _ => by simp)
  | some k => exact Kd.V_mono (Kd.V_grown (h3 x e he k rfl) hg (fun q hq => hq.2)) (fun q hq => hq.1)
theorem Disk.look (h : Disk w dp bm nn f bs) {x : Int} (h0 : 0 ≤ x) (h1 : x ≤ 70000) : (Instr.lookup 95 (.map (some bm)) (.int .i64 x) false).run Try.prog w = .ok (feAt f x).v w := by
  obtain ⟨D, hD, hT⟩ := h.map
  exact look_run hD hT h0 h1
end
theorem exists_any (x : Int) (w : World) (h0 : 0 ≤ x) (h1 : x < 64) : Calls Try.prog 60 #[.int .i64 x] w fun e w' => e = .returned (.bool true) ∧ w = w' := by
  go_enter Try.func60, Try.ntmps60
  go_wp2
  go_ret
  exact ⟨rfl, rfl⟩
theorem step_any {w : World} {dp bm nn : Nat} {f : Int → Option FE} {bs : Int → List G} (h : Disk w dp bm nn f bs) : Calls Try.prog 63 #[.pointer (some ⟨dp, 0, none⟩)] w fun e w' => e = .returned (.bool true) ∧ w = w' := by
  obtain ⟨c0, c1, c2, c3, c4⟩ := h.cells
  have H := Lib.hid h
  clear h
  go_enter Try.func63, Try.ntmps63
  go_wp2
  go_ret
  exact ⟨rfl, rfl⟩
set_option maxHeartbeats 1000000 in
theorem new_any (w : World) : Calls Try.prog 32 #[.int .i64 4096] w fun e w' => ∃ dp bm, e = .returned (.tuple #[.pointer (some ⟨dp, 0, none⟩), .int .i64 0]) ∧ w.heap.size ≤ dp ∧ w.heap.size ≤ bm ∧ Disk w' dp bm 0 (fun _ => none) (fun _ => []) ∧ Below w.heap.size w w' := by
  have hmm := @run_makeMap Try.prog
  go_enter Try.func32, Try.ntmps32
  go_wp2
  go_ret2
  refine ⟨w.heap.size + 1, w.heap.size, rfl, Nat.le_succ _, Nat.le_refl _, ⟨by omega, ?_, ⟨_, (World.ownsMap_made _ _ _ _).alloc _, tells_none⟩, fun x e h => by cases h⟩, below_alloc (below_alloc (Below.refl _ _) _) _⟩
  have := (MapKept.heap_alloc (w.alloc (.map #[] 0)) (.cells (dispCells w.heap.size) 97 (0, 0))).1
  rw [World.size_alloc] at this
  exact this
end Go.Proofs.Ytiggohkkokalcaa

/-! A store at a key that is there, into the map that is ranged over. -/
namespace Go.Proofs.Ytiggohkkokalcaa
open Go.ChangeMaps Go.MapKept Go.WideShapes
open Go.WideElems (Fit rd rg pl rd_key rd_val rd_mk rg_of other_key)
open Go.Maps (Keyed)
set_option linter.unusedVariables false
set_option linter.unusedSimpArgs false

theorem left_map (es : Array MapEntry) (seen : Array Nat) : (leftOf es seen).size = ((es.toList.map (·.born)).filter fun b => !seen.contains b).length := by
  unfold leftOf
  rw [← Array.length_toList, Array.toList_filter, List.filter_map, List.length_map]
  rfl
theorem set_self {α : Type} : ∀ (l : List α) (j : Nat) (a : α), l[j]? = some a → l.set j a = l
  | [], _, _, h => by simp at h
  | x :: r, 0, a, h => by simp at h; simp [h]
  | x :: r, j + 1, a, h => by simp at h; simp [set_self r j a h]
theorem ranges_there {H : Type} {P : Program} {k t e : TypeId} {R : Value → Option (DataW H × List MemPlace)} {w : World} {b r n : Nat} {D : DataW H} {left : Lit → Bool} {cnt : Nat}
    (h : w.ranges P k R b r n D left cnt) (K : Keyed P k) (ht : P.underlying t = some (.map k e)) (hn : n < maxLen) {key val : Value} {kl : Lit} {d : DataW H} {ps : List MemPlace} (hkey : keyOf P k key = some kl) (hv : R val = some (d, ps)) (hhas : Maps.has D kl = true) :
    ∃ w', (Instr.mapUpdate t (.map (some b)) key val).run P w = .ok () w' ∧ w'.ranges P k R b r n (D.put kl d) left cnt ∧ w.grownBy w' (some b) ∧ w'.heap.size = w.heap.size := by
  have hne := h.ne
  obtain ⟨es, clock, since, seen, c0, hb, F, hs, rfl, hr, hold, rfl, hl1, hl2, hsc, hsk⟩ := h
  rcases K.find w hkey es.toList F.keys with ⟨h1, h2⟩ | ⟨j, e0, h1, h2, h3⟩
  · exfalso
    rw [Maps.has_eq] at hhas
    obtain ⟨p, hp, hpk⟩ := List.any_eq_true.1 hhas
    obtain ⟨x, hx, rfl⟩ := List.mem_map.1 (mem_sorted.1 hp)
    have hk2 := WideAt.sameKey_eq hpk
    obtain ⟨y, hy⟩ := F.reads x hx
    rw [rg_of hy] at hk2
    exact h2 x hx (K.inj (hk2 ▸ rd_key hy) hkey)
  · have hj : es[j]? = some e0 := by simpa using h2
    have hrun : (Instr.mapUpdate t (.map (some b)) key val).run P w = .ok () (setBlock w b (.map (es.modify j (fun e' => { e' with key := key, val := val })) clock)) := by
      simp [Instr.mapUpdate, run_underlying ht, MapKept.run_getObj_map hb, K.check w false hkey, h1, hj, h3, K.stays w hkey, MapKept.run_setObj_map _ hb, Result.andThen, setBlock]
    obtain ⟨es2, clock2, hrun2, F2, hput, _⟩ := Maps.fit_store (R' := R) K ht hb F (Nat.lt_of_le_of_lt hs hn) (fun _ _ _ _ hz => hz) hkey hv
    have hlist : (es.modify j (fun e' => { e' with key := key, val := val })).toList = es.toList.set j { e0 with key := key, val := val } := by rw [Array.toList_modify, modify_eq_set _ _ _ _ h2]
    have hsize : (es.modify j (fun e' => { e' with key := key, val := val })).size = es.size := by simp
    generalize es.modify j (fun e' => { e' with key := key, val := val }) = es1 at *
    rw [hrun] at hrun2
    have hw : setBlock w b (.map es1 clock) = setBlock w b (.map es2 clock2) := by injection hrun2
    have hh : some (Obj.map es1 clock) = some (Obj.map es2 clock2) := by
      rw [← heap_setBlock_same hb (.map es1 clock), ← heap_setBlock_same hb (.map es2 clock2), hw]
    have hh2 := Option.some.inj hh
    injection hh2 with hh3 hh4
    subst hh3 hh4
    have hmem0 : e0 ∈ es.toList := List.mem_of_getElem? h2
    have hrg0 : (rg P k R e0).1 = kl := by
      obtain ⟨y, hy⟩ := F.reads e0 hmem0
      have m1 := rd_key hy
      rw [h3, hkey] at m1
      rw [rg_of hy]
      exact (Option.some.inj m1).symm
    have hrg1 : (rg P k R { e0 with key := key, val := val }).1 = kl := by rw [rg_of (rd_mk hkey hv)]
    have hborn : es1.toList.map (·.born) = es.toList.map (·.born) := by
      rw [hlist, List.map_set]
      exact set_self _ _ _ (by rw [List.getElem?_map, h2]; rfl)
    have who : ∀ x ∈ es1.toList, ∃ x0 ∈ es.toList, x.born = x0.born ∧ (rg P k R x).1 = (rg P k R x0).1 := by
      intro x hx
      rw [hlist] at hx
      rcases List.mem_or_eq_of_mem_set hx with hx | rfl
      · exact ⟨x, hx, rfl, rfl⟩
      · exact ⟨e0, hmem0, rfl, by rw [hrg1, hrg0]⟩
    have who2 : ∀ x0 ∈ es.toList, ∃ x ∈ es1.toList, (rg P k R x).1 = (rg P k R x0).1 := by
      intro x0 hx0
      obtain ⟨i, hi, rfl⟩ := List.getElem_of_mem hx0
      rw [hlist]
      by_cases hij : j = i
      · subst hij
        have : es.toList[j] = e0 := by rw [List.getElem?_eq_getElem hi] at h2; exact Option.some.inj h2
        refine ⟨{ e0 with key := key, val := val }, ?_, by rw [hrg1, this, hrg0]⟩
        exact List.mem_iff_getElem.2 ⟨j, by simpa using hi, by simp⟩
      · refine ⟨es.toList[i], ?_, rfl⟩
        exact List.mem_iff_getElem.2 ⟨i, by simpa using hi, by rw [List.getElem_set_ne hij]⟩
    refine ⟨_, hrun, ⟨es1, clock, since, seen, c0, heap_setBlock_same hb _, F2, by omega, by rw [DataW.put_eq, hput], (heap_setBlock_other hb _ hne).trans hr, fun x hx => ?_, ?_, fun x hx => ?_, fun kl' hk' => ?_, hsc, hsk⟩, ⟨rfl, rfl, rfl, by simp [setBlock], fun i _ hi => heap_setBlock_other hb _ (fun e => hi (by rw [e]))⟩, by simp [setBlock]⟩
    · obtain ⟨x0, hx0, hb0, _⟩ := who x hx
      rw [hb0]; exact hold x0 hx0
    · rw [left_map, left_map, hborn]
    · obtain ⟨x0, hx0, hb0, hk0⟩ := who x hx
      rw [hk0, hb0]; exact hl1 x0 hx0
    · obtain ⟨x0, hx0, rfl⟩ := hl2 kl' hk'
      obtain ⟨x, hx, he⟩ := who2 x0 hx0
      exact ⟨x, hx, he⟩
end Go.Proofs.Ytiggohkkokalcaa

/-! The walks of the disk's small methods. -/
namespace Go.Proofs.Ytiggohkkokalcaa
open Go.RowKit Go.Maps Go.ChangeMaps Go.MapKept Go.Proofs.YtiggohkkokalcaaW.PrintWords Go.Proofs.YtiggohkkokalcaaW.PrintMore
set_option linter.unusedVariables false
set_option linter.unusedSimpArgs false

def setF (f : Int → Option FE) (x : Int) (e : FE) : Int → Option FE := if e.n = 0 then delF f x else updF f x e
def updB (bs : Int → List G) (x : Int) (y : List G) : Int → List G := fun z => if z = x then y else bs z
section
variable {w w1 : World} {dp bm nn : Nat} {f : Int → Option FE} {bs : Int → List G}
theorem Disk.update (h : Disk w dp bm nn f bs) {x : Int} {e : FE} {y : List G} (h0 : 0 ≤ x) (h1 : x ≤ 70000) (hn : nn < 70000) (he : e.n = y.length) (HV : Vb w (fun k => k ≠ dp ∧ k ≠ bm) (.slice e.A e.n e.c) y) :
    ∃ w', (Instr.mapUpdate 95 (.map (some bm)) (.int .i64 x) e.v).run Try.prog w = .ok () w' ∧ Disk w' dp bm (nn + 1) (updF f x e) (updB bs x y) ∧ w.grownBy w' (some bm) := by
  obtain ⟨l1, l2⟩ := h.lt
  obtain ⟨D, hD, hT⟩ := h.map
  obtain ⟨w', hrun, hown, hg⟩ := hD.update law3 Try.underlying95 (by unfold maxLen; omega) (key64 h0 h1) (RF_v e)
  refine ⟨w', hrun, ⟨h.ne, (hg.block dp l1 (fun e => h.ne (Option.some.inj e))).trans h.blk, ⟨_, hown, tells_put hT x e⟩, fun z e' he' => ?_⟩, hg⟩
  unfold updF at he'
  unfold updB
  by_cases hz : z = x
  · rw [if_pos hz] at he' ⊢
    cases he'
    exact ⟨he, Kd.V_grown HV hg (fun k hk e => hk.2 (Option.some.inj e))⟩
  · rw [if_neg hz] at he' ⊢
    exact ⟨(h.rd z e' he').1, Kd.V_grown (h.rd z e' he').2 hg (fun k hk e => hk.2 (Option.some.inj e))⟩
theorem Disk.strike (h : Disk w dp bm nn f bs) {x : Int} (h0 : 0 ≤ x) (h1 : x ≤ 70000) (ty : TypeId) :
    ∃ w', (Builtin.delete_ #[95, 3] ty #[.map (some bm), .int .i64 x]).run Try.prog w = .ok (.tuple #[]) w' ∧ Disk w' dp bm nn (delF f x) bs ∧ w.grownBy w' (some bm) := by
  obtain ⟨l1, l2⟩ := h.lt
  obtain ⟨D, hD, hT⟩ := h.map
  obtain ⟨w', hrun, hown, hm⟩ := hD.drop law3 Try.underlying95 (key64 h0 h1) ty
  have hg := hm.grown
  refine ⟨w', hrun, ⟨h.ne, (hg.block dp l1 (fun e => h.ne (Option.some.inj e))).trans h.blk, ⟨_, hown, tells_del hT x⟩, fun z e' he' => ?_⟩, hg⟩
  unfold delF at he'
  by_cases hz : z = x
  · rw [if_pos hz] at he'; cases he'
  · rw [if_neg hz] at he'
    exact ⟨(h.rd z e' he').1, Kd.V_grown (h.rd z e' he').2 hg (fun k hk e => hk.2 (Option.some.inj e))⟩
theorem Disk.congr (h : Disk w dp bm nn f bs) {f' : Int → Option FE} {bs' : Int → List G} (h1 : ∀ x, f' x = f x) (h2 : ∀ x e, f x = some e → bs' x = bs x) : Disk w dp bm nn f' bs' := by
  have e1 : f' = f := funext h1
  subst e1
  exact ⟨h.ne, h.blk, h.map, fun x e he => by rw [h2 x e he]; exact h.rd x e he⟩
end
set_option maxRecDepth 100000 in
set_option maxHeartbeats 2000000 in
theorem set_any {w : World} {dp bm nn : Nat} {f : Int → Option FE} {bs : Int → List G} (x d : Int) (A : Option Addr) (n c : Nat) (y : List G) (h0 : 0 ≤ x) (h1 : x ≤ 63) (hn : nn < 60000) (H : Disk w dp bm nn f bs) (he : n = y.length) (HV : Vb w (fun k => k ≠ dp ∧ k ≠ bm) (.slice A n c) y) :
    Calls Try.prog 62 #[.pointer (some ⟨dp, 0, none⟩), .int .i64 x, .agg #[.slice A n c, .int .i64 d]] w fun r w' => r = .returned (.tuple #[]) ∧ Disk w' dp bm (nn + 1) (setF f x ⟨A, n, c, d⟩) (updB bs x y) ∧ Fr dp bm w w' := by
  subst he
  obtain ⟨l1, l2⟩ := H.lt
  have HA : Below w.heap.size w ((w.alloc (.cells #[.slice A y.length c, .int .i64 d] 101)).drew) := below_drew (below_alloc (Below.refl _ _) _)
  obtain ⟨w1, hrun, hD1, hg1⟩ := (H.below HA).update (x := x) (e := ⟨A, y.length, c, d⟩) (y := y) h0 (by omega) (by omega) rfl (Kd.V_below HV HA)
  have hrun' : (Instr.mapUpdate 95 (.map (some bm)) (.int .i64 x) (.agg #[.slice A y.length c, .int .i64 d])).run Try.prog ((w.alloc (.cells #[.slice A y.length c, .int .i64 d] 101)).drew) = .ok () w1 := hrun
  have hb0 : w1.cell? ⟨w.heap.size, 0, none⟩ = some (.slice A y.length c) := cell_grown hg1 (by show (w.alloc _).cell? _ = _; exact World.cell?_alloc_new _ _ _ _) (fun e => by have := Option.some.inj e; change w.heap.size = bm at this; omega)
  obtain ⟨c0, c1, c2, c3, c4⟩ := H.cells
  obtain ⟨e0, _, _, _, _⟩ := hD1.cells
  have HF1 : Fr dp bm w w1 := (Fr.of_below HA).grown hg1 (fun i hi => by injection hi with hi; omega)
  have HDD := Lib.hid hD1
  have HFF := Lib.hid HF1
  have HSF : Hid (setF f x ⟨A, y.length, c, d⟩ = if y.length = 0 then delF f x else updF f x ⟨A, y.length, c, d⟩) := Lib.hid rfl
  have HST := Lib.hid (fun ty => hD1.strike (x := x) h0 (by omega) ty)
  have hne := H.ne
  clear hrun hD1 hg1 HF1 HA H HV
  go_enter Try.func62, Try.ntmps62
  by_cases hy : y.length = 0
  · have hyb : ((y.length : Int) == 0) = true := by rw [beq_iff_eq]; omega
    obtain ⟨w2, hrun2, hD2, hg2⟩ := HST.out 0
    have HSF2 := Lib.hid (HSF.out.trans (if_pos hy))
    have HG2 := Lib.hid hg2
    have HD2 := Lib.hid hD2
    clear hy HSF hg2 hD2
    go_wp2_with fail
    go_region
    go_wp2_with fail
    go_end0
    refine ⟨rfl, ?_, HFF.out.grown HG2.out (fun i hi => by injection hi with hi; omega)⟩
    rw [HSF2.out]
    refine HD2.out.congr (fun z => ?_) (fun z e he => ?_)
    · unfold delF updF
      by_cases hz : z = x
      · rw [if_pos hz, if_pos hz]
      · rw [if_neg hz, if_neg hz, if_neg hz]
    · rfl
  · have hyb : ((y.length : Int) == 0) = false := by rw [beq_eq_false_iff_ne]; omega
    have HSF2 := Lib.hid (HSF.out.trans (if_neg hy))
    clear hy HSF
    go_wp2_with fail
    go_region
    go_wp2_with fail
    go_end0
    refine ⟨rfl, ?_, HFF.out⟩
    rw [HSF2.out]
    exact HDD.out
def mkFE (e : FE) : Value := .agg #[.slice e.A e.n e.c, .int .i64 e.d]
theorem invK3 (key : Value) (kl : Lit) (h : keyOf Try.prog 3 key = some kl) : ∃ x : Int, key = .int .i64 x := by
  obtain ⟨x, hx, _⟩ := Maps.keyOf_int_inv Try.underlying3 h
  exact ⟨x, hx⟩
theorem invV3 (v : Value) (y : DataW Value × List MemPlace) (h : RF v = some y) : ∃ e : FE, v = .agg #[.slice e.A e.n e.c, .int .i64 e.d] := by
  obtain ⟨e, he, _⟩ := RF_inv h
  exact ⟨e, he⟩
theorem FE.v_inj {a b : FE} (h : a.v = b.v) : a = b := by
  obtain ⟨A, n, c, d⟩ := a
  obtain ⟨A', n', c', d'⟩ := b
  unfold FE.v at h
  simp only [Value.agg.injEq, Array.mk.injEq, List.cons.injEq, Value.slice.injEq, Value.int.injEq] at h
  obtain ⟨⟨rfl, rfl, rfl⟩, ⟨_, rfl⟩, _⟩ := h
  rfl
theorem tells_entry {D : DataW Value} {f : Int → Option FE} (t : Tells D f) {x : Int} {e : FE} {kl : Lit} {yd : DataW Value} {yp : List MemPlace} (hk : keyOf Try.prog 3 (.int .i64 x) = some kl) (hv : RF (.agg #[.slice e.A e.n e.c, .int .i64 e.d]) = some (yd, yp)) (hat : ∀ zd, D.atKey kl zd = yd) :
    kl = .int .i64 x ∧ f x = some e := by
  obtain ⟨x', hx, rfl, _⟩ := Maps.keyOf_int_inv Try.underlying3 hk
  cases hx
  refine ⟨rfl, ?_⟩
  have h1 : Maps.has D (.int .i64 x) = true := has_true_of_atKey hat
  rw [(t.2 x).1] at h1
  obtain ⟨e', he'⟩ := Option.isSome_iff_exists.1 h1
  have h2 := (t.2 x).2 e' he' (.held feZ.v)
  rw [hat] at h2
  have h3 : RF e.v = some (yd, yp) := hv
  rw [RF_v] at h3
  cases h3
  have h4 : e'.v = e.v := (DataW.held.inj h2).symm
  rw [he', FE.v_inj h4]
set_option maxRecDepth 100000 in
set_option maxHeartbeats 2000000 in
theorem used_any {w : World} {dp bm nn : Nat} {f : Int → Option FE} {bs : Int → List G} (H : Disk w dp bm nn f bs) (hn : nn < 60000) (h12 : ∀ x e, f x = some e → e.n ≤ 12) :
    Calls Try.prog 61 #[.pointer (some ⟨dp, 0, none⟩)] w fun r w' => ∃ n : Nat, n ≤ 12 * nn ∧ r = .returned (.int .i64 n) ∧ Below w.heap.size w w' := by
  obtain ⟨c0, c1, c2, c3, c4⟩ := H.cells
  obtain ⟨D, hD, hT⟩ := H.map
  have hsz := hD.size_le
  have HT := Lib.hid hT
  have H12 := Lib.hid h12
  clear hT h12 H
  go_enter Try.func61, Try.ntmps61
  go_wp2_with (at_range; refine wpList_range_own _ rfl _ 95 rfl 3 101 law3 Try.underlying95 RF bm nn D rfl hD ?_; intro w0 hrg0 hg0 hs0)
  go_frame
  go_loopw [3] (fun v wr => ∃ (left : Lit → Bool) (cnt n : Nat), v = .int .i64 n ∧ n + 12 * cnt ≤ 12 * Maps.size D ∧ Hid (wr.ranges Try.prog 3 RF bm w.heap.size nn D left cnt) ∧ Hid (Below w.heap.size w wr)) (fun _ wr => wr.rangeLeft bm w.heap.size)
  case atStart => exact ⟨_, _, 0, rfl, by omega, Lib.hid hrg0, Lib.hid ((Below.refl _ w).grown hg0 (Nat.le_refl _) (fun j hj => by cases hj))⟩
  case round =>
    obtain ⟨left, cnt, n, rfl, hc, HR, HB⟩ := hrel
    have hrg := HR.out
    go_wp2_with (at_next; refine wpList_next_ranges _ rfl _ rfl 3 law3 RF (fun x : Int => Value.int .i64 x) (fun e : FE => Value.agg #[.slice e.A e.n e.c, .int .i64 e.d]) invK3 invV3 bm w.heap.size nn D left cnt rfl hrg ?_ ?_)
    · intro hc0 hl0
      go_wp2_with fail
      go_ret
      exact ⟨n, by omega, rfl, HB.out⟩
    · intro x e kl yd yp w2 cnt2 hkey hlk hv hat hrg2 hlt hg2 hs2 hen
      have hfe := (tells_entry HT.out hkey hv hat).2
      have hen12 := H12.out x e hfe
      obtain ⟨A, m, c, d⟩ := e
      have HR2 := Lib.hid hrg2
      have HG2 := Lib.hid hg2
      have HM := Lib.hid hrg.left_eq
      have hm12 : m ≤ 12 := hen12
      have hnb : n + 12 * cnt ≤ 12 * nn := by omega
      clear hkey hlk hv hat hrg2 hg2 hs2 hfe hen12 hrg
      go_wp2_with fail
      have HB2 : Below w.heap.size w w2 := HB.out.grown HG2.out HB.out.size (fun j hj => by cases hj; exact Nat.le_refl _)
      exact ⟨⟨_, cnt2, n + m, by go_num, by omega, Lib.hid (HR2.out.alloc _), Lib.hid (below_alloc HB2 _)⟩, by rw [(HR2.out.alloc _).left_eq, HM.out]; exact hlt⟩
def hardF (f : Int → Option FE) (x : Int) : Option FE := (f x).map fun e => ⟨e.A, e.n, e.c, e.n⟩
def midF (f : Int → Option FE) (left : Lit → Bool) (x : Int) : Option FE := (f x).map fun e => if left (.int .i64 x) = true then e else ⟨e.A, e.n, e.c, e.n⟩
theorem midF_none {f : Int → Option FE} {x : Int} (h : f x = none) (left : Lit → Bool) : midF f left x = none := by unfold midF; rw [h]; rfl
theorem midF_some {f : Int → Option FE} {x : Int} {e : FE} (h : f x = some e) (left : Lit → Bool) : midF f left x = some (if left (.int .i64 x) = true then e else ⟨e.A, e.n, e.c, e.n⟩) := by unfold midF; rw [h]; rfl
theorem hardF_some {f : Int → Option FE} {x : Int} {e : FE} (h : f x = some e) : hardF f x = some ⟨e.A, e.n, e.c, e.n⟩ := by unfold hardF; rw [h]; rfl
theorem hardF_none {f : Int → Option FE} {x : Int} (h : f x = none) : hardF f x = none := by unfold hardF; rw [h]; rfl
theorem tells_congr {D : DataW Value} {f g : Int → Option FE} (h : Tells D f) (hg : ∀ x, g x = f x) : Tells D g := by
  have e : g = f := funext hg
  subst e; exact h
theorem sameKey_int (x z : Int) : (Lit.int .i64 z).sameKey (.int .i64 x) = decide (z = x) := by
  by_cases h : z = x
  · subst h; rw [WideAt.sameKey_self (show WideAt.IsKeyLit (Lit.int .i64 z) from trivial)]; simp
  · rw [Maps.sameKey_ne (fun e => h (by cases e; rfl))]; simp [h]
set_option maxRecDepth 100000 in
set_option maxHeartbeats 4000000 in
theorem harden_any {w : World} {dp bm nn : Nat} {f : Int → Option FE} {bs : Int → List G} (H : Disk w dp bm nn f bs) (hn : nn < 60000) (h12 : ∀ x e, f x = some e → e.n ≤ 70000) :
    Calls Try.prog 64 #[.pointer (some ⟨dp, 0, none⟩)] w fun r w' => r = .returned (.tuple #[]) ∧ Disk w' dp bm nn (hardF f) bs ∧ Fr dp bm w w' := by
  obtain ⟨c0, c1, c2, c3, c4⟩ := H.cells
  obtain ⟨l1, l2⟩ := H.lt
  obtain ⟨D, hD, hT⟩ := H.map
  have hne := H.ne
  have HT := Lib.hid hT
  have HH := Lib.hid H
  have H12 := Lib.hid h12
  clear hT H h12
  go_enter Try.func64, Try.ntmps64
  go_wp2_with (at_range; refine wpList_range_own _ rfl _ 95 rfl 3 101 law3 Try.underlying95 RF bm nn D rfl hD ?_; intro w0 hrg0 hg0 hs0)
  go_frame
  have HW0 := Lib.hid (hg0.block dp l1 (by simp))
  have HF0 : Hid (Fr dp bm w w0) := Lib.hid ((Fr.refl w).grown hg0 (fun i hi => by cases hi))
  have HR0 := Lib.hid hrg0
  clear hg0 hs0 hrg0
  go_loopw [2, 3] (fun _ _ wr => ∃ (left : Lit → Bool) (cnt : Nat) (D' : DataW Value), Hid (wr.ranges Try.prog 3 RF bm w.heap.size nn D' left cnt) ∧ Hid (Tells D' (midF f left)) ∧ Hid (wr.heap[dp]? = w.heap[dp]?) ∧ Hid (Fr dp bm w wr)) (fun _ _ wr => wr.rangeLeft bm w.heap.size)
  case atStart =>
    refine ⟨_, _, D, HR0, Lib.hid (tells_congr HT.out (fun x => ?_)), HW0, HF0⟩
    cases hf : f x with
    | none => exact midF_none hf _
    | some e =>
      have h1 := (HT.out.2 x).1
      rw [hf] at h1
      rw [midF_some hf, if_pos (by rw [h1]; rfl)]
  case round =>
    obtain ⟨left, cnt, D', HR, HTD, HBK, HF⟩ := hrel
    have hrg := HR.out
    go_wp2_with (at_next; refine wpList_next_ranges _ rfl _ rfl 3 law3 RF (fun x : Int => Value.int .i64 x) (fun e : FE => Value.agg #[.slice e.A e.n e.c, .int .i64 e.d]) invK3 invV3 bm w.heap.size nn D' left cnt rfl hrg ?_ ?_)
    · intro hc0 hl0
      have HL0 := Lib.hid hl0
      have HOW := Lib.hid hrg.owns
      clear hl0 hrg
      go_wp2_with fail
      go_end0
      refine ⟨rfl, ⟨hne, HBK.out.trans HH.out.blk, ⟨D', HOW.out, tells_congr HTD.out (fun x => ?_)⟩, fun x e he => ?_⟩, HF.out⟩
      · cases hf : f x with
        | none => rw [hardF_none hf, midF_none hf]
        | some e => rw [hardF_some hf, midF_some hf, if_neg (by rw [HL0.out]; simp)]
      · cases hf : f x with
        | none => rw [hardF_none hf] at he; cases he
        | some e0 =>
          rw [hardF_some hf] at he
          cases he
          exact ⟨(HH.out.rd x e0 hf).1, HF.out.V (HH.out.rd x e0 hf).2 (fun k hk => hk)⟩
    · intro x e kl yd yp w2 cnt2 hkey hlk hv hat hrg2 hlt hg2 hs2 hen
      obtain ⟨rfl, hme⟩ := tells_entry HTD.out hkey hv hat
      have hfe : f x = some e := by
        cases hf : f x with
        | none => rw [midF_none hf] at hme; cases hme
        | some e0 =>
          rw [midF_some hf, if_pos hlk] at hme
          exact hme
      have hen7 := H12.out x e hfe
      have hhas : Maps.has D' (.int .i64 x) = true := has_true_of_atKey hat
      obtain ⟨A, m, c, d⟩ := e
      have hs2' : w2.heap.size = wr.heap.size := hs2
      have hbW : Below w2.heap.size w2 ((w2.alloc (.cells #[.slice A m c, .int .i64 d] 101)).drew) := below_drew (below_alloc (Below.refl _ _) _)
      have hrgW : ((w2.alloc (.cells #[.slice A m c, .int .i64 d] 101)).drew).ranges Try.prog 3 RF bm w.heap.size nn D' _ cnt2 := hrg2.kept (grown_of_below hbW none) (by simp) (by simp)
      obtain ⟨w3, hrun, hrg3, hg3, hs3⟩ := ranges_there hrgW law3 Try.underlying95 (by unfold maxLen; omega) (key := .int .i64 x) (val := .agg #[.slice A m c, .int .i64 (m : Int)]) hkey (RF_v ⟨A, m, c, m⟩) hhas
      have hc2 : w2.cell? ⟨dp, 0, none⟩ = some (.map (some bm)) := by
        have hb2 : w2.heap[dp]? = some (.cells (dispCells bm) 97 (0, 0)) := (hg2.block dp (by have := HF.out.size; omega) (fun e => by have := Option.some.inj e; omega)).trans (HBK.out.trans HH.out.blk)
        simp [World.cell?, hb2, dispCells]
      have hdb : w3.heap[dp]? = w.heap[dp]? := by
        have l3 := HF.out.size
        have e1 := hg2.block dp (by omega) (fun e => by have := Option.some.inj e; omega)
        have e2 := hbW.block dp (by omega)
        have e3 := hg3.block dp (by have := hbW.size; omega) (fun e => hne (Option.some.inj e))
        exact e3.trans (e2.trans (e1.trans HBK.out))
      have hfr : Fr dp bm w w3 := ((HF.out.grown hg2 (fun i hi => by injection hi with hi; omega)).below hbW).grown hg3 (fun i hi => by injection hi with hi; omega)
      have HTN : Hid (Tells (D'.put (.int .i64 x) (.held (FE.v ⟨A, m, c, m⟩))) (midF f (fun z => left z && !z.sameKey (.int .i64 x)))) := Lib.hid (tells_congr (tells_put HTD.out x ⟨A, m, c, m⟩) (fun z => by
        unfold updF
        by_cases hz : z = x
        · subst hz
          rw [if_pos rfl, midF_some hfe, if_neg (by rw [sameKey_int]; simp)]
        · rw [if_neg hz]
          have hk : (fun z : Lit => left z && !z.sameKey (.int .i64 x)) (.int .i64 z) = left (.int .i64 z) := by
            show (left (.int .i64 z) && !(Lit.int .i64 z).sameKey (.int .i64 x)) = _
            rw [sameKey_int, decide_eq_false hz]; simp
          cases hf : f z with
          | none => rw [midF_none hf, midF_none hf]
          | some e1 => rw [midF_some hf, midF_some hf, show (left (.int .i64 z) && !(Lit.int .i64 z).sameKey (.int .i64 x)) = left (.int .i64 z) from hk]))
      have hdp2 : dp < w2.heap.size := by have := HF.out.size; omega
      have HR3 := Lib.hid hrg3
      have HFR := Lib.hid hfr
      have HDB := Lib.hid hdb
      have HM := Lib.hid (And.intro hrg.left_eq hlt)
      clear hkey hlk hv hat hrg2 hg2 hs2 hs2' hfe hme hrg hlt hrg3 hg3 hs3 hfr hdb hbW hrgW hhas HR HTD
      go_wp2_with fail
      go_region
      go_wp2_with fail
      exact ⟨⟨_, cnt2, _, HR3, HTN, HDB, HFR⟩, by rw [HR3.out.left_eq, HM.out.1]; exact HM.out.2⟩
end Go.Proofs.Ytiggohkkokalcaa

/-! The walks of the disk's methods Sync, Read, Append, Rot. -/
namespace Go.Proofs.Ytiggohkkokalcaa
open Go.RowKit Go.Maps Go.ChangeMaps Go.MapKept Go.Proofs.YtiggohkkokalcaaW.PrintWords Go.Proofs.YtiggohkkokalcaaW.PrintMore
set_option linter.unusedVariables false
set_option linter.unusedSimpArgs false

theorem field101 (A : Option Addr) (n c : Nat) (d : Int) (W : World) : (Instr.field 101 (.agg #[.slice A n c, .int .i64 d]) 0).run Try.prog W = .ok (.slice A n c) W := by kernel_rfl
theorem sync_any {w : World} {dp bm nn : Nat} {f : Int → Option FE} {bs : Int → List G} (H : Disk w dp bm nn f bs) (hn : nn < 60000) (h12 : ∀ x e, f x = some e → e.n ≤ 70000) :
    Calls Try.prog 34 #[.pointer (some ⟨dp, 0, none⟩)] w fun r w' => r = .returned (.int .i64 0) ∧ Disk w' dp bm nn (hardF f) bs ∧ Fr dp bm w w' := by
  obtain ⟨c0, c1, c2, c3, c4⟩ := H.cells
  have HS := Lib.hid (step_any H)
  have HH := Lib.hid (harden_any H hn h12)
  clear H h12
  go_enter Try.func34, Try.ntmps34
  go_wp2_with (first | (go_at_call 63; refine HS.out.mono ?_; rintro e w' ⟨rfl, rfl⟩) | (go_at_call 64; refine HH.out.mono ?_; rintro e w2 ⟨rfl, hD2, hF2⟩; have HD2 := Lib.hid hD2; have HF2 := Lib.hid hF2; clear hD2 hF2))
  go_ret
  exact ⟨rfl, HD2.out, HF2.out⟩
theorem Disk.readAt {w : World} {dp bm nn : Nat} {f : Int → Option FE} {bs : Int → List G} (h : Disk w dp bm nn f bs) {x : Int} (hb : f x = none → bs x = []) :
    (feAt f x).n = (bs x).length ∧ Vb w (fun k => k ≠ dp ∧ k ≠ bm) (.slice (feAt f x).A (feAt f x).n (feAt f x).c) (bs x) := by
  unfold feAt
  cases hf : f x with
  | none => rw [hb hf]; exact ⟨rfl, Kd.V_nil _ _ _ _ _⟩
  | some e => exact h.rd x e hf
set_option maxRecDepth 100000 in
set_option maxHeartbeats 1000000 in
theorem read_any {w : World} {dp bm nn : Nat} {f : Int → Option FE} {bs : Int → List G} (x : Int) (H : Disk w dp bm nn f bs) (h0 : 0 ≤ x) (h1 : x < 64) (hb : f x = none → bs x = []) (hl : (bs x).length ≤ 70000) :
    Calls Try.prog 37 #[.pointer (some ⟨dp, 0, none⟩), .int .i64 x] w fun r w' => ∃ v, r = .returned (.tuple #[v, .int .i64 0]) ∧ OwnB w' w.heap.size v (bs x) ∧ Below w.heap.size w w' := by
  obtain ⟨c0, c1, c2, c3, c4⟩ := H.cells
  have hrun := H.look h0 (by omega)
  obtain ⟨hen, hV⟩ := H.readAt hb
  have HEX := Lib.hid (fun W => exists_any x W h0 h1)
  generalize feAt f x = e at *
  generalize bs x = y at *
  obtain ⟨A, n, c, d⟩ := e
  have HC := Lib.hid (clone_any y _ w _ hV hl)
  clear H hb hen hV
  have hrun' : (Instr.lookup 95 (.map (some bm)) (.int .i64 x) false).run Try.prog w = .ok (.agg #[.slice A n c, .int .i64 d]) w := hrun
  have hfld : ∀ W, (Instr.field 101 (.agg #[.slice A n c, .int .i64 d]) 0).run Try.prog W = .ok (.slice A n c) W := fun W => field101 A n c d W
  clear hrun
  go_enter Try.func37, Try.ntmps37
  go_wp2_with (first | (go_at_call 60; refine (HEX.out _).mono ?_; rintro e w' ⟨rfl, rfl⟩) | (go_at_call 50; refine HC.out.mono ?_; rintro e w2 ⟨v, rfl, hO, hB⟩; have HO := Lib.hid hO; have HB := Lib.hid hB; clear hO hB))
  go_ret2
  exact ⟨_, rfl, HO.out, HB.out⟩
theorem blk2 {w : World} {L : Nat} {u v : Value} (h : w.heap[L]? = some (.cells #[u, v] 101 (0, 0))) : w.cell? ⟨L, 0, none⟩ = some u ∧ w.cell? ⟨L, 1, none⟩ = some v ∧ w.frozen? ⟨L, 0, none⟩ = false ∧ w.frozen? ⟨L, 1, none⟩ = false := by
  simp [World.cell?, World.frozen?, h]
theorem alloc_blk (w : World) (o : Obj) : (w.alloc o).heap[w.heap.size]? = some o := (MapKept.heap_alloc w o).1
set_option maxRecDepth 100000 in
set_option maxHeartbeats 4000000 in
theorem append_any {w : World} {dp bm nn : Nat} {f : Int → Option FE} {bs : Int → List G} (x : Int) (Ab : Option Addr) (cb : Nat) (y : List G) (H : Disk w dp bm nn f bs) (h0 : 0 ≤ x) (h1 : x < 64) (hn : nn ≤ 300) (h12 : ∀ x e, f x = some e → e.n ≤ 12) (hf : f x = none) (hy : y.length ≤ 12) (HV : Vb w (fun k => k ≠ dp ∧ k ≠ bm) (.slice Ab y.length cb) y) :
    Calls Try.prog 33 #[.pointer (some ⟨dp, 0, none⟩), .int .i64 x, .slice Ab y.length cb] w fun r w' => r = .returned (.int .i64 0) ∧ (∃ A c, Disk w' dp bm (nn + 1) (setF f x ⟨A, y.length, c, 0⟩) (updB bs x y)) ∧ Fr dp bm w w' := by
  obtain ⟨c0, c1, c2, c3, c4⟩ := H.cells
  obtain ⟨l1, l2⟩ := H.lt
  have HH := Lib.hid H
  have HEX := Lib.hid (fun W => exists_any x W h0 h1)
  have HU := Lib.hid (used_any (H.below (below_drew (Below.refl _ _))) (by omega) h12)
  have HVB := Lib.hid (Kd.V_bound HV)
  have hfa : feAt f x = feZ := by unfold feAt; rw [hf]; rfl
  have HFA := Lib.hid hfa
  clear H HV h12 hf hfa
  go_enter Try.func33, Try.ntmps33
  go_wp2_with (go_at_call 60; refine (HEX.out _).mono ?_; rintro e w' ⟨rfl, rfl⟩)
  go_upto_region 5 with fail
  go_region_held3 (fun W => W.cell? ⟨dp, 1, none⟩ = some (.int .i64 4096))
    (first | exact c1 | exact pw_cell_below HB1.out c1)
    (first | (go_at_call 61; refine HU.out.mono ?_; rintro e w1 ⟨u, hu, rfl, hB1⟩; have HB1 : Hid (Below w.heap.size w w1) := Lib.hid ((below_drew (Below.refl _ _)).trans hB1); clear hB1))
  have hgt : ¬ (4096 - (u : Int) < (y.length : Int)) := by omega
  have hwf : IntKind.i64.wrap (4096 - (u : Int)) = 4096 - (u : Int) := IntWalk.i64_in _ (by omega)
  have hle : (y.length : Int) ≤ 4096 - (u : Int) := by omega
  have HD1 := Lib.hid (HH.out.below HB1.out)
  have hrun := HD1.out.look h0 (by omega)
  rw [HFA.out] at hrun
  have hrun' : (Instr.lookup 95 (.map (some bm)) (.int .i64 x) false).run Try.prog w1 = .ok (.agg #[.slice none 0 0, .int .i64 0]) w1 := hrun
  obtain ⟨d0, d1, d2, d3, d4⟩ := HD1.out.cells
  have hs1 := HB1.out.size
  clear hrun
  go_upto_region 8 with fail
  clear hwf hgt hle hrun' d0 d1 d2 d3 d4 c0 c1 c2 c3 c4
  obtain ⟨L, hL⟩ : ∃ L, L = w1.heap.size := ⟨_, rfl⟩
  have hb2 := alloc_blk w1 (.cells #[.slice none 0 0, .int .i64 0] 101)
  have HB2 : Hid (Below w.heap.size w (w1.alloc (.cells #[.slice none 0 0, .int .i64 0] 101))) := Lib.hid (HB1.out.alloc hs1 _)
  have hsz2 : (w1.alloc (.cells #[.slice none 0 0, .int .i64 0] 101)).heap.size = w1.heap.size + 1 := World.size_alloc _ _
  rw [← hL] at hb2 hsz2 hs1 ⊢
  clear hL
  generalize w1.alloc (.cells #[.slice none 0 0, .int .i64 0] 101) = w2 at *
  obtain ⟨e0, e1, e2, e3⟩ := blk2 hb2
  have HC := Lib.hid (clone_any [] (.slice none 0 0) w2 (fun _ => True) (Kd.V_nil _ _ _ _ _) (Nat.zero_le _))
  have HB2B := Lib.hid hb2
  have HSZ := Lib.hid hsz2
  clear hb2 hsz2
  have HLY := Lib.hid (show (([] : List G).length + y.length) * 1 ≤ 140737488355328 by simp only [List.length_nil]; omega)
  go_wp2_with (first
    | (go_at_call 50; refine HC.out.mono ?_; rintro e w3 ⟨v, rfl, hO, hB⟩; obtain ⟨Av, cv, rfl⟩ := own_slice hO; have HO := Lib.hid hO; have HB3 := Lib.hid hB; have HV3 := Lib.hid (Kd.V_below (Kd.V_below HVB.out HB2.out) HB3.out); have HNE := Lib.hid (fun q hq => ⟨trivial, fun he => by have h9 := (World.ownsRow.lt HO.out q he.symm).1; have h8 := HSZ.out; have h7 := hq.2; omega⟩ : ∀ q, ((q ≠ dp ∧ q ≠ bm) ∧ q < w.heap.size) → True ∧ some q ≠ (Value.slice Av ([] : List G).length cv).ownBlock); clear hO hB)
    | ((with_reducible refine gate_builtin (b := .append) (xs := #[.tmp 36, .tmp 37]) rfl ?_); at_builtin; go_must (refine Kd.N_append_rows KG (w0 := w2) w2.heap.size rfl (.tmp 36) (.tmp 37) 33 5 (.int .u8 0) 1 rfl Try.underlying33 info5 rfl (by decide) (by omega) _ [] y Ab y.length cb (fun _ => True) (fun q => (q ≠ dp ∧ q ≠ bm) ∧ q < w.heap.size) rfl rfl (Kd.R_N (Kd.R_mono HO.out.R (fun _ _ => trivial))) (Kd.V_F HV3.out) HNE.out (fun _ _ => trivial) HB3.out HB3.out.size HLY.out ?_; intro v4 w4 hN4 hB4 hg4 hat4; rw [List.nil_append] at hN4; have hO4 := own_of_N hN4; obtain ⟨A4, c4, rfl⟩ := own_slice hO4; have hb4 := (hB4.block L (by have := HSZ.out; omega)).trans HB2B.out; obtain ⟨k0, k1, k2, k3⟩ := blk2 hb4; have hB5 := ((HB2.out.trans (hB4.mono HB2.out.size)).setCell (p := ⟨L, 0, none⟩) hs1 (.slice A4 y.length c4)); have hV5 := Kd.V_mono (ok' := fun k => k ≠ dp ∧ k ≠ bm) (Kd.V_far (p := ⟨L, 0, none⟩) hO4.V (fun q hq => by have h9 := (World.ownsRow.lt hO4 q hq.symm).1; have h8 := HSZ.out; show q ≠ L; omega) (.slice A4 y.length c4)) (fun q hq => by have h9 := (World.ownsRow.lt hO4 q hq.symm).1; have h8 := HSZ.out; omega); have HB5 := Lib.hid hB5; have HSET := Lib.hid (set_any x 0 A4 y.length c4 y h0 (by omega) (by omega) (HH.out.below hB5) rfl hV5); clear hN4 hB4 hg4 hat4 hO4 hb4 hB5 hV5))
    | (go_at_call 62; refine HSET.out.mono ?_; rintro e w6 ⟨rfl, hD6, hF6⟩; have HD6 := Lib.hid hD6; have HF6 := Lib.hid hF6; have HST6 := Lib.hid (step_any hD6); clear hD6 hF6)
    | (go_at_call 63; refine HST6.out.mono ?_; rintro e w' ⟨rfl, rfl⟩))
  go_ret
  exact ⟨rfl, ⟨A4, c4, HD6.out⟩, (Fr.of_below HB5.out).trans HF6.out⟩
theorem setCell_grown (w : World) (p : Addr) (u : Value) : w.grownBy (w.setCell p u) (some p.block) :=
  ⟨rfl, rfl, rfl, by simp [World.setCell], fun i _ hi => Below.heap_setCell w p u i (fun e => hi (by rw [e]))⟩
theorem twoP : ∀ k : Nat, k < 8 → (2 : Int) ^ k % 256 = toI (BitVec.twoPow 8 k)
  | 0, _ => by decide
  | 1, _ => by decide
  | 2, _ => by decide
  | 3, _ => by decide
  | 4, _ => by decide
  | 5, _ => by decide
  | 6, _ => by decide
  | 7, _ => by decide
  | k + 8, h => absurd h (by omega)
/-- one bit of a block is turned -/
def flipB (y : List G) (bit : Nat) : List G := y.set (bit / 8) (y.getD (bit / 8) 0 ^^^ BitVec.twoPow 8 (7 - bit % 8))
set_option maxRecDepth 100000 in
set_option maxHeartbeats 4000000 in
theorem rot_any {w : World} {dp bm nn : Nat} {f : Int → Option FE} {bs : Int → List G} (x : Int) (bit : Nat) (e : FE) (H : Disk w dp bm nn f bs) (h0 : 0 ≤ x) (h1 : x < 64) (hn : nn ≤ 300) (hf : f x = some e) (hl : (bs x).length ≤ 12) (hb : bit < 8 * (bs x).length) :
    Calls Try.prog 35 #[.pointer (some ⟨dp, 0, none⟩), .int .i64 x, .int .i64 (bit : Int)] w fun r w' => r = .returned (.int .i64 0) ∧ (∃ A c, Disk w' dp bm (nn + 1) (updF f x ⟨A, (bs x).length, c, e.d⟩) (updB bs x (flipB (bs x) bit)) ∧ Vb w' (fun q => w.heap.size ≤ q) (.slice A (bs x).length c) (flipB (bs x) bit)) ∧ Fr dp bm w w' := by
  obtain ⟨c0, c1, c2, c3, c4⟩ := H.cells
  obtain ⟨l1, l2⟩ := H.lt
  have HEX := Lib.hid (fun W => exists_any x W h0 h1)
  have hrun := H.look h0 (by omega)
  obtain ⟨hen, hV⟩ := H.rd x e hf
  have hfa : feAt f x = e := by unfold feAt; rw [hf]; rfl
  rw [hfa] at hrun
  have HH := Lib.hid H
  clear H hf hfa
  generalize bs x = y at *
  obtain ⟨A, n, c, d⟩ := e
  obtain rfl : n = y.length := hen
  have hrun' : (Instr.lookup 95 (.map (some bm)) (.int .i64 x) false).run Try.prog w = .ok (.agg #[.slice A y.length c, .int .i64 d]) w := hrun
  have HVB := Lib.hid (Kd.V_bound hV)
  clear hrun hV
  obtain ⟨L, hL⟩ : ∃ L, L = w.heap.size := ⟨_, rfl⟩
  have hb2 := alloc_blk w (.cells #[.slice A y.length c, .int .i64 d] 101)
  have HB2 : Hid (Below w.heap.size w (w.alloc (.cells #[.slice A y.length c, .int .i64 d] 101))) := Lib.hid (below_alloc (Below.refl _ _) _)
  have hsz2 : (w.alloc (.cells #[.slice A y.length c, .int .i64 d] 101)).heap.size = w.heap.size + 1 := World.size_alloc _ _
  have hb0 : decide ((bit : Int) < 0) = false := decide_eq_false (by omega)
  have hbl : (bit : Int) / 8 < (y.length : Int) := by omega
  go_enter Try.func35, Try.ntmps35
  go_upto_region 4 with (go_at_call 60; refine (HEX.out _).mono ?_; rintro e w' ⟨rfl, rfl⟩)
  rw [← hL] at hb2 hsz2 ⊢
  have hwL := Nat.le_of_eq hL.symm
  clear hL hb0 hrun' c0 c1 c2 c3 c4
  generalize w.alloc (.cells #[.slice A y.length c, .int .i64 d] 101) = w2 at *
  obtain ⟨e0, e1, e2, e3⟩ := blk2 hb2
  have HC := Lib.hid (clone_any y (.slice A y.length c) w2 (fun _ => True) (Kd.V_mono (Kd.V_below HVB.out HB2.out) (fun _ _ => trivial)) (by omega))
  have HB2B := Lib.hid hb2
  have HSZ := Lib.hid hsz2
  clear hb2 hsz2
  go_upto_region 5 with (go_at_call 50; refine HC.out.mono ?_; rintro e w3 ⟨v, rfl, hO, hB⟩; obtain ⟨g, cv, rfl, hgb, hgw⟩ := hO.form (by omega); have hb3 := (hB.block L (by have := HSZ.out; omega)).trans HB2B.out; obtain ⟨k0, k1, k2, k3⟩ := blk2 hb3; have HO := Lib.hid hO; have HB3 := Lib.hid hB; have HB3B := Lib.hid hb3; clear hO hB hb3)
  have hg4 : w3.grownBy (w3.setCell ⟨L, 0, none⟩ (.slice (some ⟨g, 0, none⟩) y.length cv)) (some L) := setCell_grown w3 ⟨L, 0, none⟩ _
  have hO4 := HO.out.grown hg4 (.inr (fun e => by have h1 := Option.some.inj e; have h2 := HSZ.out; change g = L at h1; omega))
  have hB4 : Below w.heap.size w (w3.setCell ⟨L, 0, none⟩ (.slice (some ⟨g, 0, none⟩) y.length cv)) := (HB2.out.trans (HB3.out.mono HB2.out.size)).setCell (p := ⟨L, 0, none⟩) hwL _
  have hc0 : (w3.setCell ⟨L, 0, none⟩ (.slice (some ⟨g, 0, none⟩) y.length cv)).cell? ⟨L, 0, none⟩ = some (.slice (some ⟨g, 0, none⟩) y.length cv) := World.cell?_setCell_same' _ _ _ (by rw [k0]; rfl)
  have hc1 : (w3.setCell ⟨L, 0, none⟩ (.slice (some ⟨g, 0, none⟩) y.length cv)).cell? ⟨L, 1, none⟩ = some (.int .i64 d) := by
    rw [World.cell?_setCell_other _ _ _ _ (by intro e; cases e)]; exact k1
  have HO4 := Lib.hid hO4
  have HB4 := Lib.hid hB4
  clear hg4 hO4 hB4 k0 k1 k2 k3 e0 e1 e2 e3
  generalize w3.setCell ⟨L, 0, none⟩ (.slice (some ⟨g, 0, none⟩) y.length cv) = w4 at *
  have hq : bit / 8 < y.length := by omega
  have hdv : (bit : Int) / 8 = ((bit / 8 : Nat) : Int) := by omega
  have hwq : IntKind.i64.wrap ((bit : Int).tdiv 8) = ((bit / 8 : Nat) : Int) := by rw [Int.tdiv_eq_ediv_of_nonneg (by omega), IntWalk.i64_in _ (by omega)]; exact hdv
  obtain ⟨hcb, hfb⟩ := HO4.out.at_ (bit / 8) hq
  have hset := HO4.out.set_ (bit / 8) (y.getD (bit / 8) 0 ^^^ BitVec.twoPow 8 (7 - bit % 8))
  have HFL : Hid (flipB y bit = y.set (bit / 8) (y.getD (bit / 8) 0 ^^^ BitVec.twoPow 8 (7 - bit % 8))) := Lib.hid rfl
  have HSET := Lib.hid hset
  have hqi : ((bit / 8 : Nat) : Int) < (y.length : Int) := by omega
  have hq0 : (0 : Int) ≤ ((bit / 8 : Nat) : Int) := by omega
  clear hset hbl
  generalize y.getD (bit / 8) 0 = o at *
  generalize bit / 8 = q at *
  go_region
  have hxv : bits BinOp.xor IntKind.u8 (toI o) ((2 : Int) ^ (7 - bit % 8) % 256) = toI (o ^^^ BitVec.twoPow 8 (7 - bit % 8)) := by rw [twoP _ (by omega)]; exact toI_xor _ _
  rw [hxv]
  have hO5 := HSET.out.1
  rw [← HFL.out] at hO5
  have hfl : (flipB y bit).length = y.length := by rw [HFL.out, List.length_set]
  have hgr := HSET.out.2
  have hk0 := cell_grown hgr hc0 (fun e => by have h1 := Option.some.inj e; have h2 := HSZ.out; change L = g at h1; omega)
  have hk1 := cell_grown hgr hc1 (fun e => by have h1 := Option.some.inj e; have h2 := HSZ.out; change L = g at h1; omega)
  have hB5 := HB4.out.trans (below_row hgr HB4.out.size (fun k hk => by have h1 := Option.some.inj hk; have h2 := HSZ.out; omega))
  have hV5 := Kd.V_mono (ok' := fun k => k ≠ dp ∧ k ≠ bm) hO5.V (fun k hk => by have h1 := Option.some.inj hk; have h2 := HSZ.out; change k = g at h1; omega)
  generalize w4.setCell ⟨g, q, none⟩ (.int .u8 (toI (o ^^^ BitVec.twoPow 8 (7 - bit % 8)))) = w5 at *
  have HSETC := Lib.hid (set_any x d (some ⟨g, 0, none⟩) y.length cv (flipB y bit) h0 (by omega) (by omega) ((HH.out.below hB5).below (below_drew (Below.refl _ _))) hfl.symm (Kd.V_drew hV5))
  have HB5 := Lib.hid (below_drew hB5)
  have HV9 := Lib.hid (Kd.V_drew (Kd.V_mono (ok' := fun k => w.heap.size ≤ k) hO5.V (fun k hk => by have h1 := Option.some.inj hk; have h2 := HSZ.out; change k = g at h1; omega)))
  have HYL := Lib.hid (show y.length ≠ 0 by omega)
  clear hxv hO5 hfl hgr hB5 hV5 HSET HFL hc0 hc1 hcb hfb hdv hwq hqi hq0
  go_wp2_with (go_at_call 62; refine HSETC.out.mono ?_; rintro e w6 ⟨rfl, hD6, hF6⟩; have HD6 := Lib.hid hD6; have HF6 := Lib.hid hF6; clear hD6 hF6)
  go_ret
  refine ⟨rfl, ⟨some ⟨g, 0, none⟩, cv, ?_, HF6.out.V HV9.out (fun q hq => by constructor <;> omega)⟩, (Fr.of_below HB5.out).trans HF6.out⟩
  have h9 := HD6.out
  unfold setF at h9
  rw [if_neg HYL.out] at h9
  exact h9
end Go.Proofs.Ytiggohkkokalcaa

/-! The library's contracts on maps.Keys, slices.Sorted and slices.Sort at this program, laid in plain words (by the kit's tool). -/
namespace Go.Proofs.Ytiggohkkokalcaa
open Go.Shelf
def dkeys_ren : Go.Shelf.Ren := ⟨fun | 7 => 79 | 10 => 85 | n => n, fun | 23 => 95 | 26 => 3 | 3 => 101 | 28 => 117 | 0 => 0 | 27 => 116 | 33 => 98 | 4 => 4 | n => n, fun | n => n⟩
theorem dkeys : Go.Proofs.SlLaysZI.n7 Try.prog dkeys_ren := {
  mixed := by kernel_rfl
  f7 := ⟨Try.f79.name, by decide, Try.func79.trans (congrArg some (by kernel_rfl))⟩
  f10 := ⟨Try.f85.name, by decide, Try.func85.trans (congrArg some (by kernel_rfl))⟩
  t0 := Try.underlying0
  a0 := Try.isAgg0
  z0 := Try.sizeOf0
  v0 := Try.zeroValue0
  t4 := Try.underlying4
  a4 := Try.isAgg4
  z4 := Try.sizeOf4
  v4 := Try.zeroValue4
  t23 := Try.underlying95
  a23 := Try.isAgg95
  z23 := Try.sizeOf95
  v23 := Try.zeroValue95
  t26 := Try.underlying3
  a26 := Try.isAgg3
  z26 := Try.sizeOf3
  v26 := Try.zeroValue3
  t27 := Try.underlying116
  a27 := Try.isAgg116
  z27 := Try.sizeOf116
  v27 := Try.zeroValue116
  t28 := Try.underlying117
  a28 := Try.isAgg117
  z28 := Try.sizeOf117
  v28 := Try.zeroValue117
  t33 := Try.underlying98
  a33 := Try.isAgg98
  z33 := Try.sizeOf98
  v33 := Try.zeroValue98 }
def dsorted_ren : Go.Shelf.Ren := ⟨fun | 6 => 78 | 8 => 83 | 9 => 84 | 11 => 86 | 13 => 88 | 12 => 87 | 23 => 98 | 24 => 99 | 14 => 89 | 15 => 90 | 16 => 91 | 17 => 92 | 18 => 93 | 19 => 94 | 20 => 95 | 21 => 96 | 22 => 97 | 25 => 100 | 26 => 101 | 27 => 102 | 28 => 103 | 29 => 104 | 30 => 105 | 31 => 106 | n => n, fun | 26 => 3 | 28 => 117 | 24 => 29 | 0 => 0 | 3 => 3 | 37 => 119 | 48 => 134 | 50 => 40 | 4 => 4 | 40 => 127 | 39 => 126 | 45 => 131 | 5 => 5 | 9 => 9 | 51 => 136 | 55 => 140 | 57 => 142 | 58 => 143 | 33 => 98 | n => n, fun | n => n⟩
theorem dsorted : Go.Proofs.SlLaysZI.n6 Try.prog dsorted_ren := {
  mixed := by kernel_rfl
  f6 := ⟨Try.f78.name, by decide, Try.func78.trans (congrArg some (by kernel_rfl))⟩
  f8 := ⟨Try.f83.name, by decide, Try.func83.trans (congrArg some (by kernel_rfl))⟩
  f11 := ⟨Try.f86.name, by decide, Try.func86.trans (congrArg some (by kernel_rfl))⟩
  t0 := Try.underlying0
  a0 := Try.isAgg0
  z0 := Try.sizeOf0
  v0 := Try.zeroValue0
  t24 := Try.underlying29
  a24 := Try.isAgg29
  z24 := Try.sizeOf29
  v24 := Try.zeroValue29
  t26 := Try.underlying3
  a26 := Try.isAgg3
  z26 := Try.sizeOf3
  v26 := Try.zeroValue3
  t28 := Try.underlying117
  a28 := Try.isAgg117
  z28 := Try.sizeOf117
  v28 := Try.zeroValue117
  i26 := by kernel_rfl }
def dsort_ren : Go.Shelf.Ren := ⟨fun | 5 => 84 | 8 => 88 | 7 => 87 | 19 => 98 | 20 => 99 | 10 => 89 | 11 => 90 | 12 => 91 | 13 => 92 | 14 => 93 | 15 => 94 | 16 => 95 | 17 => 96 | 18 => 97 | 30 => 100 | 31 => 101 | 32 => 102 | 33 => 103 | 34 => 104 | 35 => 105 | 40 => 106 | n => n, fun | 23 => 29 | 25 => 3 | 3 => 3 | 32 => 119 | 22 => 29 | 0 => 0 | 44 => 134 | 46 => 40 | 4 => 4 | 36 => 127 | 35 => 126 | 41 => 131 | 5 => 5 | 9 => 9 | 53 => 136 | 57 => 140 | 63 => 142 | 64 => 143 | n => n, fun | n => n⟩
theorem dsort : Go.Proofs.SlLaysM.n5 Try.prog dsort_ren := {
  mixed := by kernel_rfl
  f5 := ⟨Try.f84.name, by decide, Try.func84.trans (congrArg some (by kernel_rfl))⟩
  f7 := ⟨Try.f87.name, by decide, Try.func87.trans (congrArg some (by kernel_rfl))⟩
  f8 := Try.func88.trans (congrArg some (by kernel_rfl))
  f10 := ⟨Try.f89.name, by decide, Try.func89.trans (congrArg some (by kernel_rfl))⟩
  f11 := ⟨Try.f90.name, by decide, Try.func90.trans (congrArg some (by kernel_rfl))⟩
  f12 := ⟨Try.f91.name, by decide, Try.func91.trans (congrArg some (by kernel_rfl))⟩
  f13 := ⟨Try.f92.name, by decide, Try.func92.trans (congrArg some (by kernel_rfl))⟩
  f14 := ⟨Try.f93.name, by decide, Try.func93.trans (congrArg some (by kernel_rfl))⟩
  f15 := ⟨Try.f94.name, by decide, Try.func94.trans (congrArg some (by kernel_rfl))⟩
  f16 := ⟨Try.f95.name, by decide, Try.func95.trans (congrArg some (by kernel_rfl))⟩
  f17 := ⟨Try.f96.name, by decide, Try.func96.trans (congrArg some (by kernel_rfl))⟩
  f18 := ⟨Try.f97.name, by decide, Try.func97.trans (congrArg some (by kernel_rfl))⟩
  f19 := Try.func98.trans (congrArg some (by kernel_rfl))
  f20 := Try.func99.trans (congrArg some (by kernel_rfl))
  f30 := ⟨Try.f100.name, by decide, Try.func100.trans (congrArg some (by kernel_rfl))⟩
  f31 := Try.func101.trans (congrArg some (by kernel_rfl))
  f32 := Try.func102.trans (congrArg some (by kernel_rfl))
  f33 := ⟨Try.f103.name, by decide, Try.func103.trans (congrArg some (by kernel_rfl))⟩
  f34 := ⟨Try.f104.name, by decide, Try.func104.trans (congrArg some (by kernel_rfl))⟩
  f35 := ⟨Try.f105.name, by decide, Try.func105.trans (congrArg some (by kernel_rfl))⟩
  f40 := ⟨Try.f106.name, by decide, Try.func106.trans (congrArg some (by kernel_rfl))⟩
  t0 := Try.underlying0
  a0 := Try.isAgg0
  z0 := Try.sizeOf0
  v0 := Try.zeroValue0
  t3 := Try.underlying3
  a3 := Try.isAgg3
  z3 := Try.sizeOf3
  v3 := Try.zeroValue3
  t4 := Try.underlying4
  a4 := Try.isAgg4
  z4 := Try.sizeOf4
  v4 := Try.zeroValue4
  t5 := Try.underlying5
  a5 := Try.isAgg5
  z5 := Try.sizeOf5
  v5 := Try.zeroValue5
  t9 := Try.underlying9
  a9 := Try.isAgg9
  z9 := Try.sizeOf9
  v9 := Try.zeroValue9
  t22 := Try.underlying29
  a22 := Try.isAgg29
  z22 := Try.sizeOf29
  v22 := Try.zeroValue29
  t23 := Try.underlying29
  a23 := Try.isAgg29
  z23 := Try.sizeOf29
  v23 := Try.zeroValue29
  t25 := Try.underlying3
  a25 := Try.isAgg3
  z25 := Try.sizeOf3
  v25 := Try.zeroValue3
  t32 := Try.underlying119
  a32 := Try.isAgg119
  z32 := Try.sizeOf119
  v32 := Try.zeroValue119
  t35 := Try.underlying126
  a35 := Try.isAgg126
  z35 := Try.sizeOf126
  v35 := Try.zeroValue126
  t36 := Try.underlying127
  a36 := Try.isAgg127
  z36 := Try.sizeOf127
  v36 := Try.zeroValue127
  t41 := Try.underlying131
  a41 := Try.isAgg131
  z41 := Try.sizeOf131
  v41 := Try.zeroValue131
  t44 := Try.underlying134
  a44 := Try.isAgg134
  z44 := Try.sizeOf134
  v44 := Try.zeroValue134
  t46 := Try.underlying40
  a46 := Try.isAgg40
  z46 := Try.sizeOf40
  v46 := Try.zeroValue40
  t53 := Try.underlying136
  a53 := Try.isAgg136
  z53 := Try.sizeOf136
  v53 := Try.zeroValue136
  t57 := Try.underlying140
  a57 := Try.isAgg140
  z57 := Try.sizeOf140
  v57 := Try.zeroValue140
  t63 := Try.underlying142
  a63 := Try.isAgg142
  z63 := Try.sizeOf142
  v63 := Try.zeroValue142
  t64 := Try.underlying143
  a64 := Try.isAgg143
  z64 := Try.sizeOf143
  v64 := Try.zeroValue143 }
end Go.Proofs.Ytiggohkkokalcaa

/-! The walks of the disk's Files and Crash. -/
namespace Go.Proofs.Ytiggohkkokalcaa
open Go.RowKit Go.Maps Go.Sort Go.Shelf Go.ChangeMaps Go.MapKept Go.Proofs.YtiggohkkokalcaaW.PrintWords Go.Proofs.YtiggohkkokalcaaW.PrintMore
set_option linter.unusedVariables false
set_option linter.unusedSimpArgs false

theorem sortsD (m : Nat) : AnyZI.SortsIn Try.prog dsorted_ren Fence.wide m :=
  ⟨fun blk off cap ss W hH hblk hsz => callsIn_wide.2 (AnyM.slices_Sort_int dsort blk off cap ss W hH hblk hsz),
   fun p cap W => callsIn_wide.2 (AnyM.slices_Sort_int_none dsort p cap W)⟩
theorem keys_in_D {w : World} {bm nn : Nat} {D : DataW Value} (h : w.ownsMap Try.prog 3 RF bm nn D) {x : Int} (hx : x ∈ intKeys D) : Maps.has D (.int .i64 x) = true := by
  obtain ⟨es, clock, hb, F, hs, rfl⟩ := h
  obtain ⟨p, hp, rfl⟩ := List.mem_map.1 hx
  obtain ⟨e, he, rfl⟩ := List.mem_map.1 (mem_sorted.1 hp)
  obtain ⟨y, hy⟩ := F.reads e he
  obtain ⟨z, hz, hk, _⟩ := Maps.keyOf_int_inv Try.underlying3 (Go.WideElems.rd_key hy)
  rw [Go.WideElems.rg_of hy] at hp ⊢
  rw [hk]
  show Maps.has _ (Lit.int .i64 z) = true
  rw [Maps.has_eq]
  refine List.any_eq_true.2 ⟨y, hp, ?_⟩
  rw [hk]
  exact WideAt.sameKey_self (show WideAt.IsKeyLit (Lit.int .i64 z) from trivial)
set_option maxRecDepth 100000 in
set_option maxHeartbeats 2000000 in
theorem files_any {w : World} {dp bm nn : Nat} {f : Int → Option FE} {bs : Int → List G} (H : Disk w dp bm nn f bs) (hn : nn < 60000) :
    Calls Try.prog 65 #[.pointer (some ⟨dp, 0, none⟩)] w fun r w' => ∃ v ss, r = .returned v ∧ Vi w' (fun k => w.heap.size ≤ k) v ss ∧ (∀ x ∈ ss, (f x).isSome = true) ∧ ss.length ≤ nn ∧ Below w.heap.size w w' := by
  obtain ⟨c0, c1, c2, c3, c4⟩ := H.cells
  obtain ⟨D, hown, hT⟩ := H.map
  have HT := Lib.hid hT
  have hsz := hown.size_le
  clear hT H
  refine (callsIn_wide (n := 6)).1 ?_
  have hbl := hown.lt
  have hseq : SeqGives Fence.wide 2 Try.prog 85 #[.pointer (some ⟨w.heap.size, 0, none⟩)] encZ (fun ss => ss.Perm (intKeys D)) (Maps.size D) (w.alloc (.cells #[.map (some bm)] 95)) :=
    AnyZI.keys_gives (ρ := dkeys_ren) { dkeys with } Fence.wide _ trivial rfl (by omega) w.heap.size bm nn D _ (by simp) (by simp) (by
      obtain ⟨es, clock, hb, Ft, hs, hD⟩ := hown
      exact ⟨es, clock, (Below.heap_alloc _ _ bm hbl).trans hb, Ft, hs, hD⟩)
  have cK : ∀ mb W, CallsIn Fence.wide 5 Try.prog 79 #[.map mb] W fun e w' => e = .returned (.func (.func 85) #[] #[.pointer (some ⟨W.heap.size, 0, none⟩)]) ∧ w' = W.alloc (.cells #[.map mb] 95) := fun mb W => AnyZI.keys_in dkeys Fence.wide 5 trivial rfl mb W
  have cS := AnyZI.sorted_in dsorted Fence.wide 5 trivial trivial trivial trivial rfl (by omega) (sortsD _) (enters_of Try.func84 (by kernel_rfl) rfl) 85 #[.pointer (some ⟨w.heap.size, 0, none⟩)] trivial (enters_of Try.func85 (by kernel_rfl) rfl) _ _ (by unfold maxLen; omega) (by omega) _ hseq
  change CallsIn _ _ Try.prog 78 _ _ _ at cS
  have hfK : Fence.wide.fn 79 := trivial
  have hfS : Fence.wide.fn 78 := trivial
  refine callsIn_of_wp Try.func65 rfl trivial ?_ rfl
  simp only [Try.ntmps65, List.size_toArray, List.length_cons, List.length_nil, Nat.reduceAdd, Nat.reduceSub, Array.replicate_succ, Array.replicate_zero, List.push_toArray, List.append_toArray, List.nil_append, List.cons_append]
  gi_wp2_with (first
    | (gi_at_call 79; refine (cK _ _).mono ?_; rintro e w' ⟨rfl, rfl⟩)
    | (gi_at_call 78; refine cS.mono ?_; rintro e w' ⟨v, ss, rfl, hS, hrow, hnil, hb⟩))
  go_ret
  have hml : (ss.mergeSort fun x y => decide (x ≤ y)).length = ss.length := List.length_mergeSort _
  have hrow' : OwnI w' (w.alloc (.cells #[.map (some bm)] 95)).heap.size v (ss.mergeSort fun x y => decide (x ≤ y)) := by
    unfold OwnI
    rw [hml]
    exact hrow
  refine ⟨v, ss.mergeSort fun x y => decide (x ≤ y), rfl, Kd.V_mono hrow'.V (fun k hk => by have := (World.ownsRow.lt hrow' k hk.symm).1; rw [World.size_alloc] at this; omega), fun x hx => ?_, ?_, (below_alloc (Below.refl _ w) _).trans (hb.mono (by simp))⟩
  · have h1 : x ∈ intKeys D := hS.mem_iff.1 (List.mem_mergeSort.1 hx)
    have h2 := keys_in_D hown h1
    rw [(HT.out.2 x).1] at h2
    exact h2
  · rw [hml, hS.length_eq]
    have : (intKeys D).length = Maps.size D := by
      obtain ⟨es, rfl⟩ := HT.out.1
      exact List.length_map _
    omega
theorem Disk.cell_same {w : World} {dp bm nn : Nat} {f : Int → Option FE} {bs : Int → List G} (h : Disk w dp bm nn f bs) (i : Nat) (u : Value) (hu : (dispCells bm).setIfInBounds i u = dispCells bm) : Disk (w.setCell ⟨dp, i, none⟩ u) dp bm nn f bs ∧ Fr dp bm w (w.setCell ⟨dp, i, none⟩ u) := by
  obtain ⟨D, hD, hT⟩ := h.map
  have hg := setCell_grown w ⟨dp, i, none⟩ u
  refine ⟨⟨h.ne, ?_, ⟨D, hD.setCell (fun e => h.ne e.symm) u, hT⟩, fun x e he => ⟨(h.rd x e he).1, Kd.V_grown (h.rd x e he).2 hg (fun k hk e => hk.1 (Option.some.inj e))⟩⟩, (Fr.refl w).grown hg (fun k hk => .inl (Option.some.inj hk).symm)⟩
  simp only [World.setCell, Array.getElem?_modify, if_true, h.blk, Option.map_some]
  exact congrArg (fun c => some (Obj.cells c 97 (0, 0))) hu
/-- the same files, as many bytes in each -/
def Like (f g : Int → Option FE) : Prop := ∀ x, (f x = none → g x = none) ∧ ∀ e, f x = some e → ∃ e', g x = some e' ∧ e'.n = e.n ∧ e'.d = e.d
theorem Like.refl (f : Int → Option FE) : Like f f := fun x => ⟨fun h => h, fun e h => ⟨e, h, rfl, rfl⟩⟩
theorem Like.upd {f g : Int → Option FE} (h : Like f g) {x : Int} {e e' : FE} (hx : g x = some e) (h1 : e'.n = e.n) (h2 : e'.d = e.d) : Like f (updF g x e') := fun z => by
  unfold updF
  by_cases hz : z = x
  · subst hz
    rw [if_pos rfl]
    refine ⟨fun h0 => ?_, fun e0 h0 => ⟨e', rfl, ?_, ?_⟩⟩
    · exact absurd (hx.symm.trans ((h _).1 h0)) (by simp)
    · obtain ⟨e1, h3, h4, h5⟩ := (h _).2 e0 h0
      obtain rfl := Option.some.inj (hx.symm.trans h3)
      exact h1.trans h4
    · obtain ⟨e1, h3, h4, h5⟩ := (h _).2 e0 h0
      obtain rfl := Option.some.inj (hx.symm.trans h3)
      exact h2.trans h5
  · rw [if_neg hz]
    exact h z
theorem updB_self (bs : Int → List G) (x : Int) : updB bs x (bs x) = bs := by
  funext z
  unfold updB
  by_cases hz : z = x
  · rw [if_pos hz, hz]
  · rw [if_neg hz]
set_option maxRecDepth 100000 in
set_option maxHeartbeats 8000000 in
theorem crash_any {w : World} {dp bm nn : Nat} {f : Int → Option FE} {bs : Int → List G} (H : Disk w dp bm nn f bs) (hn : nn ≤ 300) (hG : ∀ x e, f x = some e → (0 ≤ x ∧ x < 64) ∧ e.d = (e.n : Int) ∧ 0 < e.n ∧ e.n ≤ 12) :
    Calls Try.prog 36 #[.pointer (some ⟨dp, 0, none⟩), .slice none 0 0, .int .i64 (-1)] w fun r w' => r = .returned (.tuple #[]) ∧ (∃ f' nn', Disk w' dp bm nn' f' bs ∧ ∀ x, (f x = none → f' x = none) ∧ ∀ e, f x = some e → ∃ e', f' x = some e' ∧ e'.n = e.n) ∧ Fr dp bm w w' := by
  obtain ⟨l1, l2⟩ := H.lt
  have hne := H.ne
  have HFI := Lib.hid (files_any H (by omega))
  have HH := Lib.hid H
  have HG := Lib.hid hG
  clear H hG
  go_enter Try.func36, Try.ntmps36
  go_wp2_with (go_at_call 65; refine HFI.out.mono ?_; rintro e w1 ⟨v, ss, rfl, hV, hS, hL, hB⟩; obtain ⟨As, cs, rfl, hcs, _⟩ := V_open hV; have HV := Lib.hid hV; have HS := Lib.hid hS; have HB := Lib.hid hB; clear hV hS hB)
  go_loopw [17, 6] (fun i s6 wr => s6 = .slice none 0 0 ∧ ∃ (k : Nat) (fk : Int → Option FE), i = .int .i64 k ∧ k ≤ ss.length ∧ Hid (Disk wr dp bm (nn + k) fk bs) ∧ Hid (Like f fk) ∧ Hid (Fr dp bm w1 wr)) (fun i _ _ => ss.length - (intOf i).toNat)
  case atStart => exact ⟨rfl, 0, f, rfl, Nat.zero_le _, Lib.hid (HH.out.below HB.out), Lib.hid (Like.refl f), Lib.hid (Fr.refl _)⟩
  case round =>
    obtain ⟨rfl, k, fk, rfl, hk, HD, HLK, HF⟩ := hrel
    by_cases hlt : k < ss.length
    · have hki : (k : Int) < (ss.length : Int) := by omega
      obtain ⟨ads, rfl, hcell, _⟩ := Vi_cell (HF.out.V HV.out (fun q hq => by constructor <;> omega)) k hlt
      have hxm : ss.getD k 0 ∈ ss := by rw [List.getD_eq_getElem?_getD, List.getElem?_eq_getElem hlt]; exact List.getElem_mem hlt
      obtain ⟨e0, he0⟩ := Option.isSome_iff_exists.1 (HS.out _ hxm)
      obtain ⟨hrx, hd0, hn0, hn12⟩ := HG.out _ e0 he0
      obtain ⟨e', he', hen', hed'⟩ := (HLK.out _).2 e0 he0
      clear hxm
      generalize ss.getD k 0 = x at *
      obtain ⟨c0, c1, c2, c3, c4⟩ := HD.out.cells
      have hrun := HD.out.look hrx.1 (by omega)
      have hfa : feAt fk x = e' := by unfold feAt; rw [he']; rfl
      rw [hfa] at hrun
      obtain ⟨hrn, hrv⟩ := HD.out.rd x e' he'
      have HFE := Lib.hid (And.intro he0 (And.intro hen' hed'))
      have HGX := Lib.hid he'
      clear hfa he0 he'
      obtain ⟨A, m, c, d⟩ := e'
      obtain rfl : d = (m : Int) := by have h1 : d = e0.d := hed'; have h2 : m = e0.n := hen'; omega
      have hm0 : 0 < m := by have h2 : m = e0.n := hen'; omega
      have hm12 : m ≤ 12 := by have h2 : m = e0.n := hen'; omega
      have hrun' : (Instr.lookup 95 (.map (some bm)) (.int .i64 x) false).run Try.prog wr = .ok (.agg #[.slice A m c, .int .i64 (m : Int)]) wr := hrun
      have hmc : m ≤ c := (Kd.V_at hrv).2.1
      obtain ⟨y, hy⟩ : ∃ y, y = bs x := ⟨_, rfl⟩
      rw [← hy] at hrn hrv
      have HY := Lib.hid hy
      obtain rfl : m = y.length := hrn
      have HRV := Lib.hid (Kd.V_bound hrv)
      clear hrun hrv hen' hed' hd0 hn0 hn12 hy
      have hk0 : decide ((k : Int) < 0) = false := decide_eq_false (by omega)
      obtain ⟨L, hL⟩ : ∃ L, L = wr.heap.size := ⟨_, rfl⟩
      have hb2 := alloc_blk wr (.cells #[.slice A y.length c, .int .i64 (y.length : Int)] 101)
      have HB2 : Hid (Below wr.heap.size wr (wr.alloc (.cells #[.slice A y.length c, .int .i64 (y.length : Int)] 101))) := Lib.hid (below_alloc (Below.refl _ _) _)
      have hsz2 : (wr.alloc (.cells #[.slice A y.length c, .int .i64 (y.length : Int)] 101)).heap.size = wr.heap.size + 1 := World.size_alloc _ _
      go_upto_region 5 with fail
      rw [← hL] at hb2 hsz2 ⊢
      have hwL := Nat.le_of_eq hL.symm
      clear hL hk0 hrun' c0 c1 c2 c3 c4 hcell
      generalize wr.alloc (.cells #[.slice A y.length c, .int .i64 (y.length : Int)] 101) = w2 at *
      obtain ⟨e0, e1, e2, e3⟩ := blk2 hb2
      have hm00 : IntKind.i64.wrap ((y.length : Int) + 0) = (y.length : Int) := by rw [IntWalk.i64_in _ (by omega)]; omega
      have HC := Lib.hid (clone_any y (.slice A y.length c) w2 (fun _ => True) (Kd.V_mono (Kd.V_below HRV.out HB2.out) (fun _ _ => trivial)) (by omega))
      have HB2B := Lib.hid hb2
      have HSZ := Lib.hid hsz2
      clear hb2 hsz2
      go_upto_region 9 with (go_at_call 50; refine HC.out.mono ?_; rintro e w3 ⟨v, rfl, hO, hB⟩; obtain ⟨g, cv, rfl, hgb, hgw⟩ := hO.form (by omega); have hb3 := (hB.block L (by have := HSZ.out; omega)).trans HB2B.out; obtain ⟨k0, k1, k2, k3⟩ := blk2 hb3; have HO := Lib.hid hO; have HB3 := Lib.hid hB; have HB3B := Lib.hid hb3; clear hO hB hb3)
      have hg4 : w3.grownBy (w3.setCell ⟨L, 0, none⟩ (.slice (some ⟨g, 0, none⟩) y.length cv)) (some L) := setCell_grown w3 ⟨L, 0, none⟩ _
      have hO4 := HO.out.grown hg4 (.inr (fun e => by have h1 := Option.some.inj e; have h2 := HSZ.out; change g = L at h1; omega))
      have hB4 : Below wr.heap.size wr (w3.setCell ⟨L, 0, none⟩ (.slice (some ⟨g, 0, none⟩) y.length cv)) := (HB2.out.trans (HB3.out.mono HB2.out.size)).setCell (p := ⟨L, 0, none⟩) hwL _
      have hb4 : (w3.setCell ⟨L, 0, none⟩ (.slice (some ⟨g, 0, none⟩) y.length cv)).heap[L]? = some (.cells #[.slice (some ⟨g, 0, none⟩) y.length cv, .int .i64 (y.length : Int)] 101) := by
        simp only [World.setCell, Array.getElem?_modify, if_true, HB3B.out, Option.map_some]
        rfl
      have HO4 := Lib.hid hO4
      have HB4 := Lib.hid hB4
      clear hg4 hO4 hB4 k0 k1 k2 k3 e0 e1 e2 e3
      generalize w3.setCell ⟨L, 0, none⟩ (.slice (some ⟨g, 0, none⟩) y.length cv) = w4 at *
      obtain ⟨k0, k1, k2, k3⟩ := blk2 hb4
      have HSETC := Lib.hid (set_any x (y.length : Int) (some ⟨g, 0, none⟩) y.length cv y hrx.1 (by omega) (by omega) (HD.out.below HB4.out) rfl (Kd.V_mono (ok' := fun k => k ≠ dp ∧ k ≠ bm) HO4.out.V (fun k hk => by have h1 := Option.some.inj hk; have h2 := HSZ.out; change k = g at h1; obtain ⟨l3, l4⟩ := HD.out.lt; omega)))
      have hyy : decide ((y.length : Int) < (y.length : Int)) = false := decide_eq_false (by omega)
      go_upto_region 10 with fail
      go_loopw [11, 6] (fun v s6 wq => v = .int .i64 y.length ∧ s6 = .slice none 0 0 ∧ wq = w4) (fun _ _ _ => 0)
      case atStart => exact ⟨rfl, rfl, rfl⟩
      case round =>
        obtain ⟨rfl, rfl, rfl⟩ := hrel
        go_wp2_with (go_at_call 62; refine HSETC.out.mono ?_; rintro e w6 ⟨rfl, hD6, hF6⟩; have HD6 := Lib.hid hD6; have HF6 := Lib.hid hF6; clear hD6 hF6)
        have hD6 := HD6.out
        unfold setF at hD6
        rw [if_neg (show ¬ y.length = 0 by omega), HY.out, updB_self] at hD6
        refine ⟨⟨rfl, k + 1, _, by go_num, by omega, Lib.hid (by rw [← Nat.add_assoc]; exact hD6), Lib.hid (HLK.out.upd HGX.out (by rw [HY.out]) (by rw [HY.out])), Lib.hid ((HF.out.below HB4.out).trans HF6.out)⟩, by simp [intOf]; omega⟩
    · obtain rfl : k = ss.length := by omega
      have hki : ¬ (ss.length : Int) < (ss.length : Int) := by omega
      have hD := HD.out
      have HHD := Lib.hid (harden_any hD (by omega) (fun x e' he' => by
        cases hx : f x with
        | none => rw [(HLK.out x).1 hx] at he'; cases he'
        | some e0 =>
          obtain ⟨e1, h1, h2, h3⟩ := (HLK.out x).2 e0 hx
          obtain rfl := Option.some.inj (he'.symm.trans h1)
          have := (HG.out x e0 hx).2.2.2
          omega))
      clear hD
      go_upto_region 20 with (go_at_call 64; refine HHD.out.mono ?_; rintro e w6 ⟨rfl, hD6, hF6⟩; have HD6 := Lib.hid hD6; have HF6 := Lib.hid hF6; clear hD6 hF6)
      obtain ⟨hDa, hFa⟩ := HD6.out.cell_same 2 (.bool false) rfl
      obtain ⟨hDb, hFb⟩ := hDa.cell_same 3 (.bool false) rfl
      have HDB := Lib.hid hDb
      have HFB := Lib.hid (hFa.trans hFb)
      obtain ⟨c0, c1, c2, c3, c4⟩ := HD6.out.cells
      obtain ⟨d0, d1, d2, d3, d4⟩ := hDa.cells
      have fr2 : w6.frozen? ⟨dp, 2, none⟩ = false := by simp [World.frozen?, HD6.out.blk]
      have fr3 : (w6.setCell ⟨dp, 2, none⟩ (.bool false)).frozen? ⟨dp, 3, none⟩ = false := by simp [World.frozen?, hDa.blk]
      clear hDa hFa hDb hFb
      go_wp2_with fail
      go_end0
      refine ⟨rfl, ⟨hardF fk, _, HDB.out, fun x => ⟨fun h => hardF_none ((HLK.out x).1 h), fun e he => ?_⟩⟩, (((Fr.of_below HB.out).trans HF.out).trans HF6.out).trans HFB.out⟩
      obtain ⟨e1, h1, h2, h3⟩ := (HLK.out x).2 e he
      exact ⟨_, hardF_some h1, h2⟩
end Go.Proofs.Ytiggohkkokalcaa

/-! The plain law behind ParityDisks: what is turned is found. -/
namespace Go.Proofs.Ytiggohkkokalcaa
set_option linter.unusedVariables false
set_option linter.unusedSimpArgs false

/-! ### one bit turned changes the hash -/
theorem mul_back (m i M a b : Nat) (h1 : m * i % M = 1 % M) (ha : a < M) (hb : b < M) (h : a * m % M = b * m % M) : a = b := by
  have e : ∀ x, x < M → (x * m % M) * i % M = x := fun x hx => by
    rw [Nat.mod_mul_mod, Nat.mul_assoc, Nat.mul_mod, h1, ← Nat.mul_mod, Nat.mul_one, Nat.mod_eq_of_lt hx]
  rw [← e a ha, ← e b hb, h]
theorem xs_back (a : Nat) (ha : a < 2 ^ 64) : (a ^^^ (a / 2 ^ 32)) ^^^ ((a ^^^ (a / 2 ^ 32)) / 2 ^ 32) = a := by
  have h2 : a / 2 ^ 32 / 2 ^ 32 = 0 := by
    rw [Nat.div_div_eq_div_mul, ← Nat.pow_add]
    exact Nat.div_eq_of_lt ha
  have h3 : (a ^^^ (a / 2 ^ 32)) / 2 ^ 32 = a / 2 ^ 32 := by
    rw [← Nat.shiftRight_eq_div_pow, Nat.shiftRight_xor_distrib, Nat.shiftRight_eq_div_pow, Nat.shiftRight_eq_div_pow, h2, Nat.xor_zero]
  rw [h3, Nat.xor_assoc, Nat.xor_self, Nat.xor_zero]
theorem mul_inv : mulN * 17428512612931826493 % 2 ^ 64 = 1 % 2 ^ 64 := by
  unfold mulN
  rfl
theorem xor_back (s a b : Nat) (h : s ^^^ a = s ^^^ b) : a = b := by
  have := congrArg (fun t => s ^^^ t) h
  simpa only [← Nat.xor_assoc, Nat.xor_self, Nat.zero_xor] using this
theorem mix_core {a b : Nat} (ha : a < 2 ^ 64) (hb : b < 2 ^ 64) (h : ((a * mulN) % 2 ^ 64) ^^^ (((a * mulN) % 2 ^ 64) / 2 ^ 32) = ((b * mulN) % 2 ^ 64) ^^^ (((b * mulN) % 2 ^ 64) / 2 ^ 32)) : a = b := by
  have h1 := xs_back ((a * mulN) % 2 ^ 64) (Nat.mod_lt _ (Nat.two_pow_pos 64))
  have h2 := xs_back ((b * mulN) % 2 ^ 64) (Nat.mod_lt _ (Nat.two_pow_pos 64))
  rw [h, h2] at h1
  exact mul_back mulN 17428512612931826493 (2 ^ 64) a b mul_inv ha hb h1.symm
theorem mix_right {s a b : Nat} (hs : s < 2 ^ 64) (ha : a < 2 ^ 64) (hb : b < 2 ^ 64) (h : mixN s a = mixN s b) : a = b :=
  xor_back s a b (mix_core (Nat.xor_lt_two_pow hs ha) (Nat.xor_lt_two_pow hs hb) h)
theorem mix_left {s a b : Nat} (hs : s < 2 ^ 64) (ha : a < 2 ^ 64) (hb : b < 2 ^ 64) (h : mixN a s = mixN b s) : a = b := by
  have := mix_core (Nat.xor_lt_two_pow ha hs) (Nat.xor_lt_two_pow hb hs) h
  rw [Nat.xor_comm a, Nat.xor_comm b] at this
  exact xor_back s a b this
theorem fold_left (t : List Nat) (ht : ∀ x ∈ t, x < 2 ^ 64) (a b : Nat) (ha : a < 2 ^ 64) (hb : b < 2 ^ 64) (h : foldN a t = foldN b t) : a = b := by
  induction t generalizing a b with
  | nil => exact h
  | cons x t ih =>
    exact mix_left (ht x (by simp)) ha hb (ih (fun y hy => ht y (by simp [hy])) _ _ (mixN_lt _ _) (mixN_lt _ _) h)
theorem fold_diff (f g : Nat → Nat) (s j k : Nat) (hs : s < 2 ^ 64) (hj : j < k) (hf : ∀ i, i < k → f i < 2 ^ 64) (hg : ∀ i, i < k → g i < 2 ^ 64) (he : ∀ i, i < k → i ≠ j → f i = g i) (hd : f j ≠ g j) :
    foldN s ((List.range k).map f) ≠ foldN s ((List.range k).map g) := by
  induction k with
  | zero => omega
  | succ k ih =>
    rw [List.range_succ, List.map_append, List.map_append, List.map_cons, List.map_nil, List.map_cons, List.map_nil, foldN_snoc, foldN_snoc]
    intro h
    by_cases hk : j = k
    · subst hk
      have hm : (List.range j).map f = (List.range j).map g := List.map_congr_left (fun i hi => he i (by have := List.mem_range.1 hi; omega) (by have := List.mem_range.1 hi; omega))
      rw [hm] at h
      exact hd (mix_right (foldN_lt _ _ hs) (hf j (by omega)) (hg j (by omega)) h)
    · rw [he k (by omega) (fun h => hk h.symm)] at h
      exact ih (by omega) (fun i hi => hf i (by omega)) (fun i hi => hg i (by omega)) (fun i hi => he i (by omega)) (mix_left (hg k (by omega)) (foldN_lt _ _ hs) (foldN_lt _ _ hs) h)
theorem leN_inj (l m : List G) (hl : l.length = m.length) (h : leN l = leN m) : l = m := by
  induction l generalizing m with
  | nil => exact (List.length_eq_zero_iff.1 hl.symm).symm
  | cons a l ih =>
    cases m with
    | nil => cases hl
    | cons b m =>
      simp only [leN] at h
      have h1 := a.isLt
      have h2 := b.isLt
      have e1 : a = b := BitVec.eq_of_toNat_eq (by omega)
      rw [e1, ih m (by simpa using hl) (by omega)]
theorem uN_iN (n : Nat) (h : n < 2 ^ 64) : uN (iN n) = n := by
  unfold uN iN
  rw [IntKind.wrap_u64, IntKind.wrap_i64]
  omega
theorem word_same (y : List G) (q i : Nat) (v : G) (h : i ≠ q / 8) : wordN (y.set q v) (8 * i) = wordN y (8 * i) := by
  unfold wordN piece
  rw [List.length_set]
  congr 1
  apply List.ext_getElem?
  intro t
  simp only [List.getElem?_take, List.getElem?_drop, List.getElem?_set]
  split
  · rw [if_neg (by omega)]
  · rfl
theorem word_other (y : List G) (q : Nat) (v : G) (hq : q < y.length) (hv : v ≠ y.getD q 0) : wordN (y.set q v) (8 * (q / 8)) ≠ wordN y (8 * (q / 8)) := by
  intro h
  unfold wordN at h
  rw [List.length_set] at h
  have h1 := leN_inj _ _ (by rw [piece_length _ _ _ (by omega) (by rw [List.length_set]; omega), piece_length _ _ _ (by omega) (by omega)]) h
  have h2 := congrArg (fun l => l[q - 8 * (q / 8)]?) h1
  simp only [piece, List.getElem?_take, List.getElem?_drop, List.getElem?_set] at h2
  rw [if_pos (by omega), if_pos (by omega), if_pos (by omega), if_pos (by omega)] at h2
  have h3 : 8 * (q / 8) + (q - 8 * (q / 8)) = q := by omega
  rw [h3] at h2
  exact hv (by rw [List.getD_eq_getElem?_getD, ← h2]; rfl)
theorem hash_set (y : List G) (q : Nat) (v : G) (hq : q < y.length) (hv : v ≠ y.getD q 0) : hashG (y.set q v) ≠ hashG y := by
  intro h
  unfold hashG bytesN sumN at h
  have hl : ∀ z : List G, z.length = y.length → ((wordsN z).map iN ++ [(z.length : Int)]).length = (y.length + 7) / 8 + 1 := fun z hz => by
    rw [List.length_append, List.length_map]; unfold wordsN; rw [wordsTo_length, hz]; rfl
  rw [hl _ (List.length_set ..), hl _ rfl] at h
  have hs : mixN (mixN (foldN 0 (wordsN labG)) labG.length) ((y.length + 7) / 8 + 1) < 2 ^ 64 := mixN_lt _ _
  generalize mixN (mixN (foldN 0 (wordsN labG)) labG.length) ((y.length + 7) / 8 + 1) = s at h hs
  have hw : ∀ z : List G, z.length = y.length → ((wordsN z).map iN ++ [(z.length : Int)]).map uN = (List.range ((y.length + 7) / 8)).map (fun i => wordN z (8 * i)) ++ [uN (y.length : Int)] := fun z hz => by
    rw [List.map_append, List.map_map]
    unfold wordsN wordsTo
    rw [List.map_map, hz]
    congr 1
    refine List.map_congr_left (fun i hi => ?_)
    have hi2 := List.mem_range.1 hi
    exact uN_iN _ (wordN_lt z _ (by omega))
  rw [hw _ (List.length_set ..), hw _ rfl, foldN_snoc, foldN_snoc] at h
  have h1 : mixN (foldN s ((List.range ((y.length + 7) / 8)).map (fun i => wordN (y.set q v) (8 * i)))) (uN (y.length : Int)) = mixN (foldN s ((List.range ((y.length + 7) / 8)).map (fun i => wordN y (8 * i)))) (uN (y.length : Int)) :=
    mix_left (by decide) (mixN_lt _ _) (mixN_lt _ _) h
  have h2 := mix_left (uN_lt _) (foldN_lt _ _ hs) (foldN_lt _ _ hs) h1
  refine fold_diff (fun i => wordN (y.set q v) (8 * i)) (fun i => wordN y (8 * i)) s (q / 8) ((y.length + 7) / 8) hs (by omega) (fun i hi => wordN_lt _ _ (by rw [List.length_set]; omega)) (fun i hi => wordN_lt _ _ (by omega)) (fun i hi hne => word_same y q i v hne) (word_other y q v hq hv) h2
theorem two_ne : ∀ k : Nat, k < 8 → BitVec.twoPow 8 k ≠ 0#8
  | 0, _ => by decide
  | 1, _ => by decide
  | 2, _ => by decide
  | 3, _ => by decide
  | 4, _ => by decide
  | 5, _ => by decide
  | 6, _ => by decide
  | 7, _ => by decide
  | n + 8, h => by omega
theorem flip_cell (y : List G) (bit : Nat) : y.getD (bit / 8) 0 ^^^ BitVec.twoPow 8 (7 - bit % 8) ≠ y.getD (bit / 8) 0 := by
  intro h
  have h2 := congrArg (fun t => y.getD (bit / 8) 0 ^^^ t) h
  simp only [← BitVec.xor_assoc, BitVec.xor_self, BitVec.zero_xor] at h2
  exact two_ne _ (by omega) h2
theorem flip_hash (y : List G) (bit : Nat) (h : bit < 8 * y.length) : hashG (flipB y bit) ≠ hashG y := hash_set y _ _ (by omega) (flip_cell y bit)
theorem flip_ne (y : List G) (bit : Nat) (h : bit < 8 * y.length) : flipB y bit ≠ y := fun e => flip_hash y bit h (by rw [e])
theorem flip_len (y : List G) (bit : Nat) : (flipB y bit).length = y.length := List.length_set ..
/-! ### what lies on the disk while it is damaged -/
/-- the files' bytes when the first k are written -/
def bsTo (all : List (List G)) (k : Nat) (x : Int) : List G := if 0 ≤ x ∧ x < (k : Int) then all.getD x.toNat [] else []
structure DInv (data : List (List G)) (f : Nat) (all : List (List G)) (bs : Int → List G) (D Q : List (List G)) (dm : List Bool) (cnt : Nat) (rest : List Int) : Prop where
  di : Dm data f D Q dm []
  tD : ∀ i, i < data.length → bs (i : Int) = D.getD i []
  tP : ∀ j, j < f → bs ((data.length : Int) + (j : Int)) = Q.getD j []
  tO : ∀ x, ¬ (0 ≤ x ∧ x < (data.length : Int) + (f : Int)) → bs x = []
  un : ∀ x ∈ rest, bs x = all.getD x.toNat []
  ct : cnt = (wantTo dm (data.length + f)).length
  sm : ∀ x, (bs x).length ≤ 12
theorem DInv.skip {data : List (List G)} {f : Nat} {all : List (List G)} {bs : Int → List G} {D Q : List (List G)} {dm : List Bool} {cnt : Nat} {x : Int} {rest : List Int} (h : DInv data f all bs D Q dm cnt (x :: rest)) : DInv data f all bs D Q dm cnt rest :=
  ⟨h.di, h.tD, h.tP, h.tO, fun z hz => h.un z (by simp [hz]), h.ct, h.sm⟩
theorem want_none (N k : Nat) : wantTo (List.replicate N false) k = [] := by
  induction k with
  | zero => rfl
  | succ k ih =>
    unfold wantTo
    have h : (List.replicate N false).getD k false = false := by
      rw [List.getD_eq_getElem?_getD, List.getElem?_replicate]; split <;> rfl
    rw [h, if_neg (by decide)]; exact ih
theorem want_set (dm : List Bool) (k N : Nat) (hk : k < dm.length) (hd : dm.getD k false = false) : (wantTo (dm.set k true) N).length = (wantTo dm N).length + if k < N then 1 else 0 := by
  induction N with
  | zero => rfl
  | succ N ih =>
    unfold wantTo
    rw [getD_set _ _ _ _ _ hk]
    by_cases h : N = k
    · subst h
      rw [if_pos rfl, if_pos rfl, hd, if_neg (by decide), List.length_append, ih, if_neg (by omega), if_pos (by omega)]; rfl
    · rw [if_neg h]
      split
      · rw [List.length_append, List.length_append, ih]
        by_cases h2 : k < N
        · rw [if_pos h2, if_pos (by omega)]; simp only [List.length_cons, List.length_nil]
        · rw [if_neg h2, if_neg (by omega)]; simp only [List.length_cons, List.length_nil]
      · rw [ih]
        by_cases h2 : k < N
        · rw [if_pos h2, if_pos (by omega)]
        · rw [if_neg h2, if_neg (by omega)]
theorem want_mem (dm : List Bool) (N : Nat) : ∀ x ∈ wantTo dm N, ∃ q : Nat, x = (q : Int) ∧ q < N ∧ dm.getD q false = true := by
  induction N with
  | zero => intro x hx; cases hx
  | succ N ih =>
    intro x hx
    unfold wantTo at hx
    split at hx
    · rename_i h
      rcases List.mem_append.1 hx with hx | hx
      · obtain ⟨q, h1, h2, h3⟩ := ih x hx; exact ⟨q, h1, by omega, h3⟩
      · exact ⟨N, List.mem_singleton.1 hx, by omega, h⟩
    · obtain ⟨q, h1, h2, h3⟩ := ih x hx; exact ⟨q, h1, by omega, h3⟩
theorem both_le (dm : List Bool) (data : List (List G)) (L N : Nat) : ldTo dm data N + lfTo dm data.length L N ≤ (wantTo dm N).length := by
  induction N with
  | zero => exact Nat.le_refl _
  | succ N ih =>
    unfold ldTo lfTo wantTo
    by_cases h : dm.getD N false = true
    · rw [if_pos h, List.length_append, List.length_singleton]
      by_cases h2 : N < data.length
      · rw [if_neg (show ¬ (dm.getD N false = true ∧ data.length ≤ N ∧ 0 < L) from fun h3 => by omega)]
        split <;> omega
      · rw [if_neg (show ¬ (dm.getD N false = true ∧ N < data.length ∧ 0 < (data.getD N []).length) from fun h3 => h2 h3.2.1)]
        split <;> omega
    · rw [if_neg h, if_neg (fun h3 => h h3.1), if_neg (fun h3 => h h3.1)]
      exact ih
section
variable {data : List (List G)} {f : Nat} {all : List (List G)} (hA : ∀ i, i < data.length → all.getD i [] = data.getD i []) (hP : ∀ j, all.getD (data.length + j) [] = (makeG data f).getD j []) (hS : ∀ k, (all.getD k []).length ≤ 12)
include hA hP hS
theorem DInv.start (gone : List Int) (hg : ∀ x ∈ gone, 0 ≤ x ∧ x < (data.length : Int) + (f : Int)) : DInv data f all (bsTo all (data.length + f)) data (makeG data f) (List.replicate (data.length + f) false) 0 gone := by
  have hr : ∀ i, (List.replicate (data.length + f) false).getD i false = false := fun i => by
    rw [List.getD_eq_getElem?_getD, List.getElem?_replicate]; split <;> rfl
  refine ⟨⟨rfl, makeG_length _ _, List.length_replicate .., fun k hk _ => ⟨by rw [hr]; simp, fun _ => rfl⟩, fun j hj _ => ⟨by rw [hr]; simp, fun _ => rfl⟩, fun k => ?_, fun j => ?_⟩, fun i hi => ?_, fun j hj => ?_, fun x hx => ?_, fun x hx => ?_, by rw [want_none]; rfl, fun x => ?_⟩
  · by_cases hk : k < data.length
    · rw [← hA k hk]; exact Nat.le_trans (hS k) (by decide)
    · rw [getD_over [] _ _ (by omega)]; exact Nat.zero_le _
  · rw [← hP j]; exact Nat.le_trans (hS _) (by decide)
  · unfold bsTo; rw [if_pos (by omega), ← hA i hi]; rfl
  · unfold bsTo; rw [if_pos (by omega), ← hP j]; congr 1
  · unfold bsTo; rw [if_neg (by omega)]
  · have := hg x hx
    unfold bsTo; rw [if_pos (by omega)]
  · unfold bsTo
    split
    · exact hS _
    · exact Nat.zero_le _
theorem DInv.hit {bs : Int → List G} {D Q : List (List G)} {dm : List Bool} {cnt kx bit : Nat} {rest : List Int} (h : DInv data f all bs D Q dm cnt ((kx : Int) :: rest)) (hk : kx < data.length + f) (hn : (kx : Int) ∉ rest) (hb : bit < 8 * (all.getD kx []).length) :
    ∃ D' Q', DInv data f all (updB bs (kx : Int) (flipB (all.getD kx []) bit)) D' Q' (dm.set kx true) (cnt + 1) rest := by
  have hu := h.un (kx : Int) (by simp)
  rw [Int.toNat_natCast] at hu
  have hdl : kx < dm.length := by rw [h.di.lm]; exact hk
  have hsm : ∀ x, (updB bs (kx : Int) (flipB (all.getD kx []) bit) x).length ≤ 12 := fun x => by
    unfold updB; split
    · rw [flip_len]; exact hS kx
    · exact h.sm x
  have hun : ∀ x ∈ rest, updB bs (kx : Int) (flipB (all.getD kx []) bit) x = all.getD x.toNat [] := fun x hx => by
    unfold updB; rw [if_neg (fun e => hn (by rw [← e]; exact hx))]; exact h.un x (by simp [hx])
  have htO : ∀ x, ¬ (0 ≤ x ∧ x < (data.length : Int) + (f : Int)) → updB bs (kx : Int) (flipB (all.getD kx []) bit) x = [] := fun x hx => by
    unfold updB; rw [if_neg (by omega)]; exact h.tO x hx
  have hl12 : (flipB (all.getD kx []) bit).length ≤ 70000 := by rw [flip_len]; exact Nat.le_trans (hS kx) (by decide)
  have hfh := flip_hash (all.getD kx []) bit hb
  have hfn := flip_ne (all.getD kx []) bit hb
  by_cases hd : kx < data.length
  · have e1 : D.getD kx [] = data.getD kx [] := by rw [← h.tD kx hd, hu, hA kx hd]
    have h0 : dm.getD kx false = false := by rw [(h.di.d kx hd (by simp)).1, e1]; simp
    have hw : Dm data f D Q dm ((kx : Int) :: []) := ⟨h.di.ld, h.di.lq, h.di.lm, fun k h1 _ => h.di.d k h1 (by simp), fun j h1 _ => h.di.p j h1 (by simp), h.di.sd, h.di.sq⟩
    have hst := dm_stepD hw (y := flipB (all.getD kx []) bit) hd hl12 (fun e => absurd (by rw [e, hA kx hd]) hfh)
    rw [decide_eq_true (by rw [← hA kx hd]; exact hfn)] at hst
    refine ⟨_, _, hst, fun i hi => ?_, fun j hj => ?_, htO, hun, ?_, hsm⟩
    · unfold updB
      rw [getD_set _ _ _ _ _ (by rw [h.di.ld]; exact hd)]
      by_cases e : i = kx
      · rw [if_pos (by omega), if_pos e]
      · rw [if_neg (by omega), if_neg e]; exact h.tD i hi
    · unfold updB
      rw [if_neg (by omega)]; exact h.tP j hj
    · rw [want_set _ _ _ hdl h0, if_pos hk, h.ct]
  · obtain ⟨j, rfl⟩ : ∃ j, kx = data.length + j := ⟨kx - data.length, by omega⟩
    have hj : j < f := by omega
    have e1 : Q.getD j [] = (makeG data f).getD j [] := by rw [← h.tP j hj, ← hP j, ← hu]; congr 1
    have h0 : dm.getD (data.length + j) false = false := by rw [(h.di.p j hj (by simp)).1, e1]; simp
    have hw : Dm data f D Q dm (((data.length : Int) + (j : Int)) :: []) := ⟨h.di.ld, h.di.lq, h.di.lm, fun k h1 _ => h.di.d k h1 (by simp), fun j h1 _ => h.di.p j h1 (by simp), h.di.sd, h.di.sq⟩
    have hst := dm_stepP hw (y := flipB (all.getD (data.length + j) []) bit) hj hl12 (fun e => absurd (by rw [e, hP j]) hfh)
    rw [decide_eq_true (by rw [← hP j]; exact hfn)] at hst
    refine ⟨_, _, hst, fun i hi => ?_, fun i hi => ?_, htO, hun, ?_, hsm⟩
    · unfold updB
      rw [if_neg (by omega)]; exact h.tD i hi
    · unfold updB
      rw [getD_set _ _ _ _ _ (by rw [h.di.lq]; exact hj)]
      by_cases e : i = j
      · rw [if_pos (by omega), if_pos e]
      · rw [if_neg (by omega), if_neg e]; exact h.tP i hi
    · rw [want_set _ _ _ hdl h0, if_pos hk, h.ct]
end
theorem DInv.fin {data : List (List G)} {f : Nat} {all : List (List G)} {bs : Int → List G} {D Q : List (List G)} {dm : List Bool} {cnt : Nat} {rest : List Int} (h : DInv data f all bs D Q dm cnt rest) (h16 : data.length ≤ 16) (h4 : f ≤ 4) (hl : longG data ≤ 65536) (hc : cnt ≤ f) :
    HScene data f D Q ∧ (badG data f D Q).length = cnt ∧ (∀ x ∈ badG data f D Q, ∃ q : Nat, x = (q : Int) ∧ q < data.length + f ∧ dm.getD q false = true) ∧ lostCt data (badG data f D Q) ≤ leftCt data f (badG data f D Q) := by
  have S := dm_scene h.di h16 h4 hl
  have hb := dm_bad h.di S
  refine ⟨S, by rw [hb, h.ct], fun x hx => want_mem dm _ x (hb ▸ hx), ?_⟩
  have h1 := dm_lost h.di S
  have h2 := dm_left h.di S
  have h3 := both_le dm data (longG data) (data.length + f)
  have h5 := h.ct
  omega
end Go.Proofs.Ytiggohkkokalcaa
