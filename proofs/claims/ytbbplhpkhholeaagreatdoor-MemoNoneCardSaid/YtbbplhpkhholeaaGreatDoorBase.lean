/- Words for the walks: what a slice reads as; what has turned between two worlds; append onto an owned row from whatever source. -/
import Derived.Test.YtbbplhpkhholeaaGreatDoorProg
import Derived.WalkKit
import Derived.OwnWalk
import Derived.Outline
import Derived.WalkSpells
import Derived.Lib.Hide
import Derived.Maps.AppendAt
import Derived.WideLaws
import Derived.KernelRfl
import Derived.Laws.BytesArg
import Derived.Lib.AppendStr
import Derived.Deep.QuietTactic
import Derived.BigQuiet
set_option linter.unusedVariables false
set_option linter.unusedSimpArgs false
set_option maxRecDepth 20000
namespace Go.Proofs.YtbbplhpkhholeaaGreatDoor
open Go.RowKit

/-! ### 1. What has turned: the old blocks outside S lie as they lay. -/
structure Fr (S : Nat → Prop) (w w' : World) : Prop where
  os : w'.os = w.os
  tape : w'.tape = w.tape
  output : w'.output = w.output
  size : w.heap.size ≤ w'.heap.size
  block : ∀ k, k < w.heap.size → ¬ S k → w'.heap[k]? = w.heap[k]?
theorem Fr.refl (S : Nat → Prop) (w : World) : Fr S w w := ⟨rfl, rfl, rfl, Nat.le_refl _, fun _ _ _ => rfl⟩
/-- Two steps; what the second one may turn is new since the first world, or of the first's S. -/
theorem Fr.trans {S T : Nat → Prop} {a b c : World} (h : Fr S a b) (k : Fr T b c) (hT : ∀ i, i < a.heap.size → T i → S i) : Fr S a c :=
  ⟨k.os.trans h.os, k.tape.trans h.tape, k.output.trans h.output, Nat.le_trans h.size k.size, fun i hi hS =>
    (k.block i (Nat.lt_of_lt_of_le hi h.size) (fun ht => hS (hT i hi ht))).trans (h.block i hi hS)⟩
theorem Fr.trans' {S : Nat → Prop} {a b c : World} (h : Fr S a b) (k : Fr S b c) : Fr S a c := h.trans k fun _ _ h => h
theorem Fr.mono {S T : Nat → Prop} {a b : World} (h : Fr S a b) (hT : ∀ i, i < a.heap.size → S i → T i) : Fr T a b :=
  ⟨h.os, h.tape, h.output, h.size, fun i hi hn => h.block i hi (fun hs => hn (hT i hi hs))⟩
theorem Fr.of_below {B : Nat} {a b : World} (h : Below B a b) : Fr (fun k => B ≤ k) a b := ⟨h.os, h.tape, h.output, h.size, fun i _ hn => h.block i (by omega)⟩
theorem Fr.below {S : Nat → Prop} {B : Nat} {a b : World} (h : Fr S a b) (hB : B ≤ a.heap.size) (hS : ∀ k, S k → B ≤ k) : Below B a b :=
  ⟨h.os, h.tape, h.output, h.size, fun i hi => h.block i (by omega) (fun hs => by have := hS i hs; omega)⟩
theorem Fr.of_same {S : Nat → Prop} {a b : World} (h : Below a.heap.size a b) : Fr S a b := ⟨h.os, h.tape, h.output, h.size, fun i hi _ => h.block i hi⟩
theorem Fr.same {a b : World} (h : Fr (fun _ => False) a b) : Below a.heap.size a b := ⟨h.os, h.tape, h.output, h.size, fun i hi => h.block i hi (fun h => h)⟩
theorem Fr.of_grown {a b : World} {row : Option Nat} (h : a.grownBy b row) : Fr (fun k => some k = row) a b := ⟨h.os, h.tape, h.output, h.size, fun i hi hn => h.block i hi hn⟩
theorem Fr.grown {S : Nat → Prop} {a b c : World} {row : Option Nat} (h : Fr S a b) (hg : b.grownBy c row) (hr : ∀ k, row = some k → k < a.heap.size → S k) : Fr S a c :=
  h.trans (Fr.of_grown hg) fun i hi e => hr i e.symm hi
theorem Fr.alloc {S : Nat → Prop} {a w : World} (h : Fr S a w) (o : Obj) : Fr S a (w.alloc o) :=
  h.trans (Fr.of_grown (World.grownBy_alloc w o none)) fun i _ e => by cases e
theorem Fr.setCell {S : Nat → Prop} {a w : World} (h : Fr S a w) {p : Addr} (u : Value) (hp : p.block < a.heap.size → S p.block) : Fr S a (w.setCell p u) :=
  ⟨h.os, h.tape, h.output, by simpa [World.setCell] using h.size, fun i hi hn => by
    rw [Below.heap_setCell _ _ _ _ (fun e => hn (by subst e; exact hp hi))]; exact h.block i hi hn⟩
theorem Fr.set {a w : World} {p : Nat} (h : Fr (fun k => k = p) a w) (j : Nat) (u : Value) : Fr (fun k => k = p) a (w.setCell ⟨p, j, none⟩ u) := h.setCell u fun _ => rfl
theorem Fr.drew {S : Nat → Prop} {a w : World} (h : Fr S a w) : Fr S a w.drew := ⟨h.os, h.tape, h.output, h.size, h.block⟩
theorem Fr.drewN {S : Nat → Prop} {a w : World} (h : Fr S a w) (n : Nat) : Fr S a (w.drewN n) := ⟨h.os, h.tape, h.output, h.size, h.block⟩
theorem Fr.cell {S : Nat → Prop} {a b : World} (h : Fr S a b) {p : Addr} {v : Value} (hc : a.cell? p = some v) (hS : ¬ S p.block) : b.cell? p = some v :=
  (World.cell?_of_block (h.block p.block (World.block_lt_of_cell? a p hc) hS)).trans hc
theorem Fr.frozen {S : Nat → Prop} {a b : World} (h : Fr S a b) {p : Addr} (hp : p.block < a.heap.size) (hS : ¬ S p.block) : b.frozen? p = a.frozen? p :=
  World.frozen?_of_block (h.block p.block hp hS)
theorem Fr.heap {S : Nat → Prop} {a b : World} (h : Fr S a b) {k : Nat} {o : Obj} (hk : a.heap[k]? = some o) (hS : ¬ S k) : b.heap[k]? = some o :=
  (h.block k (Array.getElem?_eq_some_iff.1 hk).1 hS).trans hk
theorem below_of_same {B : Nat} {a b c : World} (h : Below B a b) (hB : B ≤ b.heap.size) (k : Below b.heap.size b c) : Below B a c := h.trans (k.mono hB)
theorem below_drewN {B : Nat} {a w : World} (h : Below B a w) (n : Nat) : Below B a (w.drewN n) := ⟨h.os, h.tape, h.output, h.size, h.block⟩

/-! ### 2. What a slice reads as: n elements of so many cells. -/
def Sl (w : World) (size : Nat) (v : Value) (n : Nat) (vs : List Value) : Prop :=
  ∃ (A : Option Addr) (c : Nat), v = .slice A n c ∧ vs.length = n * size ∧ n ≤ c ∧ c ≤ 9223372036854775807 ∧ (A = none → c = 0) ∧ (∀ u ∈ vs, u.oneCell' = true) ∧
    ∀ ad, A = some ad → ad.spot = none ∧ ∀ j u, vs[j]? = some u → w.cell? ⟨ad.block, ad.off + j, none⟩ = some u
theorem Sl.nil (w : World) (size : Nat) : Sl w size (.slice none 0 0) 0 [] := ⟨none, 0, rfl, by simp, by omega, by omega, fun _ => rfl, by simp, fun ad e => by cases e⟩
theorem Sl.fr {S : Nat → Prop} {w w' : World} {size n : Nat} {v : Value} {vs : List Value} (h : Sl w size v n vs) (hf : Fr S w w')
    (hS : ∀ b, b < w.heap.size → S b → v.ownBlock ≠ some b) : Sl w' size v n vs := by
  obtain ⟨A, c, rfl, h1, h2, h3, h4, h5, h6⟩ := h
  refine ⟨A, c, rfl, h1, h2, h3, h4, h5, fun ad e => ⟨(h6 ad e).1, fun j u hu => ?_⟩⟩
  have hc := (h6 ad e).2 j u hu
  exact hf.cell hc fun hs => hS _ (World.block_lt_of_cell? w _ hc) hs (by rw [e]; rfl)
theorem Sl.same {w w' : World} {size n : Nat} {v : Value} {vs : List Value} (h : Sl w size v n vs) (hb : Below w.heap.size w w') : Sl w' size v n vs :=
  h.fr (S := fun _ => False) (Fr.of_same hb) fun _ _ h => h.elim
theorem Sl.alloc {w : World} {size n : Nat} {v : Value} {vs : List Value} (h : Sl w size v n vs) (o : Obj) : Sl (w.alloc o) size v n vs := h.same ((Below.refl _ _).alloc (Nat.le_refl _) o)
theorem Sl.drewN {w : World} {size n : Nat} {v : Value} {vs : List Value} (h : Sl w size v n vs) (k : Nat) : Sl (w.drewN k) size v n vs := h.same (below_drewN (Below.refl _ _) k)
theorem Sl.of_own {w : World} {base : Nat} {e : TypeId} {size n : Nat} {v : Value} {vs : List Value} (h : w.ownsRow base e size v n vs) (h1 : ∀ u ∈ vs, u.oneCell' = true) : Sl w size v n vs := by
  obtain ⟨hl, h2⟩ := h
  rcases h2 with ⟨rfl, rfl⟩ | ⟨g, cap, cur, rfl, hb, hh, hn, hm, hs, ht⟩
  · have : vs = [] := List.eq_nil_of_length_eq_zero (by simpa using hl)
    subst this; exact Sl.nil w size
  · refine ⟨some ⟨g, 0, none⟩, cap, rfl, hl, hn, by simpa [maxLen] using hm, fun e => (by cases e), h1, fun ad e => ?_⟩
    cases e
    refine ⟨rfl, fun j u hu => ?_⟩
    have hown : w.ownsRow base e size (.slice (some ⟨g, 0, none⟩) n cap) n vs := ⟨hl, .inr ⟨g, cap, cur, rfl, hb, hh, hn, hm, hs, ht⟩⟩
    have := hown.cells (g := g) rfl j u hu
    rwa [Addr.add_lit] at this

/-- Numbers as cells. -/
def numsV (k : IntKind) (xs : List Int) : List Value := xs.map fun x => .int k x
theorem numsV_length (k : IntKind) (xs : List Int) : (numsV k xs).length = xs.length := by simp [numsV]
theorem numsV_append (k : IntKind) (xs ys : List Int) : numsV k (xs ++ ys) = numsV k xs ++ numsV k ys := by simp [numsV]
theorem numsV_one (k : IntKind) (xs : List Int) : ∀ u ∈ numsV k xs, u.oneCell' = true := by
  intro u hu
  simp only [numsV, List.mem_map] at hu
  obtain ⟨x, _, rfl⟩ := hu
  rfl
def rdI (xs : List Int) (j : Nat) : Int := xs.getD j 0
theorem rdI_lt {xs : List Int} {j : Nat} (h : j < xs.length) : rdI xs j = xs[j] := by simp [rdI, h]
theorem numsV_at (k : IntKind) {xs : List Int} {j : Nat} (h : j < xs.length) : (numsV k xs)[j]? = some (.int k (rdI xs j)) := by simp [numsV, rdI, h]
/-- A slice of numbers. -/
def SlN (w : World) (k : IntKind) (v : Value) (xs : List Int) : Prop := Sl w 1 v xs.length (numsV k xs)
theorem SlN.form {w : World} {k : IntKind} {v : Value} {xs : List Int} (h : SlN w k v xs) :
    ∃ A c, v = .slice A xs.length c ∧ xs.length ≤ c ∧ c ≤ 9223372036854775807 ∧ (∀ j, j < xs.length → ∃ b off, A = some ⟨b, off, none⟩ ∧ w.cell? ⟨b, off + j, none⟩ = some (.int k (rdI xs j))) := by
  obtain ⟨A, c, rfl, h1, h2, h3, h4, h5, h6⟩ := h
  refine ⟨A, c, rfl, h2, h3, fun j hj => ?_⟩
  cases A with
  | none => have := h4 rfl; omega
  | some ad =>
    obtain ⟨e, hc⟩ := h6 ad rfl
    obtain ⟨b, off, sp⟩ := ad
    simp only at e
    subst e
    exact ⟨b, off, rfl, hc j _ (numsV_at k hj)⟩
theorem SlN.nil (w : World) (k : IntKind) : SlN w k (.slice none 0 0) [] := Sl.nil w 1
theorem SlN.of_own {w : World} {base : Nat} {e : TypeId} {k : IntKind} {v : Value} {xs : List Int} (h : w.ownsRow base e 1 v xs.length (numsV k xs)) : SlN w k v xs := Sl.of_own h (numsV_one k xs)
/-- All are bytes. -/
def Byts (xs : List Int) : Prop := ∀ x ∈ xs, 0 ≤ x ∧ x ≤ 255
theorem Byts.at_ {xs : List Int} (h : Byts xs) (j : Nat) : 0 ≤ rdI xs j ∧ rdI xs j ≤ 255 := by
  unfold rdI
  by_cases hj : j < xs.length
  · rw [List.getD_eq_getElem?_getD, List.getElem?_eq_getElem hj]; exact h _ (List.getElem_mem hj)
  · rw [List.getD_eq_getElem?_getD, List.getElem?_eq_none (by omega)]; simp
theorem Byts.append {xs ys : List Int} (h : Byts xs) (k : Byts ys) : Byts (xs ++ ys) := by
  intro x hx
  rcases List.mem_append.1 hx with h1 | h1
  · exact h x h1
  · exact k x h1
theorem Byts.drop {xs : List Int} (h : Byts xs) (n : Nat) : Byts (xs.drop n) := fun x hx => h x (List.mem_of_mem_drop hx)
theorem Byts.take {xs : List Int} (h : Byts xs) (n : Nat) : Byts (xs.take n) := fun x hx => h x (List.mem_of_mem_take hx)
theorem Byts.nil : Byts [] := fun x hx => by cases hx

/-- A block of cells, known whole: a struct behind a pointer. -/
def St (w : World) (p : Nat) (T : TypeId) (cs : Array Value) : Prop := w.heap[p]? = some (.cells cs T (0, 0))
theorem St.cell {w : World} {p : Nat} {T : TypeId} {cs : Array Value} (h : St w p T cs) (j : Nat) {v : Value} (hj : cs[j]? = some v) : w.cell? ⟨p, j, none⟩ = some v := by
  unfold St at h
  simpa [World.cell?, h] using hj
theorem St.frozen {w : World} {p : Nat} {T : TypeId} {cs : Array Value} (h : St w p T cs) (j : Nat) : w.frozen? ⟨p, j, none⟩ = false := by
  unfold St at h
  simp [World.frozen?, h]
theorem St.set {w : World} {p : Nat} {T : TypeId} {cs : Array Value} (h : St w p T cs) (j : Nat) (v : Value) : St (w.setCell ⟨p, j, none⟩ v) p T (cs.setIfInBounds j v) := by
  unfold St at h ⊢
  simp only [World.setCell, Array.getElem?_modify, if_true, h, Option.map_some]
  rfl
theorem St.new (w : World) (T : TypeId) (cs : Array Value) : St (w.alloc (.cells cs T)) w.heap.size T cs := heap_alloc_new w _
theorem St.lt {w : World} {p : Nat} {T : TypeId} {cs : Array Value} (h : St w p T cs) : p < w.heap.size := (Array.getElem?_eq_some_iff.1 h).1
theorem St.fr {S : Nat → Prop} {w w' : World} {p : Nat} {T : TypeId} {cs : Array Value} (h : St w p T cs) (hf : Fr S w w') (hp : ¬ S p) : St w' p T cs := hf.heap h hp
theorem St.far {w : World} {p : Nat} {T : TypeId} {cs : Array Value} (h : St w p T cs) {a : Addr} (ha : a.block ≠ p) (v : Value) : St (w.setCell a v) p T cs := by
  unfold St at h ⊢
  rw [Below.heap_setCell _ _ _ _ (fun e => ha e.symm)]; exact h
/-- A block of numbers, known whole. -/
def Blk (w : World) (g : Nat) (k : IntKind) (T : TypeId) (ds : List Int) : Prop := w.heap[g]? = some (.cells (numsV k ds).toArray T (0, 0))
theorem Blk.new (w : World) (k : IntKind) (T : TypeId) (ds : List Int) : Blk (w.alloc (.cells (numsV k ds).toArray T)) w.heap.size k T ds := heap_alloc_new w _
theorem Blk.cell {w : World} {g : Nat} {k : IntKind} {T : TypeId} {ds : List Int} (h : Blk w g k T ds) {j : Nat} (hj : j < ds.length) : w.cell? ⟨g, j, none⟩ = some (.int k (rdI ds j)) := by
  unfold Blk at h
  simp only [World.cell?, h]
  simpa using numsV_at k hj
theorem Blk.frozen {w : World} {g : Nat} {k : IntKind} {T : TypeId} {ds : List Int} (h : Blk w g k T ds) (j : Nat) : w.frozen? ⟨g, j, none⟩ = false := by
  unfold Blk at h
  simp [World.frozen?, h]
theorem Blk.set {w : World} {g : Nat} {k : IntKind} {T : TypeId} {ds : List Int} (h : Blk w g k T ds) (j : Nat) (x : Int) : Blk (w.setCell ⟨g, j, none⟩ (.int k x)) g k T (ds.set j x) := by
  unfold Blk at h ⊢
  simp only [World.setCell, Array.getElem?_modify, if_true, h, Option.map_some]
  simp [numsV, List.map_set]
theorem rdI_set {ds : List Int} {i j : Nat} {x : Int} (hi : i < ds.length) : rdI (ds.set i x) j = if i = j then x else rdI ds j := by
  unfold rdI
  simp only [List.getD_eq_getElem?_getD, List.getElem?_set]
  split
  · simp [hi]
  · rfl
theorem list_ext_rdI {xs ys : List Int} (hl : xs.length = ys.length) (h : ∀ j, j < xs.length → rdI xs j = rdI ys j) : xs = ys := by
  refine List.ext_getElem hl fun j h1 h2 => ?_
  have := h j h1
  rwa [rdI_lt h1, rdI_lt h2] at this
/-- A string's bytes as numbers. -/
def strN (s : ByteArray) : List Int := s.data.toList.map fun b => (b.toNat : Int)
theorem strN_length (s : ByteArray) : (strN s).length = s.size := by rw [strN, List.length_map, Array.length_toList]; rfl
theorem strN_cells (s : ByteArray) : Lib.strCells s = numsV .u8 (strN s) := by simp [Lib.strCells, numsV, strN]
theorem strN_byts (s : ByteArray) : Byts (strN s) := by
  intro x hx
  simp only [strN, List.mem_map] at hx
  obtain ⟨b, _, rfl⟩ := hx
  have := b.toNat_lt
  omega
theorem strN_of_nums {xs : List Int} (h : Byts xs) : strN (strOfNums xs) = xs := by
  unfold strN
  rw [strOfNums_data, List.map_map]
  conv => rhs; rw [← List.map_id xs]
  apply List.map_congr_left
  intro x hx
  have := h x hx
  simp only [Function.comp, id]
  rw [UInt8.toNat_ofNat']
  omega
theorem strN_inj {s t : ByteArray} (h : strN s = strN t) : s = t := by
  unfold strN at h
  have h2 : s.data.toList = t.data.toList := by
    refine List.map_inj_right (f := fun b : UInt8 => (b.toNat : Int)) ?_ |>.1 h
    intro a b hab
    exact UInt8.toNat_inj.1 (Int.ofNat.inj hab)
  cases s; cases t
  simp only [ByteArray.mk.injEq]
  exact Array.toList_inj.1 h2
theorem nums_of_strN (s : ByteArray) : strOfNums (strN s) = s := strN_inj (strN_of_nums (strN_byts s))

/-- The cut of a slice of numbers: from n on; up to n. -/
theorem numsV_drop (k : IntKind) (xs : List Int) (n : Nat) : numsV k (xs.drop n) = (numsV k xs).drop n := by simp [numsV, List.map_drop]
theorem numsV_take (k : IntKind) (xs : List Int) (n : Nat) : numsV k (xs.take n) = (numsV k xs).take n := by simp [numsV, List.map_take]
theorem SlN.take {w : World} {k : IntKind} {b off c n : Nat} {xs : List Int} (h : SlN w k (.slice (some ⟨b, off, none⟩) xs.length c) xs) (hn : n ≤ xs.length) {c' : Nat} (hc' : n ≤ c') (hc : c' ≤ c) :
    SlN w k (.slice (some ⟨b, off, none⟩) n c') (xs.take n) := by
  obtain ⟨A, c0, e, h1, h2, h3, h4, h5, h6⟩ := h
  cases e
  refine ⟨_, c', by rw [List.length_take, Nat.min_eq_left hn], by simp [numsV], by rw [List.length_take]; omega, by omega, fun e => (by cases e), numsV_one k _, fun ad e => ?_⟩
  cases e
  refine ⟨rfl, fun j u hu => ?_⟩
  rw [numsV_take, List.getElem?_take] at hu
  split at hu
  · exact (h6 _ rfl).2 j u hu
  · cases hu
theorem SlN.drop {w : World} {k : IntKind} {b off c n : Nat} {xs : List Int} (h : SlN w k (.slice (some ⟨b, off, none⟩) xs.length c) xs) (hn : n ≤ xs.length) :
    SlN w k (.slice (some ⟨b, off + n, none⟩) (xs.length - n) (c - n)) (xs.drop n) := by
  obtain ⟨A, c0, e, h1, h2, h3, h4, h5, h6⟩ := h
  cases e
  refine ⟨_, c - n, by rw [List.length_drop], by simp [numsV], by rw [List.length_drop]; omega, by omega, fun e => (by cases e), numsV_one k _, fun ad e => ?_⟩
  cases e
  refine ⟨rfl, fun j u hu => ?_⟩
  rw [numsV_drop, List.getElem?_drop] at hu
  have := (h6 _ rfl).2 (n + j) u hu
  simp only at this ⊢
  rw [Nat.add_assoc]; exact this
/-- nothing is left: whatever the address. -/
theorem SlN.empty (w : World) (k : IntKind) (A : Option Addr) (c : Nat) (hA : ∀ ad, A = some ad → ad.spot = none) (hc : c ≤ 9223372036854775807) (h0 : A = none → c = 0) : SlN w k (.slice A 0 c) [] :=
  ⟨A, c, rfl, by simp [numsV], by simp, hc, h0, by simp [numsV], fun ad e => ⟨hA ad e, fun j u hu => by simp [numsV] at hu⟩⟩

/-! ### 3. append onto an owned row, from whatever source. -/
theorem wpList_app {P : Program} {ops : Array Oper} {rest : List Oper} {o : Oper} {a : Act} {Q : Exit → Act → World → Prop} {w : World} (hgd : o.guard = none) (s x : Operand) (t e : TypeId) (z : Value) (size bytes : Nat)
    (ho : o.op = .call { callee := .builtin .append, args := #[s, x], argTypes := #[t, t] })
    (ht : P.underlying t = some (.slice e)) (hinfo : (P.info? e).map (fun i => (i.zero, i.size, i.bytes)) = some (some z, size, bytes)) (hzs : z.cells.size = size) (hsz : 0 < size) (hb0 : 0 < bytes)
    {base n m : Nat} {v xv : Value} {xs news : List Value} (hs : a.eval s = v) (hx : a.eval x = xv) (hown : w.ownsRow base e size v n xs) (hsrc : Sl w size xv m news)
    (hbytes : (n + m) * bytes ≤ 140737488355328) (hbase : base ≤ w.heap.size)
    (h : ∀ v' w', w'.ownsRow base e size v' (n + m) (xs ++ news) → w.grownBy w' v.ownBlock → (v'.ownBlock = v.ownBlock ∨ v'.ownBlock = some w.heap.size) → wpList P ops Q rest (a.put o.dst v') w') :
    wpList P ops Q (o :: rest) a w := by
  obtain ⟨i, hi, hzz⟩ := Option.map_eq_some_iff.1 hinfo
  simp only [Prod.mk.injEq] at hzz
  obtain ⟨hz0, hz1, hz2⟩ := hzz
  have h63 : n + m ≤ maxLen := by
    have := Nat.le_mul_of_pos_right (n + m) hb0
    simp only [maxLen]; omega
  obtain ⟨A, c, rfl, h1, h2, h3, h4, h5, h6⟩ := hsrc
  cases A with
  | some ad =>
    obtain ⟨hsp, hc⟩ := h6 ad rfl
    refine wpList_append_own_at w hgd s x t ho base e i z size bytes ht hi hz0 hz1 hz2 hzs hsz v n xs hs hown ad m c news hx h1 (fun j u hu => ?_) h5 h63 hbytes hbase (fun v' w' r1 r2 _ r4 => h v' w' r1 r2 r4)
    have := hc j u hu
    obtain ⟨b, off, sp⟩ := ad
    simp only at hsp
    subst hsp
    rwa [Addr.add_lit]
  | none =>
    have hc0 := h4 rfl
    obtain rfl : m = 0 := by omega
    obtain rfl : c = 0 := hc0
    have hnews : news = [] := List.eq_nil_of_length_eq_zero (by simpa using h1)
    subst hnews
    refine wpList_plain hgd fun K hK => ?_
    have hrun := run_append_owned_none (P := P) w base t o.type e i size ht hi v n xs hown
    unfold Oper.wp
    simp [execOp, ho, resolve, invoke, builtin, hs, hx, hrun, Result.andThen]
    exact hK _ _ (h v w (by simpa using hown) (World.grownBy.refl w _) (.inl rfl))
theorem le_alloc {B : Nat} {w : World} (h : B ≤ w.heap.size) (o : Obj) : B ≤ (w.alloc o).heap.size := by simp; omega
/-- Behind an append: what lay below B lies as it lay. -/
theorem below_app {w wr w' : World} {B n : Nat} {e : TypeId} {size : Nat} {v : Value} {xs : List Value} (o : Obj) (hO : Hid (wr.ownsRow B e size v n xs)) (hB : Hid (Below B w wr)) (hsz : B ≤ wr.heap.size)
    (hG : Hid ((wr.alloc o).grownBy w' v.ownBlock)) : Hid (Below B w w') :=
  (hB.out.alloc hsz o).grown hG.out (by simp; omega) fun k e => (hO.out.lt k e).1
theorem below_app' {w wr w' : World} {B n : Nat} {e : TypeId} {size : Nat} {v : Value} {xs : List Value} (hO : Hid (wr.ownsRow B e size v n xs)) (hB : Hid (Below B w wr)) (hsz : B ≤ wr.heap.size)
    (hG : Hid (wr.grownBy w' v.ownBlock)) : Hid (Below B w w') :=
  hB.out.grown hG.out hsz fun k e => (hO.out.lt k e).1
/-- The row of numbers behind an append. -/
theorem own_nums {w : World} {B n m : Nat} {e : TypeId} {k : IntKind} {v : Value} {xs ys : List Int} (h : Hid (w.ownsRow B e 1 v (n + m) (numsV k xs ++ numsV k ys))) (hn : xs.length = n) (hm : ys.length = m) :
    Hid (w.ownsRow B e 1 v (xs ++ ys).length (numsV k (xs ++ ys))) := by
  rw [← numsV_append] at h
  rw [List.length_append, hn, hm]; exact h
/-- A literal's row of one number. -/
theorem SlN.lit1 (w : World) (e : TypeId) (k : IntKind) (x : Int) : SlN (w.alloc (.cells #[.int k x] e)) k (.slice (some ⟨w.heap.size, 0, none⟩) 1 1) [x] := by
  refine ⟨_, 1, rfl, by simp [numsV], by simp, by omega, fun h => (by cases h), numsV_one k [x], fun ad h => ?_⟩
  cases h
  refine ⟨rfl, fun j u hu => ?_⟩
  cases j with
  | zero => simp [numsV] at hu; subst hu; exact cell_one_new _ _ _ 0 _ (by simp)
  | succ j => simp [numsV] at hu
end Go.Proofs.YtbbplhpkhholeaaGreatDoor
