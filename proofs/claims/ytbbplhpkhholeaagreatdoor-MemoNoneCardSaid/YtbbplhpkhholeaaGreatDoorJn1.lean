/- A journal: plainly and in memory; add, Len, payload. -/
import Derived.Test.YtbbplhpkhholeaaGreatDoorDisk7
import Derived.Deep.AppendLies
set_option linter.unusedVariables false
set_option linter.unusedSimpArgs false
set_option maxRecDepth 20000
namespace Go.Proofs.YtbbplhpkhholeaaGreatDoor
open Go.RowKit Go.Maps

structure Jn where
  recs : List (List Int)
  size : Int
  cut : Bool
def Jn.all (j : Jn) : List Int := j.recs.flatten
def offs : Int → List (List Int) → List (Int × Int)
  | _, [] => []
  | k, r :: rs => (k, k + r.length) :: offs (k + r.length) rs
def partsV (ps : List (Int × Int)) : List Value := ps.flatMap fun p => [.int .i64 p.1, .int .i64 p.2]
theorem offs_snoc (r : List Int) : ∀ (k : Int) (rs : List (List Int)), offs k (rs ++ [r]) = offs k rs ++ [(k + rs.flatten.length, k + rs.flatten.length + r.length)]
  | k, [] => by simp [offs]
  | k, a :: rs => by
    have := offs_snoc r (k + a.length) rs
    simp only [List.cons_append, offs, this, List.flatten_cons, List.length_append, Int.natCast_add]
    rw [show k + (a.length : Int) + (rs.flatten.length : Int) = k + ((a.length : Int) + (rs.flatten.length : Int)) from by omega]
theorem offs_length : ∀ (k : Int) (rs : List (List Int)), (offs k rs).length = rs.length
  | _, [] => rfl
  | k, a :: rs => by simp [offs, offs_length]
theorem partsV_length (ps : List (Int × Int)) : (partsV ps).length = ps.length * 2 := by
  induction ps with
  | nil => rfl
  | cons p ps ih => simp only [partsV, List.flatMap_cons, List.length_append, List.length_cons, List.length_nil] at *; omega
theorem partsV_append (ps qs : List (Int × Int)) : partsV (ps ++ qs) = partsV ps ++ partsV qs := by simp [partsV]
theorem partsV_one (ps : List (Int × Int)) : ∀ u ∈ partsV ps, u.oneCell' = true := by
  intro u hu
  obtain ⟨p, _, hp⟩ := List.mem_flatMap.1 hu
  simp only [List.mem_cons, List.not_mem_nil, or_false] at hp
  rcases hp with rfl | rfl <;> rfl
theorem infoPart : (Tryz.prog.info? 189).map (fun i => (i.zero.map (·.cells.size), i.size, i.bytes)) = some (some 2, 2, 16) := by kernel_rfl
def IsJn (w : World) (q p : Nat) (file : ByteArray) (j : Jn) (S : Nat → Prop) : Prop :=
  ∃ va vp, St w q 153 #[.pointer (some ⟨p, 0, none⟩), .string file, va, vp, .int .i64 j.size, .bool j.cut] ∧ w.ownsRow 0 5 1 va j.all.length (numsV .u8 j.all) ∧
    w.ownsRow 0 189 2 vp j.recs.length (partsV (offs 0 j.recs)) ∧ (∀ r ∈ j.recs, Byts r) ∧ S q ∧ (∀ g, va.ownBlock = some g → S g) ∧ (∀ g, vp.ownBlock = some g → S g) ∧ (∀ k, S k → k < w.heap.size)
end Go.Proofs.YtbbplhpkhholeaaGreatDoor
