/-
  The block of a book that is worked on (chain.work): its cells; what makes it, and what a store of its list of numbers does.
-/
import Derived.Test.YthcolbjbafilcaaGreatChainV
set_option linter.unusedSimpArgs false
set_option linter.unusedVariables false
namespace Go.Proofs.YthcolbjbafilcaaGreat
open Go.RowKit Go.Shelf
def workObj (vi vc : Value) (r : Nat) (vn : Value) : Obj := .cells (workCells vi vc r vn) 197 (0, 0)
theorem workCells_size (vi vc : Value) (r : Nat) (vn : Value) : (workCells vi vc r vn).size = 1004 := by simp [workCells]
theorem workCells_0 (vi vc : Value) (r : Nat) (vn : Value) : (workCells vi vc r vn)[0]? = some vi := by simp [workCells, Array.getElem?_append]
theorem workCells_1 (vi vc : Value) (r : Nat) (vn : Value) : (workCells vi vc r vn)[1]? = some vc := by simp [workCells, Array.getElem?_append]
theorem workCells_2 (vi vc : Value) (r : Nat) (vn : Value) : (workCells vi vc r vn)[2]? = some (.map (some r)) := by simp [workCells, Array.getElem?_append]
theorem workCells_3 (vi vc : Value) (r : Nat) (vn : Value) : (workCells vi vc r vn)[3]? = some vn := by simp [workCells, Array.getElem?_append]
theorem workCells_bad (vi vc : Value) (r : Nat) (vn : Value) (k : Nat) (h : k < 1000) : (workCells vi vc r vn)[4 + k]? = some (.bool false) := by
  unfold workCells; rw [Array.getElem?_append_right (by simp)]; simp [h]
section
variable {w : World} {bw : Nat} {vi vc : Value} {r : Nat} {vn : Value}
theorem work_cells (h : w.heap[bw]? = some (workObj vi vc r vn)) : w.cell? ⟨bw, 0, none⟩ = some vi ∧ w.cell? ⟨bw, 1, none⟩ = some vc ∧ w.cell? ⟨bw, 2, none⟩ = some (.map (some r)) ∧ w.cell? ⟨bw, 3, none⟩ = some vn ∧ (∀ k, k < 1000 → w.cell? ⟨bw, 4 + k, none⟩ = some (.bool false)) ∧ w.frozen? ⟨bw, 3, none⟩ = false := by
  exact ⟨(cell_of_heap h 0).trans (workCells_0 ..), (cell_of_heap h 1).trans (workCells_1 ..), (cell_of_heap h 2).trans (workCells_2 ..), (cell_of_heap h 3).trans (workCells_3 ..),
    fun k hk => (cell_of_heap h (4 + k)).trans (workCells_bad _ _ _ _ k hk), free_of_heap h 3⟩
theorem work_store (h : w.heap[bw]? = some (workObj vi vc r vn)) (vn' : Value) : (w.setCell ⟨bw, 3, none⟩ vn').heap[bw]? = some (workObj vi vc r vn') := by
  rw [setCell_heap (c := workCells vi vc r vn) h]
  show some (Obj.cells _ _ _) = some (Obj.cells _ _ _)
  rw [show (workCells vi vc r vn).setIfInBounds 3 vn' = workCells vi vc r vn' from ?_]
  unfold workCells
  apply Array.ext_getElem?
  intro i
  by_cases hi : i = 3
  · subst hi; simp [Array.getElem?_append]
  · rw [Array.getElem?_setIfInBounds, if_neg (Ne.symm hi)]
    by_cases h4 : i < 4
    · rw [Array.getElem?_append_left (by simpa using h4), Array.getElem?_append_left (by simpa using h4)]
      have : i = 0 ∨ i = 1 ∨ i = 2 := by omega
      rcases this with rfl | rfl | rfl <;> rfl
    · rw [Array.getElem?_append_right (by simp; omega), Array.getElem?_append_right (by simp; omega)]
      rfl
end
/-- A book that is worked on: its lists, its certificates by number, their numbers. -/
structure WorkIs (ok : Nat → Prop) (w : World) (bw : Nat) (items : List Item) (certs : List Cert) (cm : List (Int × Cert)) (ns : List Int) : Prop where
  lies : ∃ vi vc r vn, w.heap[bw]? = some (workObj vi vc r vn) ∧ ItemsIs ok w vi items ∧ CertsIs ok w vc certs ∧ MapIs I Cert.v w r cm ∧ IntsIs ok w vn ns ∧ ok bw ∧ ok r
end Go.Proofs.YthcolbjbafilcaaGreat
