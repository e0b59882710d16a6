/-
  Words for ranges over functions: frames by name, what the caller's facts abide.
-/
import Derived.Test.YthcolbjbafilcaaGreatBase
import Derived.RangeFuncNested
import Derived.RangeFuncBound
import Derived.RangeFuncCalls
import Derived.RangeFuncLeaves
import Derived.RangeFuncBox
set_option linter.unusedSimpArgs false
set_option linter.unusedVariables false
namespace Go.Proofs.YthcolbjbafilcaaGreat
open Go.RowKit

theorem name_tmps {P : Program} {c : Code} {Q : Exit → Act → World → Prop} {t : Array Value} {ds : List Deferred} {w : World} (h : ∀ A, A = t → c.wp P Q { tmps := A, defers := ds } w) : c.wp P Q { tmps := t, defers := ds } w := h t rfl
theorem rowAt_grown {w w' : World} {b o : Nat} {x : Value} {r : List Value} {row : Option Nat} (h : RowAt w b o (x :: r)) (hg : w.grownBy w' row) (hr : ∀ k, row = some k → ∃ ob : Obj, w.heap[k]? = some ob ∧ ob.isCells = false) : RowAt w' b o (x :: r) := by
  have hlt : b < w.heap.size := World.block_lt_of_cell? w _ h.c0
  refine h.of_block (hg.block b hlt (fun e => ?_))
  obtain ⟨ob, h1, h2⟩ := hr b e.symm
  have h0 := h.c0
  simp only [World.cell?, h1] at h0
  cases ob <;> simp_all [Obj.isCells]
theorem boxed_grown {w w' : World} {b : Nat} {t : TypeId} {c : Array Value} {row : Option Nat} (h : w.heap[b]? = some (.cells c t (0, 0))) (hg : w.grownBy w' row) (hr : ∀ k, row = some k → ∃ ob : Obj, w.heap[k]? = some ob ∧ ob.isCells = false) : w'.heap[b]? = some (.cells c t (0, 0)) := by
  refine (hg.block b (heap_at h) (fun e => ?_)).trans h
  obtain ⟨ob, h1, h2⟩ := hr b e.symm
  rw [h] at h1
  cases h1
  simp [Obj.isCells] at h2
theorem kept_grown {S : Nat → Prop} {N : Nat} {w W W' : World} {row : Option Nat} (h : Kept S w W) (hS : ∀ i, N ≤ i → S i) (hg : W.grownBy W' row) (hr : ∀ k, row = some k → N ≤ k) : Kept S w W' :=
  h.trans (Kept.grown hg (fun k hk _ => hS k (hr k hk)))
theorem kept_putObj {S : Nat → Prop} {N : Nat} (hS : ∀ i, N ≤ i → S i) (W : World) (l : Nat) (o : Obj) (hl : N ≤ l) : Kept S W (W.putObj l o) := Kept.grown (grownBy_putObj' W l o) (fun k hk _ => by cases hk; exact hS _ hl)
theorem setCell_box {w : World} {b : Nat} {t : TypeId} {v u : Value} (h : w.heap[b]? = some (.cells #[v] t (0, 0))) : (w.setCell ⟨b, 0, none⟩ u).heap[b]? = some (.cells #[u] t (0, 0)) := by
  rw [setCell_heap h]; rfl
end Go.Proofs.YthcolbjbafilcaaGreat
