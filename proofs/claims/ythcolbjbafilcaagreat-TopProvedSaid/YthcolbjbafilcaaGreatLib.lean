/-
  What is taken from the shelf of Go's library: slices.Sort, Max and Min of whole numbers.
-/
import Derived.Test.YthcolbjbafilcaaGreatShelf
import Derived.Test.YthcolbjbafilcaaGreatSpanA
import Derived.Sort.OwnSortedInts
set_option linter.unusedSimpArgs false
set_option linter.unusedVariables false
namespace Go.Proofs.YthcolbjbafilcaaGreat
open Go.RowKit Go.Shelf Go.Sort

theorem sort_said : SortSaid := by
  intro base v ns w hl hown
  have hlen : (sortI ns).length = ns.length := by simp [sortI]
  rcases hown.2 with ⟨rfl, h0⟩ | ⟨g, cap, cur, rfl, hbase, hb, h1, h2, h3, h4⟩
  · have hn : ns = [] := List.eq_nil_of_length_eq_zero h0
    subst hn
    refine (Tryz.slices_Sort_int_none none 0 w).mono ?_
    rintro e w' ⟨rfl, rfl⟩
    exact ⟨rfl, by rw [show sortI [] = [] from by simp [sortI]]; exact hown, ⟨rfl, rfl, rfl, Nat.le_refl _, fun _ _ _ => rfl⟩⟩
  · rw [Nat.mul_one] at h4
    refine (Tryz.slices_Sort_int g 0 cap ns w (holds_of_blockI hb h4) (Array.getElem?_eq_some_iff.1 hb).1 (by omega)).mono ?_
    rintro e w' ⟨rfl, n, os, rfl⟩
    have := ownsRow_sortedI (base := base) (n := n) (os := os) (ts := sortI ns) hlen hbase hb h1 h2 h3
    exact ⟨rfl, this, grownBy_sortedI _⟩
theorem cells_two {w : World} {b : Nat} {x y : Int} (h0 : w.cell? ⟨b, 0, none⟩ = some (I x)) (h1 : w.cell? ⟨b, 1, none⟩ = some (I y)) : ∀ j, j < [x, y].length → w.cell? ⟨b, 0 + j, none⟩ = some (.int .i64 ([x, y].getD j 0)) := by
  intro j hj
  simp at hj
  have : j = 0 ∨ j = 1 := by omega
  rcases this with rfl | rfl
  · exact h0
  · exact h1
theorem lib_said : LibSaid where
  sort := sort_said
  max2 b c x y w h0 h1 := by
    refine (Tryz.slices_Max_int b 0 2 c [x, y] w (by decide) (by simp) (by decide) (cells_two h0 h1)).mono ?_
    rintro e w' ⟨rfl, rfl⟩
    exact ⟨ret_int (by show max (max x x) y = _; rw [Int.max_self]), rfl⟩
  min2 b c x y w h0 h1 := by
    refine (Tryz.slices_Min_int b 0 2 c [x, y] w (by decide) (by simp) (by decide) (cells_two h0 h1)).mono ?_
    rintro e w' ⟨rfl, rfl⟩
    exact ⟨ret_int (by show min (min x x) y = _; rw [Int.min_self]), rfl⟩
end Go.Proofs.YthcolbjbafilcaaGreat
