/-
  The cells of a book that is worked on, as a composite literal lays them.
-/
import Derived.Test.YthcolbjbafilcaaGreatChainA
import Derived.Test.YthcolbjbafilcaaGreatMaps
set_option linter.unusedSimpArgs false
set_option linter.unusedVariables false
namespace Go.Proofs.YthcolbjbafilcaaGreat
open Go.RowKit Go.Shelf
def workCells (vi vc : Value) (r : Nat) (vn : Value) : Array Value := #[vi, vc, .map (some r), vn] ++ Array.replicate 1000 (.bool false)
theorem work_zero (vi vc : Value) (r : Nat) : ((Tryz.zeroCells197.setIfInBounds 0 vi).setIfInBounds 1 vc).setIfInBounds 2 (.map (some r)) = workCells vi vc r (.slice none 0 0) := by kernel_rfl
end Go.Proofs.YthcolbjbafilcaaGreat
