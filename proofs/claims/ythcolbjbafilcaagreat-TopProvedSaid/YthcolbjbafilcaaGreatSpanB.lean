/-
  chain: (*spanning).holding.
-/
import Derived.Test.YthcolbjbafilcaaGreatSpanA
set_option linter.unusedSimpArgs false
set_option linter.unusedVariables false
namespace Go.Proofs.YthcolbjbafilcaaGreat
open Go.RowKit Go.Shelf
attribute [local go_sem] Oper.semAt_some

abbrev spanObj (bw rh rs : Nat) : Obj := .cells #[.pointer (some ⟨bw, 0, none⟩), .map (some rh), .map (some rs)] 204 (0, 0)
theorem span_cells {w : World} {bs bw rh rs : Nat} (h : w.heap[bs]? = some (spanObj bw rh rs)) : w.cell? ⟨bs, 0, none⟩ = some (.pointer (some ⟨bw, 0, none⟩)) ∧ w.cell? ⟨bs, 1, none⟩ = some (.map (some rh)) ∧ w.cell? ⟨bs, 2, none⟩ = some (.map (some rs)) :=
  ⟨cell_of_heap h 0, cell_of_heap h 1, cell_of_heap h 2⟩
theorem holding_any (bs bw rh rs : Nat) (hl : List (Int × Bool)) (c : Cert) (w : World) (hs : w.heap[bs]? = some (spanObj bw rh rs)) (hm : MapIs I Value.bool w rh hl) :
    Calls Tryz.prog 82 #[.pointer (some ⟨bs, 0, none⟩), c.v] w fun e w' => e = .returned (.bool ((hl.lookup c.number).getD false)) ∧ Below w.heap.size w w' := by
  go_enter Tryz.func82, Tryz.ntmps82
  have hzs := heap_at hs
  have hzr := hm.lt
  go_wp2_with fail
  refine name_world ?_
  intro W hW
  have hBW : Below w.heap.size w W := by rw [hW]; exact below_alloc _ _
  have hr : RowAt W w.heap.size 0 c.cells := by rw [hW]; exact row_new w c.cells 171 rfl
  clear hW
  obtain ⟨s0, s1, -⟩ := span_cells ((hBW.block _ hzs).trans hs)
  obtain ⟨e0, -⟩ := hr.seven
  have hlk : ∀ q, (Instr.lookup 164 (.map (some rh)) (I c.number) false).run Tryz.prog (W.drewN q) = .ok (.bool ((hl.lookup c.number).getD false)) (W.drewN q) := fun q => lookup_bool (hm.below hBW) c.number _ rfl
  go_quiet (fail)
  go_wp2_with fail
  go_ret
  exact ⟨rfl, hBW.drewN _⟩
end Go.Proofs.YthcolbjbafilcaaGreat
