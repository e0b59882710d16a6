/-
  The statements' proved: two small books.
-/
import Derived.Test.YthcolbjbafilcaaGreatTopB
import Derived.Test.YthcolbjbafilcaaGreatLib
set_option linter.unusedSimpArgs false
set_option linter.unusedVariables false
namespace Go.Proofs.YthcolbjbafilcaaGreat
open Go.RowKit Go.Shelf Go.Sort
attribute [local go_sem] Oper.semAt_some

theorem proved_val : spanVal [⟨0, true, ⟨5, 6⟩⟩] [] 0 9 = ⟨5, 6⟩ := by kernel_rfl
theorem proved_err : spanErr [⟨0, true, ⟨5, 6⟩⟩] [] 0 9 = 0 := by kernel_rfl
theorem proved_bias : biasOf [⟨⟨5, 6⟩, 8⟩] = ⟨2, 3⟩ := by kernel_rfl
set_option maxRecDepth 100000 in
set_option maxHeartbeats 2000000 in
theorem proved_any (L : LibSaid) (w : World) : Calls Tryz.prog 7 #[] w fun e w' => e = .returned (.bool true) ∧ Below w.heap.size w w' := by
  have hv := Lib.hid proved_val
  have he := Lib.hid proved_err
  have hb := Lib.hid proved_bias
  have HB0 := below_alloc w (.cells #[I 0, .bool true, I 5, I 6] 100)
  go_enter Tryz.func7, Tryz.ntmps7
  go_wp2_with fail
  refine (Span_any L _ _ [⟨0, true, ⟨5, 6⟩⟩] [] (fun _ => True) 0 9 _ (by simp) (by simp) (⟨some ⟨w.heap.size, 0, none⟩, 1, rfl, Nat.le_refl _, fun _ => ⟨w.heap.size, 0, rfl, trivial, by simp, fun i x hx => by
    cases i with
    | zero => simp at hx; subst hx; exact row_new w _ _ rfl
    | succ i => simp at hx⟩⟩) (SliceIs.nil _ _)).mono ?_
  rintro e w1 ⟨rfl, hB⟩
  rw [hv.out, he.out]
  have HB1 := below_from HB0 hB
  go_wp2_with fail
  have hH : HBookIs (fun _ => True) (((w1.alloc (.cells #[I 5, I 6] 96 (0, 0))).alloc (.cells #[I 5, I 6, I 8] 106 (0, 0))).alloc (.cells #[I 0, .slice (some ⟨w1.heap.size + 1, 0, none⟩) 1 1] 109 (0, 0))) (.slice none 0 0) (.slice (some ⟨w1.heap.size + 1 + 1, 0, none⟩) 1 1) [⟨⟨5, 6⟩, 8⟩] :=
    ⟨SliceIs.nil _ _, ⟨.slice (some ⟨w1.heap.size + 1, 0, none⟩) 1 1, ⟨some ⟨w1.heap.size + 1 + 1, 0, none⟩, 1, rfl, Nat.le_refl _, fun _ => ⟨w1.heap.size + 1 + 1, 0, rfl, trivial, by simp, fun i x hx => by
      cases i with
      | zero => simp at hx; subst hx; exact row_new _ [I 0, .slice (some ⟨w1.heap.size + 1, 0, none⟩) 1 1] 109 (by simp)
      | succ i => simp at hx⟩⟩, ⟨some ⟨w1.heap.size + 1, 0, none⟩, 1, rfl, Nat.le_refl _, fun _ => ⟨w1.heap.size + 1, 0, rfl, trivial, by simp, fun i x hx => by
      cases i with
      | zero => simp at hx; subst hx; exact (row_new (w1.alloc (.cells #[I 5, I 6] 96 (0, 0))) [I 5, I 6, I 8] 106 (by simp)).of_block (heap_old _ _ (by simp))
      | succ i => simp at hx⟩⟩⟩, by simp, by kernel_rfl⟩
  have HB2 : Below w.heap.size w (((w1.alloc (.cells #[I 5, I 6] 96 (0, 0))).alloc (.cells #[I 5, I 6, I 8] 106 (0, 0))).alloc (.cells #[I 0, .slice (some ⟨w1.heap.size + 1, 0, none⟩) 1 1] 109 (0, 0))) := below_from HB1 (below_alloc3 _ _ _ _)
  refine (hBias_ok L (fun _ => True) _ _ [⟨⟨5, 6⟩, 8⟩] _ hH (by rw [hb.out]; decide)).mono ?_
  rintro e w2 ⟨rfl, hB2⟩
  rw [hb.out]
  have HB3 := below_from HB2 hB2
  have c0 : w2.cell? ⟨w1.heap.size, 0, none⟩ = some (I 5) := (hB2.cell (p := ⟨w1.heap.size, 0, none⟩) (by simp; omega)).trans (by simp [go_sem])
  have c1 : w2.cell? ⟨w1.heap.size, 1, none⟩ = some (I 6) := (hB2.cell (p := ⟨w1.heap.size, 1, none⟩) (by simp; omega)).trans (by simp [go_sem])
  have hz : w1.heap.size < w2.heap.size := by have := hB2.size; simp at this; omega
  clear hH
  go_wp2_with fail
  go_ret
  exact ⟨rfl, below_from HB3 (below_alloc _ _)⟩
end Go.Proofs.YthcolbjbafilcaaGreat
