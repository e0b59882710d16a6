/-
  Package hard: Spans, of a book of one scale, one machine and no table, with one reading.
-/
import Derived.Test.YthcolbjbafilcaaGreatHardG
set_option linter.unusedSimpArgs false
set_option linter.unusedVariables false
namespace Go.Proofs.YthcolbjbafilcaaGreat
open Go.RowKit Go.Shelf Go.Sort
attribute [local go_sem] Oper.semAt_some

def SpansOut (s : Rng) (w : World) (e : Ending) (w' : World) : Prop := ∃ v, e = .returned (.tuple #[v, I 0]) ∧ RngsIs (w.heap.size ≤ ·) w' v [s] ∧ Below w.heap.size w w'
set_option maxRecDepth 100000 in
set_option maxHeartbeats 2000000 in
theorem hSpans_ok (L : LibSaid) (ok : Nat → Prop) (vt vm vr : Value) (bl : List Block) (rd : Int) (w : World) (h : HBookIs ok w vt vm bl) (hr : RdgsIs ok w vr [⟨0, rd⟩]) (hrd : inB rd 0 100000 = true)
    (hb : (biasOf bl).lo ≤ (biasOf bl).hi) (hne : (spanH bl rd).lo ≤ (spanH bl rd).hi) :
    Calls Tryz.prog 13 #[.agg #[I 1, vt, vm], vr] w (SpansOut (spanH bl rd) w) := by
  have HB0 := below_alloc w (.cells #[I 1, vt, vm] 57)
  go_enter Tryz.func13, Tryz.ntmps13
  go_wp2_with fail
  refine (hread_ok L ok vt vm vr bl rd _ (h.below HB0) (hr.below HB0) hrd hb).mono ?_
  rintro e w1 ⟨p, r, rfl, hp, hr1, hB1⟩
  have HB1 := below_from HB0 hB1
  have HP := Lib.hid hp
  have HR := Lib.hid hr1
  have t0 : w1.cell? ⟨w.heap.size, 0, none⟩ = some (I 1) := (hB1.cell (p := ⟨w.heap.size, 0, none⟩) (by simp)).trans (by simp [go_sem])
  have hz0 := World.block_lt_of_cell? _ _ t0
  clear hp hr1
  go_wp2_with fail
  refine (bspans_any L ok p r vt vm vr bl rd _ HP.out HR.out (h.below HB1) (hr.below HB1) hne).mono ?_
  rintro e w2 ⟨rfl, hB2⟩
  have HB2 := below_from HB1 hB2
  have t0 := (hB2.cell (p := ⟨w.heap.size, 0, none⟩) hz0).trans t0
  have hz2 := World.block_lt_of_cell? _ _ t0
  generalize hs : spanH bl rd = s at *
  go_wp2_with fail
  have hsl : ∀ W, Below w2.heap.size w2 W → W.heap[w2.heap.size]? = some (.cells #[I s.lo, I s.hi, I 0, I 100000, I 0, I 100000, I 0, I 100000] 133 (0, 0)) → RngsIs (fun _ => True) W (.slice (some ⟨w2.heap.size, 0, none⟩) 1 4) [s] := fun W hW hH => ⟨_, _, rfl, by simp, fun _ => ⟨w2.heap.size, 0, rfl, trivial, heap_at hH, fun i x hx => by
    cases i with
    | zero =>
      simp at hx; subst hx
      intro k u hu
      have hk : k = 0 ∨ k = 1 := by
        have := (List.getElem?_eq_some_iff.1 hu).1
        simp at this; omega
      rcases hk with rfl | rfl
      · simp at hu; subst hu; exact cell_of_heap hH 0
      · simp at hu; subst hu; exact cell_of_heap hH 1
    | succ i => simp at hx⟩⟩
  refine (hrng_clone [s] (fun _ => True) _ _ (by simp) (by simp) (hsl _ (below_alloc _ _) (heap_new _ _ rfl))).mono ?_
  rintro e w3 ⟨v', rfl, hown, hB3⟩
  have HB3 := below_from HB2 (below_from (below_alloc _ _) hB3)
  have Hown := Lib.hid hown
  clear hown hsl
  go_wp2_with fail
  go_ret2
  refine ⟨v', rfl, ?_, HB3⟩
  exact (SliceIs.owns (enc := Rng.cells) (sz := 2) Hown.out rfl (fun _ => rfl) (by decide)).mono (fun b h _ => by have := HB2.size; simp at h; omega)
end Go.Proofs.YthcolbjbafilcaaGreat
