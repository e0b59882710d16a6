/-
  Package hard: cut, the machines of a book, the bias of a machine, CheckBook and Bias.
-/
import Derived.Test.YthcolbjbafilcaaGreatHardA
import Derived.Test.YthcolbjbafilcaaGreatSpanD
set_option linter.unusedSimpArgs false
set_option linter.unusedVariables false
namespace Go.Proofs.YthcolbjbafilcaaGreat
open Go.RowKit Go.Shelf Go.Sort
attribute [local go_sem] Oper.semAt_some

theorem hgreatest_two (L : LibSaid) (b c : Nat) (x y : Int) (w : World) (h0 : w.cell? ⟨b, 0, none⟩ = some (I x)) (h1 : w.cell? ⟨b, 1, none⟩ = some (I y)) :
    Calls Tryz.prog 99 #[.slice (some ⟨b, 0, none⟩) 2 c] w fun e w' => e = .returned (I (max x y)) ∧ w = w' := by
  go_enter Tryz.func99, Tryz.ntmps99
  go_wp2_with fail
  refine (L.max2 _ _ _ _ _ h0 h1).mono ?_
  rintro e w' ⟨rfl, rfl⟩
  go_wp2_with fail
  go_ret
  exact ⟨rfl, rfl⟩
theorem hleast_two (L : LibSaid) (b c : Nat) (x y : Int) (w : World) (h0 : w.cell? ⟨b, 0, none⟩ = some (I x)) (h1 : w.cell? ⟨b, 1, none⟩ = some (I y)) :
    Calls Tryz.prog 100 #[.slice (some ⟨b, 0, none⟩) 2 c] w fun e w' => e = .returned (I (min x y)) ∧ w = w' := by
  go_enter Tryz.func100, Tryz.ntmps100
  go_wp2_with fail
  refine (L.min2 _ _ _ _ _ h0 h1).mono ?_
  rintro e w' ⟨rfl, rfl⟩
  go_wp2_with fail
  go_ret
  exact ⟨rfl, rfl⟩
set_option maxHeartbeats 6000000 in
theorem hcut_any (L : LibSaid) (a b : Rng) (w : World) : Calls Tryz.prog 57 #[a.v, b.v] w (RngPost (a.cut b) w) := by
  obtain ⟨lo, hi⟩ := a
  obtain ⟨lo', hi'⟩ := b
  go_enter Tryz.func57, Tryz.ntmps57
  go_wp2_with fail
  refine name_world ?_
  intro W hW
  have hBW : Below w.heap.size w W := by rw [hW]; exact below_alloc3 _ _ _ _
  have a0 : W.cell? ⟨w.heap.size, 0, none⟩ = some (I lo) := by rw [hW]; simp [go_sem]
  have a1 : W.cell? ⟨w.heap.size, 1, none⟩ = some (I hi) := by rw [hW]; simp [go_sem]
  have b0 : W.cell? ⟨w.heap.size + 1, 0, none⟩ = some (I lo') := by rw [hW]; simp [go_sem]
  have b1 : W.cell? ⟨w.heap.size + 1, 1, none⟩ = some (I hi') := by rw [hW]; simp [go_sem]
  have r0 : W.cell? ⟨w.heap.size + 1 + 1, 0, none⟩ = some (I 0) := by rw [hW]; simp [go_sem]
  have r1 : W.cell? ⟨w.heap.size + 1 + 1, 1, none⟩ = some (I 0) := by rw [hW]; simp [go_sem]
  have r2 : W.frozen? ⟨w.heap.size + 1 + 1, 0, none⟩ = false := by rw [hW]; simp [go_sem]
  have r3 : W.frozen? ⟨w.heap.size + 1 + 1, 1, none⟩ = false := by rw [hW]; simp [go_sem]
  have hz : W.heap.size = w.heap.size + 3 := by rw [hW]; simp
  clear hW
  have hz0 : w.heap.size < W.heap.size := by omega
  have hz1 : w.heap.size + 1 < W.heap.size := by omega
  have hz2 : w.heap.size + 1 + 1 < W.heap.size := by omega
  have Hz := Lib.hid hz
  clear hz
  have q0 := peek_of r0
  have q1 := peek_of r1
  have hS : ∀ W' : World, Below W.heap.size W W' → (W'.cell? ⟨w.heap.size, 0, none⟩ = some (I lo) ∧ W'.cell? ⟨w.heap.size, 1, none⟩ = some (I hi) ∧ W'.cell? ⟨w.heap.size + 1, 0, none⟩ = some (I lo') ∧ W'.cell? ⟨w.heap.size + 1, 1, none⟩ = some (I hi') ∧ W'.cell? ⟨w.heap.size + 1 + 1, 0, none⟩ = some (peek W' (w.heap.size + 1 + 1) 0) ∧ W'.cell? ⟨w.heap.size + 1 + 1, 1, none⟩ = some (peek W' (w.heap.size + 1 + 1) 1) ∧ W'.frozen? ⟨w.heap.size + 1 + 1, 0, none⟩ = false ∧ W'.frozen? ⟨w.heap.size + 1 + 1, 1, none⟩ = false ∧ Below w.heap.size w W') := fun W' hbl2 =>
    ⟨(hbl2.cell (p := ⟨w.heap.size, 0, none⟩) hz0).trans a0, (hbl2.cell (p := ⟨w.heap.size, 1, none⟩) hz0).trans a1, (hbl2.cell (p := ⟨w.heap.size + 1, 0, none⟩) hz1).trans b0, (hbl2.cell (p := ⟨w.heap.size + 1, 1, none⟩) hz1).trans b1, peek_of ((hbl2.cell (p := ⟨w.heap.size + 1 + 1, 0, none⟩) hz2).trans r0), peek_of ((hbl2.cell (p := ⟨w.heap.size + 1 + 1, 1, none⟩) hz2).trans r1), (hbl2.frozen (p := ⟨w.heap.size + 1 + 1, 0, none⟩) hz2).trans r2, (hbl2.frozen (p := ⟨w.heap.size + 1 + 1, 1, none⟩) hz2).trans r3, hBW.trans (hbl2.mono (Nat.le_of_lt hz0))⟩
  have hT : ∀ (x y : Value) (o o' : Obj) (W' : World), W' = ((((W.setCell ⟨w.heap.size + 1 + 1, 0, none⟩ x).setCell ⟨w.heap.size + 1 + 1, 1, none⟩ y).alloc o).alloc o').drew → (W'.cell? ⟨w.heap.size, 0, none⟩ = some (I lo) ∧ W'.cell? ⟨w.heap.size, 1, none⟩ = some (I hi) ∧ W'.cell? ⟨w.heap.size + 1, 0, none⟩ = some (I lo') ∧ W'.cell? ⟨w.heap.size + 1, 1, none⟩ = some (I hi') ∧ W'.cell? ⟨w.heap.size + 1 + 1, 0, none⟩ = some (peek W' (w.heap.size + 1 + 1) 0) ∧ W'.cell? ⟨w.heap.size + 1 + 1, 1, none⟩ = some (peek W' (w.heap.size + 1 + 1) 1) ∧ W'.frozen? ⟨w.heap.size + 1 + 1, 0, none⟩ = false ∧ W'.frozen? ⟨w.heap.size + 1 + 1, 1, none⟩ = false ∧ Below w.heap.size w W') := by
    intro x y o o' W' e
    obtain ⟨V, hV⟩ : ∃ V : World, V = (W.setCell ⟨w.heap.size + 1 + 1, 0, none⟩ x).setCell ⟨w.heap.size + 1 + 1, 1, none⟩ y := ⟨_, rfl⟩
    rw [← hV] at e
    have hs : V.heap.size = W.heap.size := by rw [hV]; simp
    have hbl2 : Below W.heap.size V W' := by rw [e, ← hs]; exact (below_alloc2 _ _ _).drew
    have v0 : V.cell? ⟨w.heap.size, 0, none⟩ = some (I lo) := by rw [hV]; exact sc_cell (by omega) a0
    have v1 : V.cell? ⟨w.heap.size, 1, none⟩ = some (I hi) := by rw [hV]; exact sc_cell (by omega) a1
    have v2 : V.cell? ⟨w.heap.size + 1, 0, none⟩ = some (I lo') := by rw [hV]; exact sc_cell (by omega) b0
    have v3 : V.cell? ⟨w.heap.size + 1, 1, none⟩ = some (I hi') := by rw [hV]; exact sc_cell (by omega) b1
    have v4 := by have := sc_peek (p := w.heap.size + 1 + 1) (i := 0) (j := 1) (x := x) (y := y) r0; rw [← hV] at this; exact this
    have v5 := by have := sc_peek (p := w.heap.size + 1 + 1) (i := 0) (j := 1) (x := x) (y := y) r1; rw [← hV] at this; exact this
    have v6 := by have := sc_frozen (p := w.heap.size + 1 + 1) (i := 0) (j := 1) (x := x) (y := y) r2; rw [← hV] at this; exact this
    have v7 := by have := sc_frozen (p := w.heap.size + 1 + 1) (i := 0) (j := 1) (x := x) (y := y) r3; rw [← hV] at this; exact this
    have v8 : Below w.heap.size w V := by rw [hV]; exact Below.setCell (p := ⟨w.heap.size + 1 + 1, 1, none⟩) (Below.setCell (p := ⟨w.heap.size + 1 + 1, 0, none⟩) hBW (show _ ≤ w.heap.size + 1 + 1 by omega) _) (show _ ≤ w.heap.size + 1 + 1 by omega) _
    exact ⟨(hbl2.cell (p := ⟨w.heap.size, 0, none⟩) hz0).trans v0, (hbl2.cell (p := ⟨w.heap.size, 1, none⟩) hz0).trans v1, (hbl2.cell (p := ⟨w.heap.size + 1, 0, none⟩) hz1).trans v2, (hbl2.cell (p := ⟨w.heap.size + 1, 1, none⟩) hz1).trans v3, peek_of ((hbl2.cell (p := ⟨w.heap.size + 1 + 1, 0, none⟩) hz2).trans v4), peek_of ((hbl2.cell (p := ⟨w.heap.size + 1 + 1, 1, none⟩) hz2).trans v5), (hbl2.frozen (p := ⟨w.heap.size + 1 + 1, 0, none⟩) hz2).trans v6, (hbl2.frozen (p := ⟨w.heap.size + 1 + 1, 1, none⟩) hz2).trans v7, v8.trans (hbl2.mono (Nat.le_of_lt hz0))⟩
  have hR : ∀ (x y : Value) (o o' : Obj) (W' : World), W' = ((((W.setCell ⟨w.heap.size + 1 + 1, 0, none⟩ x).setCell ⟨w.heap.size + 1 + 1, 1, none⟩ y).alloc o).alloc o').drew → W'.cell? ⟨w.heap.size + 1 + 1, 0, none⟩ = some x ∧ W'.cell? ⟨w.heap.size + 1 + 1, 1, none⟩ = some y ∧ Below w.heap.size w W' := by
    intro x y o o' W' e
    refine ⟨?_, ?_, (hT x y o o' W' e).2.2.2.2.2.2.2.2⟩
    · rw [e]
      refine ((below_alloc2 _ _ _).drew.cell (p := ⟨w.heap.size + 1 + 1, 0, none⟩) ?_).trans (two_cells r0 r1).1
      simpa using hz2
    · rw [e]
      refine ((below_alloc2 _ _ _).drew.cell (p := ⟨w.heap.size + 1 + 1, 1, none⟩) ?_).trans (two_cells r0 r1).2
      simpa using hz2
  have HR := Lib.hid hR
  clear hR
  have HS := Lib.hid hS
  have HT := Lib.hid hT
  clear hS hT
  go_region_held3 (fun W' => W'.cell? ⟨w.heap.size, 0, none⟩ = some (I lo) ∧ W'.cell? ⟨w.heap.size, 1, none⟩ = some (I hi) ∧ W'.cell? ⟨w.heap.size + 1, 0, none⟩ = some (I lo') ∧ W'.cell? ⟨w.heap.size + 1, 1, none⟩ = some (I hi') ∧ W'.cell? ⟨w.heap.size + 1 + 1, 0, none⟩ = some (peek W' (w.heap.size + 1 + 1) 0) ∧ W'.cell? ⟨w.heap.size + 1 + 1, 1, none⟩ = some (peek W' (w.heap.size + 1 + 1) 1) ∧ W'.frozen? ⟨w.heap.size + 1 + 1, 0, none⟩ = false ∧ W'.frozen? ⟨w.heap.size + 1 + 1, 1, none⟩ = false ∧ Below w.heap.size w W')
    (first
      | with_reducible exact HS.out _ (Below.refl _ _).drew
      | with_reducible exact HS.out _ (below_alloc _ _).drew
      | with_reducible exact HS.out _ (below_alloc2 _ _ _).drew
      | with_reducible exact HS.out _ (below_alloc _ _)
      | with_reducible exact HS.out _ (below_alloc2 _ _ _)
      | with_reducible exact HT.out _ _ _ _ _ rfl)
    (first
      | (go_at_call 99; refine (hgreatest_two L _ _ lo lo' _ (by simp [go_sem]) (by simp [go_sem])).mono ?_; rintro e w' ⟨rfl, rfl⟩)
      | (go_at_call 100; refine (hleast_two L _ _ hi hi' _ (by simp [go_sem]) (by simp [go_sem])).mono ?_; rintro e w' ⟨rfl, rfl⟩))
  all_goals go_wp2_with fail
  all_goals
    (refine name_post (Q := bodyPost _ _ _) ?_
     intro W9 h9
     obtain ⟨k0, k1, k2⟩ := HR.out _ _ _ _ _ h9
     exact bodyPost_ret (v := .agg #[I (max lo lo'), I (min hi hi')]) (by simp [results, Tryz.results57, go_sem, k0, k1]) rfl ⟨rfl, k2⟩)

def Mach.ok (sc : Int) (x : Mach) : Bool := inB x.scale 0 (wi (sc - 1)) && x.blocks.all Block.ok
set_option maxHeartbeats 400000 in
theorem hmachine_any (ok : Nat → Prop) (sc : Int) (vt vm : Value) (x : Mach) (w : World) (hl : x.blocks.length ≤ 1000) (hx : BlocksIs ok w x.vb x.blocks) :
    Calls Tryz.prog 56 #[.agg #[I sc, vt, vm], x.v] w fun e w' => e = .returned (.bool (x.ok sc)) ∧ Below w.heap.size w w' := by
  obtain ⟨s, vb, bl⟩ := x
  simp only at hx hl
  have HB0 := below_alloc2 w (.cells #[I sc, vt, vm] 57) (.cells #[I s, vb] 109)
  have hent : ∀ args w, (callFunc 97 args).run Tryz.prog w = .ok (.enter 97 args) w := enters_of Tryz.func97 (by kernel_rfl) rfl
  go_enter Tryz.func56, Tryz.ntmps56
  go_wp2_with fail
  refine (hscale_any s sc vt vm _).mono ?_
  rintro e w1 ⟨rfl, hB1⟩
  obtain ⟨hc, hf⟩ := bcell hB1
  have hz : w.heap.size + 1 < w1.heap.size := by have := hB1.size; simp at this; omega
  have HB1 := below_from HB0 hB1
  cases h1 : inB s 0 (wi (sc - 1)) with
  | false =>
    go_wp2_with fail
    go_ret
    exact ⟨by simp [Mach.ok, h1], HB1⟩
  | true =>
  go_wp2_with fail
  refine (hblock_all 97 #[] #[] hent Block.ok bl ok _ _ hl (hx.below HB1) (fun W _ x _ => hblockok_any x W)).mono ?_
  rintro e w2 ⟨rfl, hB2⟩
  go_wp2_with fail
  go_ret
  exact ⟨ret_bool (by simp [Mach.ok, h1]), below_from HB1 hB2⟩
def biasStep (out : Rng) (x : Block) : Rng := out.cut ⟨wi (x.read - x.value.hi), wi (x.read - x.value.lo)⟩
def biasOf (l : List Block) : Rng := l.foldl biasStep ⟨-100000, 100000⟩
theorem biasOf_take {l : List Block} {j : Nat} (h : j < l.length) : biasOf (l.take (j + 1)) = (biasOf (l.take j)).cut ⟨wi (l[j].read - l[j].value.hi), wi (l[j].read - l[j].value.lo)⟩ := by
  unfold biasOf; rw [List.take_succ_eq_append_getElem h, List.foldl_append]; rfl
set_option maxRecDepth 100000 in
set_option maxHeartbeats 1000000 in
theorem hbias_any (L : LibSaid) (ok : Nat → Prop) (x : Mach) (w : World) (hl : x.blocks.length ≤ 1000) (hx : BlocksIs ok w x.vb x.blocks) :
    Calls Tryz.prog 32 #[x.v] w (RngPost (biasOf x.blocks) w) := by
  obtain ⟨s, vb, bl⟩ := x
  simp only at hx hl
  obtain ⟨ad, c, rfl, hc, hr⟩ := hx
  go_enter Tryz.func32, Tryz.ntmps32
  go_wp2_with fail
  refine name_world ?_
  intro W0 hW0
  have hB0 : Below w.heap.size w W0 := by rw [hW0]; exact below_alloc3 _ _ _ _
  have h3 : W0.heap[w.heap.size + 1 + 1]? = some (.cells #[I (-100000), I 100000] 50 (0, 0)) := by rw [hW0]; exact heap_new _ _ (by simp)
  have h2 : W0.heap[w.heap.size + 1]? = some (.cells #[I 0, I 0] 50 (0, 0)) := by rw [hW0]; exact (heap_old _ _ (by simp)).trans (heap_new _ _ (by simp))
  have hz : W0.heap.size = w.heap.size + 3 := by rw [hW0]; simp
  have Hz := Lib.hid hz
  clear hW0 hz
  have hz0 : w.heap.size + 1 + 1 < W0.heap.size := heap_at h3
  go_loopg [10] bl.length (fun g i wr => ∃ j : Nat, g = bl.length - j ∧ j ≤ bl.length ∧ i = I j ∧ Kept (· = w.heap.size + 1 + 1) W0 wr ∧ wr.heap[w.heap.size + 1 + 1]? = some (.cells #[I (biasOf (bl.take j)).lo, I (biasOf (bl.take j)).hi] 50 (0, 0)))
  case atStart => exact ⟨0, rfl, Nat.zero_le _, rfl, Kept.refl _ _, h3⟩
  case round =>
    obtain ⟨j, rfl, hj, rfl, hK, hb⟩ := hrel
    have hzr := heap_at hb
    have c0 : wr.cell? ⟨w.heap.size + 1 + 1, 0, none⟩ = some (I (biasOf (bl.take j)).lo) := cell_of_heap hb 0
    have c1 : wr.cell? ⟨w.heap.size + 1 + 1, 1, none⟩ = some (I (biasOf (bl.take j)).hi) := cell_of_heap hb 1
    have f0 := free_of_heap hb 0
    have f1 := free_of_heap hb 1
    by_cases hlt : j < bl.length
    · obtain ⟨b, o, rfl, -, hbb, hrows⟩ := hr (by omega)
      have hrow := ((hrows j bl[j] (List.getElem?_eq_getElem hlt)).below hB0 hbb).of_block (hK.block b (by have := hB0.size; omega) (by omega))
      obtain ⟨e0, e1, e2⟩ := hrow.three
      have Htk := Lib.hid (biasOf_take hlt)
      have Hb := Lib.hid hb
      clear hrows hr hb
      go_wp2_with fail
      refine (hcut_any L (biasOf (bl.take j)) ⟨wi (bl[j].read - bl[j].value.hi), wi (bl[j].read - bl[j].value.lo)⟩ _).mono ?_
      rintro e w1 ⟨rfl, hB1⟩
      have HB1 := below_from (below_alloc wr (.cells #[I bl[j].value.lo, I bl[j].value.hi, I bl[j].read] 106)) hB1
      have hb1 := (HB1.block _ hzr).trans Hb.out
      have g0 := cell_of_heap hb1 0
      have g1 := cell_of_heap hb1 1
      have f0 := free_of_heap hb1 0
      have f1 := free_of_heap hb1 1
      simp only [List.getElem?_toArray, List.getElem?_cons_zero, List.getElem?_cons_succ] at g0 g1
      have Hb1 := Lib.hid hb1
      clear c0 c1 e0 e1 e2 hb1
      go_wp2_with fail
      have hset : ∀ u v : Value, ((w1.setCell ⟨w.heap.size + 1 + 1, 0, none⟩ u).setCell ⟨w.heap.size + 1 + 1, 1, none⟩ v).heap[w.heap.size + 1 + 1]? = some (.cells #[u, v] 50 (0, 0)) := fun u v => by
        rw [setCell_heap (setCell_heap Hb1.out 0 _) 1 _]; rfl
      go_roundg (bl.length - (j + 1))
      case measure => omega
      case rel => exact ⟨j + 1, rfl, by omega, by go_num, ((hK.trans (Kept.below HB1)).setCell (p := ⟨w.heap.size + 1 + 1, 0, none⟩) (fun _ => rfl) _).setCell (p := ⟨w.heap.size + 1 + 1, 1, none⟩) (fun _ => rfl) _, by rw [hset, Htk.out]⟩
    · obtain rfl : j = bl.length := by omega
      rw [List.take_length] at c0 c1
      have d2 := (hK.block _ (show w.heap.size + 1 < W0.heap.size by omega) (by omega)).trans h2
      have k0 := cell_of_heap d2 0
      have k1 := cell_of_heap d2 1
      have f2 := free_of_heap d2 0
      have f3 := free_of_heap d2 1
      simp only [List.getElem?_toArray, List.getElem?_cons_zero, List.getElem?_cons_succ] at k0 k1
      obtain ⟨q0, q1⟩ := two_cells (W := wr) (p := w.heap.size + 1) (x := I (biasOf bl).lo) (y := I (biasOf bl).hi) k0 k1
      have HBr : Below w.heap.size w wr := hB0.trans ⟨hK.os, hK.tape, hK.output, hK.size, fun i hi => hK.block i (by omega) (by omega)⟩
      clear hb d2
      go_wp2_with fail
      refine name_post (Q := bodyPost _ _ _) ?_
      intro W9 h9
      rw [← h9] at q0 q1
      refine bodyPost_ret (v := .agg #[I (biasOf bl).lo, I (biasOf bl).hi]) (by simp [results, Tryz.results32, go_sem, q0, q1]) rfl ⟨rfl, ?_⟩
      rw [h9]
      exact (HBr.setCell (p := ⟨w.heap.size + 1, 0, none⟩) (show _ ≤ w.heap.size + 1 by omega) _).setCell (p := ⟨w.heap.size + 1, 1, none⟩) (show _ ≤ w.heap.size + 1 by omega) _
end Go.Proofs.YthcolbjbafilcaaGreat
