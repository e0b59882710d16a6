/-
  Package hard: the spans of a bench of one scale and one machine, with one reading; Spans.
-/
import Derived.Test.YthcolbjbafilcaaGreatHardE
import Derived.Deep.DeepCutAuto
set_option linter.unusedSimpArgs false
set_option linter.unusedVariables false
namespace Go.Proofs.YthcolbjbafilcaaGreat
open Go.RowKit Go.Shelf Go.Sort
attribute [local go_sem] Oper.semAt_some

theorem eqlIn_spans (a0 a1 a2 a3 a4 a5 a6 a7 : Int) (w : World) : (Op.equalIn 10000 133 (.agg #[I a0, I a1, I a2, I a3, I a4, I a5, I a6, I a7]) (.agg #[I a0, I a1, I a2, I a3, I a4, I a5, I a6, I a7])).run Tryz.prog w = .ok true w := by
  have hT : Tryz.prog.underlying 133 = some (.array 4 50) := Tryz.underlying133
  have hs : ∀ w, (sizeOf 50).run Tryz.prog w = .ok 2 w := fun w => by kernel_rfl
  have hr : ∀ (a b : Int) (w : World), (Op.equalIn 9999 50 (.agg #[I a, I b]) (.agg #[I a, I b])).run Tryz.prog w = .ok true w := fun a b w => by simp [go_sem]
  have hp : ∀ (b0 b1 b2 b3 b4 b5 b6 b7 : Int) (w : World), (part 50 #[I b0, I b1, I b2, I b3, I b4, I b5, I b6, I b7] 0).run Tryz.prog w = .ok (.agg #[I b0, I b1]) w := fun b0 b1 b2 b3 b4 b5 b6 b7 w => by kernel_rfl
  have hp2 : ∀ (b0 b1 b2 b3 b4 b5 b6 b7 : Int) (w : World), (part 50 #[I b0, I b1, I b2, I b3, I b4, I b5, I b6, I b7] 2).run Tryz.prog w = .ok (.agg #[I b2, I b3]) w := fun b0 b1 b2 b3 b4 b5 b6 b7 w => by kernel_rfl
  have hp4 : ∀ (b0 b1 b2 b3 b4 b5 b6 b7 : Int) (w : World), (part 50 #[I b0, I b1, I b2, I b3, I b4, I b5, I b6, I b7] 4).run Tryz.prog w = .ok (.agg #[I b4, I b5]) w := fun b0 b1 b2 b3 b4 b5 b6 b7 w => by kernel_rfl
  have hp6 : ∀ (b0 b1 b2 b3 b4 b5 b6 b7 : Int) (w : World), (part 50 #[I b0, I b1, I b2, I b3, I b4, I b5, I b6, I b7] 6).run Tryz.prog w = .ok (.agg #[I b6, I b7]) w := fun b0 b1 b2 b3 b4 b5 b6 b7 w => by kernel_rfl
  show (Op.equalIn (9999 + 1) _ _ _).run _ _ = _
  unfold Op.equalIn
  simp [run_underlying hT, hs, hr, hp, hp2, hp4, hp6, Std.Legacy.Range.forIn_eq_forIn_range', List.range']
theorem eql_spans (a0 a1 a2 a3 a4 a5 a6 a7 : Int) (w : World) : (binOp .eql 133 (.agg #[I a0, I a1, I a2, I a3, I a4, I a5, I a6, I a7]) (.agg #[I a0, I a1, I a2, I a3, I a4, I a5, I a6, I a7])).run Tryz.prog w = .ok (.bool true) w := by
  rw [run_eql_struct, eqlIn_spans]; rfl
theorem name_k {K : Act → World → Prop} {a : Act} {w : World} (h : ∀ W, W = w → K a W) : K a w := h w rfl
def Rng.whole : Rng := ⟨0, 100000⟩
def spanH (bl : List Block) (rd : Int) : Rng := Rng.whole.cut ⟨wi (rd - (biasOf bl).hi), wi (rd - (biasOf bl).lo)⟩
def SpansHPost (s : Rng) (w : World) (e : Ending) (w' : World) : Prop := e = .returned (.tuple #[v8 s Rng.whole Rng.whole Rng.whole, .bool true]) ∧ Below w.heap.size w w'
set_option maxRecDepth 100000 in
set_option maxHeartbeats 2000000 in
theorem bspans_any (L : LibSaid) (ok : Nat → Prop) (p r : Nat) (vt vm vr : Value) (bl : List Block) (rd : Int) (w : World) (hp : w.heap[p]? = some (benchObj vt vm r)) (hr : w.heap[r]? = some (.map #[] 0))
    (h : HBookIs ok w vt vm bl) (hrd : RdgsIs ok w vr [⟨0, rd⟩]) (hne : (spanH bl rd).lo ≤ (spanH bl rd).hi) :
    Calls Tryz.prog 37 #[.pointer (some ⟨p, 0, none⟩), vr] w (SpansHPost (spanH bl rd) w) := by
  obtain ⟨ar, cr, rfl, hcr, hrr⟩ := hrd
  obtain ⟨br, orr, rfl, -, hbr, hrowr⟩ := hrr (by simp)
  have hzp := heap_at hp
  have HP := Lib.hid hp
  have HR := Lib.hid hr
  have Hrow := Lib.hid (hrowr 0 _ rfl)
  simp only [List.length_singleton]
  clear hp hr hrr hrowr
  go_enter Tryz.func37, Tryz.ntmps37
  go_wp2_with fail
  refine wp_loop_rounds 5 ?_
  rw [rounds_succ]
  go_wp2_with fail
  rw [rounds_succ]
  go_wp2_with fail
  rw [rounds_succ]
  go_wp2_with fail
  rw [rounds_succ]
  go_wp2_with fail
  rw [rounds_succ]
  go_wp2_with fail
  refine name_world ?_
  intro W0 hW0
  have hB0 : Below w.heap.size w W0 := by rw [hW0]; exact below_alloc _ _
  have hH : W0.heap[w.heap.size]? = some (.cells #[I 0, I 100000, I 0, I 100000, I 0, I 100000, I 0, I 100000] 133 (0, 0)) := by rw [hW0]; exact heap_new _ _ rfl
  clear hW0
  have hzH := heap_at hH
  have HH := Lib.hid hH
  clear hH
  have hrow0 := Hrow.out.below hB0 hbr
  obtain ⟨e0, e1⟩ := hrow0.two
  simp only [Nat.zero_mul, Nat.add_zero] at e0 e1
  refine wp_loop_rounds 2 ?_
  rw [rounds_succ]
  go_wp2_with fail
  refine name_world ?_
  intro W1 hW1
  have hB1 : Below W0.heap.size W0 W1 := by rw [hW1]; exact below_alloc _ _
  have h8 : W1.heap[W0.heap.size]? = some (.cells #[I 0, I rd] 137 (0, 0)) := by rw [hW1]; exact heap_new _ _ rfl
  clear hW1 e0 e1
  have HB1 := below_from hB0 hB1
  have hz8 := heap_at h8
  have hb1 := h.below HB1
  obtain ⟨vb, hm, hbl⟩ := hb1.machs
  have hbl0 := hbl
  obtain ⟨ab, cb, rfl, -, -⟩ := hbl
  obtain ⟨am, cm, rfl, hcm, hrm⟩ := hm
  obtain ⟨b, o, rfl, -, hbb, hrows⟩ := hrm (by simp)
  obtain ⟨m0, m1⟩ := (hrows 0 _ rfl).two
  simp only [Nat.zero_mul, Nat.add_zero, List.length_singleton] at m0 m1
  have p2 : W1.cell? ⟨p, 2, none⟩ = some (.slice (some ⟨b, o, none⟩) 1 cm) := cell_of_heap ((HB1.block _ hzp).trans HP.out) 2
  have r0 : W1.cell? ⟨W0.heap.size, 0, none⟩ = some (I 0) := cell_of_heap h8 0
  have hzp1 : p < W1.heap.size := World.block_lt_of_cell? _ _ p2
  have HS : Hid (∀ W' : World, Below W1.heap.size W1 W' → (W'.cell? ⟨p, 2, none⟩ = some (.slice (some ⟨b, o, none⟩) 1 cm) ∧ W'.cell? ⟨W0.heap.size, 0, none⟩ = some (I 0) ∧ W'.cell? ⟨b, o, none⟩ = some (I 0) ∧ W'.cell? ⟨b, o + 1, none⟩ = some (.slice ab bl.length cb))) := Lib.hid (fun W' hB =>
    ⟨(hB.cell (p := ⟨p, 2, none⟩) hzp1).trans p2, (hB.cell (p := ⟨W0.heap.size, 0, none⟩) hz8).trans r0, (hB.cell (p := ⟨b, o, none⟩) hbb).trans m0, (hB.cell (p := ⟨b, o + 1, none⟩) hbb).trans m1⟩)
  have H8 := Lib.hid h8
  clear p2 r0 m0 m1 hrows hrm h8
  go_region_held3 (fun W' => W'.cell? ⟨p, 2, none⟩ = some (.slice (some ⟨b, o, none⟩) 1 cm) ∧ W'.cell? ⟨W0.heap.size, 0, none⟩ = some (I 0) ∧ W'.cell? ⟨b, o, none⟩ = some (I 0) ∧ W'.cell? ⟨b, o + 1, none⟩ = some (.slice ab bl.length cb))
    (first
      | with_reducible exact HS.out _ (Below.refl _ _).drew
      | with_reducible exact HS.out _ (below_alloc _ _).drew
      | with_reducible exact HS.out _ (below_alloc _ _))
    (fail)
  go_wp2_with fail
  refine (hbias_any L ok ⟨0, .slice ab bl.length cb, bl⟩ _ (by have := h.few; simp only; omega) (hbl0.below (below_alloc W1 (.cells #[I 0, .slice ab bl.length cb] 109)).drew)).mono ?_
  rintro e W2 ⟨rfl, hB2⟩
  have HB2 := below_from HB1 (below_from (below_alloc W1 (.cells #[I 0, .slice ab bl.length cb] 109)).drew hB2)
  have HB12 : Below W1.heap.size W1 W2 := below_from (below_alloc W1 (.cells #[I 0, .slice ab bl.length cb] 109)).drew hB2
  have H9 : Hid (W2.heap[W1.heap.size]? = some (.cells #[I 0, .slice ab bl.length cb] 109 (0, 0))) := Lib.hid ((hB2.block _ (by show _ < (W1.alloc _).heap.size; simp)).trans (heap_new _ _ rfl))
  have Hsp : Hid (Rng.cut ⟨0, 100000⟩ ⟨wi (rd - (biasOf bl).hi), wi (rd - (biasOf bl).lo)⟩ = spanH bl rd) := Lib.hid rfl
  simp only []
  go_wp2_with fail
  refine name_world ?_
  intro W3 hW3
  have hB3 : Below W2.heap.size W2 W3 := by rw [hW3]; exact below_alloc _ _
  have h10 : W3.heap[W2.heap.size]? = some (.cells #[I (biasOf bl).lo, I (biasOf bl).hi] 50 (0, 0)) := by rw [hW3]; exact heap_new _ _ rfl
  clear hW3
  have HB3 := below_from HB2 hB3
  have hz9 : W1.heap.size < W2.heap.size := heap_at H9.out
  have h9 := (hB3.block _ hz9).trans H9.out
  have h8 := (hB3.block _ (show W0.heap.size < W2.heap.size by omega)).trans ((HB12.block _ hz8).trans H8.out)
  have h4 := (hB3.block _ (show w.heap.size < W2.heap.size by omega)).trans ((HB12.block _ (show w.heap.size < W1.heap.size by omega)).trans ((hB1.block _ hzH).trans HH.out))
  have x4 := cell_regrown (show W3.cell? ⟨w.heap.size, 0, none⟩ = some (I 0) from cell_of_heap h4 0)
  have x5 := cell_regrown (show W3.cell? ⟨w.heap.size, 1, none⟩ = some (I 100000) from cell_of_heap h4 1)
  have x8 := cell_regrown (show W3.cell? ⟨W0.heap.size, 1, none⟩ = some (I rd) from cell_of_heap h8 1)
  have x9 := cell_regrown (show W3.cell? ⟨W1.heap.size, 0, none⟩ = some (I 0) from cell_of_heap h9 0)
  have xa := cell_regrown (show W3.cell? ⟨W2.heap.size, 0, none⟩ = some (I (biasOf bl).lo) from cell_of_heap h10 0)
  have xb := cell_regrown (show W3.cell? ⟨W2.heap.size, 1, none⟩ = some (I (biasOf bl).hi) from cell_of_heap h10 1)
  have cC : ∀ (a b : Rng) d os, Calls Tryz.prog 57 #[.agg #[I a.lo, I a.hi], .agg #[I b.lo, I b.hi]] (grow (redrawn W3 d) os) fun e w'' => e = .returned (.agg #[I (a.cut b).lo, I (a.cut b).hi]) ∧ ∃ p : Regrown, w'' = grow (redrawn W3 p.d) p.os := fun a b d os => Calls.regrown_of (hcut_any L a b _)
  have H3 := Lib.hid h4
  have H9' := Lib.hid h9
  have ew1 : IntKind.i64.wrap (rd - (biasOf bl).hi) = wi (rd - (biasOf bl).hi) := IntWalk.i64_left _
  have ew2 : IntKind.i64.wrap (rd - (biasOf bl).lo) = wi (rd - (biasOf bl).lo) := IntWalk.i64_left _
  clear h4 h8 h9 h10
  refine (wpIn_wide (n := 5)).1 ?_
  refine region_tail (ro := none) (C := fun w' => ∃ p : Regrown, w' = grow (redrawn W3 p.d) p.os) (o := _) 19 (by kernel_rfl) (by kernel_rfl) rfl (by kernel_rfl) ⟨⟨W3.drawn + 1, #[]⟩, by rw [grow_empty]; rfl⟩ ?_
  simp only [List.take_succ_cons, List.take_zero, List.drop_succ_cons, List.drop_zero]
  repeat (quiet_step (exact cC ⟨0, 100000⟩ ⟨wi (rd - (biasOf bl).hi), wi (rd - (biasOf bl).lo)⟩ _ _))
  refine wpQuiet_nil ?_
  refine ⟨by kernel_rfl, ?_⟩
  rintro W9 ⟨⟨dq, osq⟩, hq⟩
  have HB9 : Below W3.heap.size W3 W9 := by rw [hq]; exact below_regrown W3 dq osq
  clear hq cC x4 x5 x8 x9 xa xb
  have h4 := (HB9.block _ (heap_at H3.out)).trans H3.out
  have n0 : W9.cell? ⟨w.heap.size, 0, none⟩ = some (I 0) := cell_of_heap h4 0
  have n1 : W9.cell? ⟨w.heap.size, 1, none⟩ = some (I 100000) := cell_of_heap h4 1
  have n2 := free_of_heap h4 0
  have n3 := free_of_heap h4 1
  rw [Hsp.out]
  go_simp
  refine name_k ?_
  intro WS hWS
  have g4 : WS.heap[w.heap.size]? = some (.cells #[I (spanH bl rd).lo, I (spanH bl rd).hi, I 0, I 100000, I 0, I 100000, I 0, I 100000] 133 (0, 0)) := by
    rw [hWS]; exact setCell_heap (setCell_heap h4 0 _) 1 _
  have g9 : WS.heap[W1.heap.size]? = some (.cells #[I 0, .slice ab bl.length cb] 109 (0, 0)) := by
    rw [hWS, heap_setCellk _ _ _ _ _ (by omega), heap_setCellk _ _ _ _ _ (by omega)]; exact (HB9.block _ (heap_at H9'.out)).trans H9'.out
  have HBS : Below w.heap.size w WS := by
    rw [hWS]
    exact ((below_from HB3 HB9).setCell (p := ⟨w.heap.size, 0, none⟩) (Nat.le_refl _) _).setCell (p := ⟨w.heap.size, 1, none⟩) (Nat.le_refl _) _
  clear hWS h4 n0 n1 n2 n3
  have c9 : WS.cell? ⟨W1.heap.size, 0, none⟩ = some (I 0) := cell_of_heap g9 0
  have c40 : WS.cell? ⟨w.heap.size, 0, none⟩ = some (I (spanH bl rd).lo) := cell_of_heap g4 0
  have c41 : WS.cell? ⟨w.heap.size, 1, none⟩ = some (I (spanH bl rd).hi) := cell_of_heap g4 1
  have G4 := Lib.hid g4
  have Hne : Hid (decide ((spanH bl rd).hi < (spanH bl rd).lo) = false) := Lib.hid (by simp; omega)
  clear g4 g9
  go_wp2_with fail
  refine (hempty_any (spanH bl rd) _).mono ?_
  rintro e W5 ⟨rfl, hB5⟩
  rw [Hne.out]
  have HB5 := below_from HBS hB5
  have g4 := (hB5.block _ (heap_at G4.out)).trans G4.out
  have d0 : W5.cell? ⟨w.heap.size, 0, none⟩ = some (I (spanH bl rd).lo) := cell_of_heap g4 0
  have d1 : W5.cell? ⟨w.heap.size, 1, none⟩ = some (I (spanH bl rd).hi) := cell_of_heap g4 1
  have d2 : W5.cell? ⟨w.heap.size, 2, none⟩ = some (I 0) := cell_of_heap g4 2
  have d3 : W5.cell? ⟨w.heap.size, 3, none⟩ = some (I 100000) := cell_of_heap g4 3
  have d4 : W5.cell? ⟨w.heap.size, 4, none⟩ = some (I 0) := cell_of_heap g4 4
  have d5 : W5.cell? ⟨w.heap.size, 5, none⟩ = some (I 100000) := cell_of_heap g4 5
  have d6 : W5.cell? ⟨w.heap.size, 6, none⟩ = some (I 0) := cell_of_heap g4 6
  have d7 : W5.cell? ⟨w.heap.size, 7, none⟩ = some (I 100000) := cell_of_heap g4 7
  have G5 := Lib.hid g4
  clear c9 c40 c41 g4
  go_wp2_with fail
  rw [rounds_succ]
  go_wp2_with fail
  refine wp_loop_rounds 1 ?_
  rw [rounds_succ]
  go_wp2_with fail
  refine (bcut_any p r vt _ (spanH bl rd) ⟨0, 100000⟩ ⟨0, 100000⟩ ⟨0, 100000⟩ _ ((HB5.block _ hzp).trans HP.out) ((HB5.block _ (heap_at HR.out)).trans HR.out)).mono ?_
  rintro e W6 ⟨rfl, hB6⟩
  rw [Hne.out]
  have HB6 := below_from HB5 hB6
  have g4 := (hB6.block _ (heap_at G5.out)).trans G5.out
  have hzH6 := heap_at g4
  have d0 : W6.cell? ⟨w.heap.size, 0, none⟩ = some (I (spanH bl rd).lo) := cell_of_heap g4 0
  have d1 : W6.cell? ⟨w.heap.size, 1, none⟩ = some (I (spanH bl rd).hi) := cell_of_heap g4 1
  have d2 : W6.cell? ⟨w.heap.size, 2, none⟩ = some (I 0) := cell_of_heap g4 2
  have d3 : W6.cell? ⟨w.heap.size, 3, none⟩ = some (I 100000) := cell_of_heap g4 3
  have d4 : W6.cell? ⟨w.heap.size, 4, none⟩ = some (I 0) := cell_of_heap g4 4
  have d5 : W6.cell? ⟨w.heap.size, 5, none⟩ = some (I 100000) := cell_of_heap g4 5
  have d6 : W6.cell? ⟨w.heap.size, 6, none⟩ = some (I 0) := cell_of_heap g4 6
  have d7 : W6.cell? ⟨w.heap.size, 7, none⟩ = some (I 100000) := cell_of_heap g4 7
  have f0 := free_of_heap g4 0
  have f1 := free_of_heap g4 1
  have f2 := free_of_heap g4 2
  have f3 := free_of_heap g4 3
  have f4 := free_of_heap g4 4
  have f5 := free_of_heap g4 5
  have f6 := free_of_heap g4 6
  have f7 := free_of_heap g4 7
  have G6 := Lib.hid g4
  have heq := eql_spans
  clear g4
  go_wp2_with fail
  refine name_post (Q := bodyPost _ _ _) ?_
  intro W9 h9
  have g0 := G6.out
  have g1 := setCell_heap g0 0 (I (spanH bl rd).lo)
  have g2 := setCell_heap g1 1 (I (spanH bl rd).hi)
  have g3 := setCell_heap g2 2 (I 0)
  have g4 := setCell_heap g3 3 (I 100000)
  have g5 := setCell_heap g4 4 (I 0)
  have g6 := setCell_heap g5 5 (I 100000)
  have g7 := setCell_heap g6 6 (I 0)
  have g8 := setCell_heap g7 7 (I 100000)
  have G : W9.heap[w.heap.size]? = some (.cells #[I (spanH bl rd).lo, I (spanH bl rd).hi, I 0, I 100000, I 0, I 100000, I 0, I 100000] 133 (0, 0)) := by
    rw [h9]; exact (heap_old _ _ (heap_at g8)).trans g8
  have HB9 : Below w.heap.size w W9 := by rw [h9]; exact below_al ((((((((HB6.setCell (p := ⟨w.heap.size, 0, none⟩) (Nat.le_refl _) _).setCell (p := ⟨w.heap.size, 1, none⟩) (Nat.le_refl _) _).setCell (p := ⟨w.heap.size, 2, none⟩) (Nat.le_refl _) _).setCell (p := ⟨w.heap.size, 3, none⟩) (Nat.le_refl _) _).setCell (p := ⟨w.heap.size, 4, none⟩) (Nat.le_refl _) _).setCell (p := ⟨w.heap.size, 5, none⟩) (Nat.le_refl _) _).setCell (p := ⟨w.heap.size, 6, none⟩) (Nat.le_refl _) _).setCell (p := ⟨w.heap.size, 7, none⟩) (Nat.le_refl _) _) _
  have r0 := cell_of_heap G 0
  have r1 := cell_of_heap G 1
  have r2 := cell_of_heap G 2
  have r3 := cell_of_heap G 3
  have r4 := cell_of_heap G 4
  have r5 := cell_of_heap G 5
  have r6 := cell_of_heap G 6
  have r7 := cell_of_heap G 7
  exact bodyPost_ret (v := .tuple #[v8 (spanH bl rd) Rng.whole Rng.whole Rng.whole, .bool true]) (by simp [results, Tryz.results37, go_sem, r0, r1, r2, r3, r4, r5, r6, r7, Rng.whole]) rfl ⟨rfl, HB9⟩
end Go.Proofs.YthcolbjbafilcaaGreat
