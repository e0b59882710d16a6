/-
  Package hard: cut, spans and Spans, of a bench of one scale and no table.
-/
import Derived.Test.YthcolbjbafilcaaGreatHardD
import Derived.Walk3
import Derived.Deep.MidRow
set_option linter.unusedSimpArgs false
set_option linter.unusedVariables false
namespace Go.Proofs.YthcolbjbafilcaaGreat
open Go.RowKit Go.Shelf Go.Sort
attribute [local go_sem] Oper.semAt_some

abbrev v8 (a b c d : Rng) : Value := .agg #[I a.lo, I a.hi, I b.lo, I b.hi, I c.lo, I c.hi, I d.lo, I d.hi]
theorem bench_cells {w : World} {p r : Nat} {vt vm : Value} (h : w.heap[p]? = some (benchObj vt vm r)) : w.cell? ⟨p, 0, none⟩ = some (I 1) ∧ w.cell? ⟨p, 1, none⟩ = some vt ∧ w.cell? ⟨p, 2, none⟩ = some vm ∧ w.cell? ⟨p, 3, none⟩ = some (.map (some r)) :=
  ⟨cell_of_heap h 0, cell_of_heap h 1, cell_of_heap h 2, cell_of_heap h 3⟩
theorem look_pair {w : World} {r : Nat} (h : w.heap[r]? = some (.map #[] 0)) (W : World) (hW : W.heap[r]? = w.heap[r]?) :
    (Instr.lookup 181 (.map (some r)) (.agg #[I 0, I 0]) false).run Tryz.prog W = .ok (.slice none 0 0) W := by
  have hT : Tryz.prog.underlying 181 = some (.map 217 54) := Tryz.underlying181
  have hc : ∀ W, (Instr.checkKey true 10000 217 (.agg #[I 0, I 0])).run Tryz.prog W = .ok () W := fun W => by kernel_rfl
  have hf : ∀ W, (Instr.findKey 217 (.agg #[I 0, I 0]) []).run Tryz.prog W = .ok none W := fun W => by kernel_rfl
  have hz : ∀ W, (zeroValue 54).run Tryz.prog W = .ok (.slice none 0 0) W := fun W => by kernel_rfl
  rw [h] at hW
  simp [Instr.lookup, run_underlying hT, getObj, Sem.run, hW, hc, hf, hz, Result.andThen]
theorem step_store_mid {P : Program} {ops : Array Oper} {o : Oper} {a : Act} {w : World} {K : Act → World → Prop} {Q : Exit → Act → World → Prop} {E : Prop} (hgd : o.guard = none) (ty : TypeId) (x y : Operand) (ho : o.op = .store ty x y)
    (b k : Nat) (cells : Array Value) (hx : a.eval x = .pointer (some ⟨b, k, none⟩)) (hy : a.eval y = .agg cells)
    (ht : w.there b k cells.size) (hi : (P.info? ty).map (·.size) = some cells.size) (h1 : cells.all (·.oneCell') = true)
    (h : K (a.put o.dst undef) (w.setCells b k cells.toList)) : if Region.wanted o (yielded ops a.tmps) = true then Oper.wp P o a w K Q else E := by
  have hw : Region.wanted o (yielded ops a.tmps) = true := by simp [Region.wanted, hgd]
  rw [if_pos hw]
  exact wp_store_mid ty x y ho b k cells hx hy ht hi h1 h
theorem below_setCells {B : Nat} {w0 : World} {b : Nat} : ∀ {w : World}, Below B w0 w → B ≤ b → ∀ (vs : List Value) (o : Nat), Below B w0 (w.setCells b o vs)
  | _, h, _, [], _ => h
  | _, h, hb, v :: vs, o => below_setCells (h.setCell (p := ⟨b, o, none⟩) hb v) hb vs (o + 1)
def CutPost (a b c d : Rng) (w : World) (e : Ending) (w' : World) : Prop := e = .returned (.tuple #[v8 a b c d, .bool (!decide (a.hi < a.lo))]) ∧ Below w.heap.size w w'
set_option maxRecDepth 100000 in
set_option maxHeartbeats 3000000 in
theorem bcut_any (p r : Nat) (vt vm : Value) (a b c d : Rng) (w : World) (hp : w.heap[p]? = some (benchObj vt vm r)) (hr : w.heap[r]? = some (.map #[] 0)) :
    Calls Tryz.prog 63 #[.pointer (some ⟨p, 0, none⟩), v8 a b c d] w (CutPost a b c d w) := by
  obtain ⟨p0, p1, p2, p3⟩ := bench_cells hp
  have hzp := heap_at hp
  have hzr := heap_at hr
  have hlk : ∀ o o' : Obj, (Instr.lookup 181 (.map (some r)) (.agg #[I 0, I 0]) false).run Tryz.prog ((w.alloc o).alloc o') = .ok (.slice none 0 0) ((w.alloc o).alloc o') := fun o o' => look_pair hr _ ((heap_old _ _ (by simp; omega)).trans (heap_old _ _ hzr))
  have HP := Lib.hid hp
  have HR := Lib.hid hr
  clear hp hr
  go_enter Tryz.func63, Tryz.ntmps63
  go_wp2_with fail
  go_step3
  go_wp2_with fail
  go_step3
  go_wp2_with fail
  refine wp_loop_rounds 2 ?_
  rw [rounds_succ]
  go_wp2_with fail
  refine wp_loop_rounds 2 ?_
  rw [rounds_succ]
  go_wp2_with fail
  refine wp_loop_rounds 1 ?_
  rw [rounds_succ]
  go_wp2_with fail
  rw [rounds_succ]
  go_wp2_with fail
  rw [rounds_succ]
  go_wp2_with fail
  refine name_world ?_
  intro W0 hW0
  have hB0 : Below w.heap.size w W0 := by rw [hW0]; exact below_alloc2 _ _ _
  have hH : W0.heap[w.heap.size]? = some (.cells #[I a.lo, I a.hi, I b.lo, I b.hi, I c.lo, I c.hi, I d.lo, I d.hi] 133 (0, 0)) := by rw [hW0]; exact (heap_old _ _ (by simp)).trans (heap_new _ _ rfl)
  have hH1 : W0.heap[w.heap.size + 1]? = some (.cells #[I 0, I 0, I 0, I 0, I 0, I 0, I 0, I 0] 133 (0, 0)) := by rw [hW0]; exact heap_new _ _ (by simp)
  clear hW0
  have hz0 := heap_at hH
  have hz1 := heap_at hH1
  have c0 : W0.cell? ⟨p, 0, none⟩ = some (I 1) := cell_of_heap ((hB0.block _ hzp).trans HP.out) 0
  have HH := Lib.hid hH
  have HH1 := Lib.hid hH1
  have y0 := cell_of_heap hH 0
  have y1 := cell_of_heap hH 1
  have y2 := cell_of_heap hH 2
  have y3 := cell_of_heap hH 3
  have y4 := cell_of_heap hH 4
  have y5 := cell_of_heap hH 5
  have y6 := cell_of_heap hH 6
  have y7 := cell_of_heap hH 7
  have z0 := cell_of_heap hH1 0
  have z1 := cell_of_heap hH1 1
  have z2 := cell_of_heap hH1 2
  have z3 := cell_of_heap hH1 3
  have z4 := cell_of_heap hH1 4
  have z5 := cell_of_heap hH1 5
  have z6 := cell_of_heap hH1 6
  have z7 := cell_of_heap hH1 7
  have ff := fun k => free_of_heap hH1 k
  simp only [List.getElem?_toArray, List.getElem?_cons_zero, List.getElem?_cons_succ] at y0 y1 y2 y3 y4 y5 y6 y7 z0 z1 z2 z3 z4 z5 z6 z7
  clear p0 p1 p2 p3 hlk hH hH1
  have hsl : RngsIs (fun _ => True) W0 (.slice (some ⟨w.heap.size, 0, none⟩) 1 4) [a] := ⟨_, _, rfl, by simp, fun _ => ⟨w.heap.size, 0, rfl, trivial, hz0, fun i x hx => by
    cases i with
    | zero =>
      simp at hx; subst hx
      intro k u hu
      have hk : k = 0 ∨ k = 1 := by
        have := (List.getElem?_eq_some_iff.1 hu).1
        simp at this; omega
      rcases hk with rfl | rfl
      · simp at hu; subst hu; exact cell_of_heap HH.out 0
      · simp at hu; subst hu; exact cell_of_heap HH.out 1
    | succ i => simp at hx⟩⟩
  have HE : Hid (∀ args w, (callFunc 33 args).run Tryz.prog w = .ok (.enter 33 args) w) := Lib.hid (enters_of Tryz.func33 (by kernel_rfl) rfl)
  have Hcall : Hid (∀ W', Below W0.heap.size W0 W' → Calls Tryz.prog 105 #[.slice (some ⟨w.heap.size, 0, none⟩) 1 4, .func (.func 33) #[] #[]] W' fun e w' => e = .returned (.bool ([a].any fun r => decide (r.hi < r.lo))) ∧ Below W'.heap.size W' w') :=
    Lib.hid (fun W' hB => hrng_containsFunc 33 #[] #[] HE.out (fun r => decide (r.hi < r.lo)) [a] (fun _ => True) _ W' (by simp) (hsl.below hB) (fun W _ x _ => hempty_any x W))
  clear hsl HE
  go_region_with
    ((go_at_call 105; refine (Hcall.out _ (Below.refl _ _).drew).mono ?_; rintro e w1 ⟨rfl, hB⟩; obtain ⟨hcB, hfB⟩ := bcell hB; have hzB := hB.size; simp only [size_drew] at hcB hfB hzB))
  all_goals
    go_wp2_with fail
    rw [Exit.noGoto_ret]
    refine name_post (Q := bodyPost _ _ _) ?_
    intro W9 h9
    have g0 := (hB.block (w.heap.size + 1) hz1).trans HH1.out
    have g1 := setCell_heap g0 0 (I a.lo)
    have g2 := setCell_heap g1 1 (I a.hi)
    have g3 := setCell_heap g2 2 (I b.lo)
    have g4 := setCell_heap g3 3 (I b.hi)
    have g5 := setCell_heap g4 4 (I c.lo)
    have g6 := setCell_heap g5 5 (I c.hi)
    have g7 := setCell_heap g6 6 (I d.lo)
    have g8 := setCell_heap g7 7 (I d.hi)
    have HB9 : Below w.heap.size w W9 := by
      rw [h9]
      have h1 : Below w.heap.size w w1 := below_from hB0.drew hB
      exact (((((((h1.setCell (p := ⟨w.heap.size + 1, 0, none⟩) (show _ ≤ w.heap.size + 1 by omega) _).setCell (p := ⟨w.heap.size + 1, 1, none⟩) (show _ ≤ w.heap.size + 1 by omega) _).setCell (p := ⟨w.heap.size + 1, 2, none⟩) (show _ ≤ w.heap.size + 1 by omega) _).setCell (p := ⟨w.heap.size + 1, 3, none⟩) (show _ ≤ w.heap.size + 1 by omega) _).setCell (p := ⟨w.heap.size + 1, 4, none⟩) (show _ ≤ w.heap.size + 1 by omega) _).setCell (p := ⟨w.heap.size + 1, 5, none⟩) (show _ ≤ w.heap.size + 1 by omega) _).setCell (p := ⟨w.heap.size + 1, 6, none⟩) (show _ ≤ w.heap.size + 1 by omega) _).setCell (p := ⟨w.heap.size + 1, 7, none⟩) (show _ ≤ w.heap.size + 1 by omega) _
    have G : W9.heap[w.heap.size + 1]? = some (.cells #[I a.lo, I a.hi, I b.lo, I b.hi, I c.lo, I c.hi, I d.lo, I d.hi] 133 (0, 0)) := by rw [h9]; exact g8
    have r0 := cell_of_heap G 0
    have r1 := cell_of_heap G 1
    have r2 := cell_of_heap G 2
    have r3 := cell_of_heap G 3
    have r4 := cell_of_heap G 4
    have r5 := cell_of_heap G 5
    have r6 := cell_of_heap G 6
    have r7 := cell_of_heap G 7
    exact bodyPost_ret (v := .tuple #[v8 a b c d, .bool (!([a].any fun r => decide (r.hi < r.lo)))]) (by simp [results, Tryz.results63, go_sem, r0, r1, r2, r3, r4, r5, r6, r7]) rfl ⟨by simp, HB9⟩
end Go.Proofs.YthcolbjbafilcaaGreat
