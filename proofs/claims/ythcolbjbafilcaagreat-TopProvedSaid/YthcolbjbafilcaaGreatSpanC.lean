/-
  chain: (*spanning).span.
-/
import Derived.Test.YthcolbjbafilcaaGreatSpanB
import Derived.Test.YthcolbjbafilcaaGreatTail
import Derived.StillTailTactics
set_option linter.unusedSimpArgs false
set_option linter.unusedVariables false
namespace Go.Proofs.YthcolbjbafilcaaGreat
open Go.RowKit Go.Shelf Go.Sort
attribute [local go_sem] Oper.semAt_some

def Rng.wider (a : Rng) (n : Int) : Rng := a.plus ⟨wi (-n), n⟩
def Rng.all : Rng := ⟨-1099511627776, 1099511627776⟩
def cutBy (items : List Item) (hl : List (Int × Bool)) (sl : List (Int × Rng)) (item day : Int) (out : Rng) (c : Cert) : Rng :=
  if (hl.lookup c.number).getD false then out.cut (((sl.lookup c.number).getD ⟨0, 0⟩).wider (wi ((itemOf items item).drift * wi (day - c.day)))) else out
def spanOf (items : List Item) (cm : List (Int × Cert)) (ns : List Int) (hl : List (Int × Bool)) (sl : List (Int × Rng)) (item day below : Int) : Rng :=
  if (itemOf items item).standard then (itemOf items item).value
  else (ofList cm ns item day below).foldl (cutBy items hl sl item day) Rng.all
set_option maxRecDepth 100000 in
set_option maxHeartbeats 2000000 in
theorem span_any (L : LibSaid) (bs bw rh rs : Nat) (items : List Item) (certs : List Cert) (cm : List (Int × Cert)) (ns : List Int) (hl : List (Int × Bool)) (sl : List (Int × Rng)) (m : Nat) (day below : Int) (w : World)
    (hs : w.heap[bs]? = some (spanObj bw rh rs)) (hw : WorkIs (fun _ => True) w bw items certs cm ns) (hmh : MapIs I Value.bool w rh hl) (hms : MapIs I Rng.v w rs sl) (hmi : m < items.length) (hns : ns.length ≤ 24) :
    Calls Tryz.prog 50 #[.pointer (some ⟨bs, 0, none⟩), I m, I day, I below] w (RngPost (spanOf items cm ns hl sl m day below) w) := by
  have hzs := heap_at hs
  have hw0 : WorkIs (· < w.heap.size) w bw items certs cm ns := hw.mono (fun _ _ h => h)
  obtain ⟨vi, vc, r, vn, hwo, ⟨ai, ci, rfl, hci, hri⟩, -, hmap, -, -, -⟩ := hw.lies
  obtain ⟨bi, oi, rfl, -, hbi, hrowi⟩ := hri (by omega)
  have hrow := hrowi m items[m] (List.getElem?_eq_getElem hmi)
  have hzb : bw < w.heap.size := heap_at hwo
  have hmi' : (m : Int) < (items.length : Int) := by omega
  refine calls_of_wp_marks 5 Tryz.func50 rfl ?_
  simp only [Tryz.ntmps50, List.size_toArray, List.length_cons, List.length_nil, Nat.reduceAdd, Nat.reduceSub, Array.replicate_succ, Array.replicate_zero, List.push_toArray, List.append_toArray, List.nil_append, List.cons_append]
  go_wp2_with fail
  refine name_world ?_
  intro W hW
  have hBW : Below w.heap.size w W := by rw [hW]; exact (below_alloc3 _ _ _ _).alloc (by simp; omega) _
  have b4 : W.cell? ⟨w.heap.size, 0, none⟩ = some (.pointer (some ⟨bs, 0, none⟩)) := by rw [hW]; simp [go_sem]
  have b5 : W.cell? ⟨w.heap.size + 1, 0, none⟩ = some (I m) := by rw [hW]; simp [go_sem]
  have b6 : W.cell? ⟨w.heap.size + 1 + 1, 0, none⟩ = some (I day) := by rw [hW]; simp [go_sem]
  have r0 : W.cell? ⟨w.heap.size + 1 + 1 + 1, 0, none⟩ = some (I 0) := by rw [hW]; simp [go_sem]
  have r1 : W.cell? ⟨w.heap.size + 1 + 1 + 1, 1, none⟩ = some (I 0) := by rw [hW]; simp [go_sem]
  have r2 : W.frozen? ⟨w.heap.size + 1 + 1 + 1, 0, none⟩ = false := by rw [hW]; simp [go_sem]
  have r3 : W.frozen? ⟨w.heap.size + 1 + 1 + 1, 1, none⟩ = false := by rw [hW]; simp [go_sem]
  have hz : W.heap.size = w.heap.size + 4 := by rw [hW]; simp
  clear hW
  obtain ⟨s0, s1, s2⟩ := span_cells ((hBW.block _ hzs).trans hs)
  obtain ⟨wc0, wc1, -, -, -, -⟩ := work_cells ((hBW.block _ hzb).trans hwo)
  obtain ⟨d0, d1, d2, d3⟩ := (hrow.below hBW hbi).four
  have Hri := Lib.hid hrowi
  have Hz := Lib.hid hz
  clear hrowi hz hri
  have Hst : Hid ((itemOf items m).standard = items[m].standard ∧ (itemOf items m).value = items[m].value ∧ (itemOf items m).drift = items[m].drift) := Lib.hid (by unfold itemOf; simp [hmi])
  cases hv : items[m].standard with
  | true =>
    rw [hv] at d1
    have Hv := Lib.hid hv
    clear hv
    go_quiet (fail)
    go_wp2_with fail
    go_region
    all_goals
      go_wp2_with fail
      refine name_post (Q := bodyPostM _ _ _ _ _) ?_
      intro W9 h9
      obtain ⟨k0, k1⟩ := two_cells (W := W.drewN (nq + 1)) (p := w.heap.size + 1 + 1 + 1) (x := I items[m].value.lo) (y := I items[m].value.hi) r0 r1
      rw [← h9] at k0 k1
      refine ⟨.agg #[I items[m].value.lo, I items[m].value.hi], by simp [results, Tryz.results50, go_sem, k0, k1], ?_, ?_⟩
      · have hsp : spanOf items cm ns hl sl m day below = items[m].value := by unfold spanOf; rw [Hst.out.1, Hv.out, Hst.out.2.1]; rfl
        rw [hsp]
      · rw [h9]
        exact ((hBW.drewN _).setCell (p := ⟨w.heap.size + 1 + 1 + 1, 0, none⟩) (show _ ≤ w.heap.size + 1 + 1 + 1 by omega) _).setCell (p := ⟨w.heap.size + 1 + 1 + 1, 1, none⟩) (show _ ≤ w.heap.size + 1 + 1 + 1 by omega) _
  | false =>
    rw [hv] at d1
    have Hv := Lib.hid hv
    clear hv
    go_quiet (fail)
    have hmf : ∀ (fn : Fn) (first cap : Array Value) (w : World), (Instr.makeFunc fn first cap).run Tryz.prog w = .ok (.func fn first cap) w := fun _ _ _ _ => rfl
    refine name_post ?_
    intro W1 hW1
    have hBW1 : Below W.heap.size W W1 := by rw [hW1]; exact (Below.refl _ _).drewN _
    have e4 : W1.cell? ⟨w.heap.size, 0, none⟩ = some (.pointer (some ⟨bs, 0, none⟩)) := by rw [hW1]; exact b4
    clear hW1
    have Hb4 := Lib.hid b4
    have Hb5 := Lib.hid b5
    have Hb6 := Lib.hid b6
    have Hr0 := Lib.hid r0
    have Hr1 := Lib.hid r1
    have Hr2 := Lib.hid r2
    have Hr3 := Lib.hid r3
    clear d0 d1 d2 d3 wc0 wc1 s0 s1 s2 r0 r1 r2 r3 b5 b6 b4
    go_wp2_with fail
    refine (everything_any _).mono ?_
    rintro e w2 ⟨rfl, hB2⟩
    have HB2 : Below w.heap.size w w2 := below_from (below_from hBW hBW1) (below_from (below_alloc _ _) hB2)
    obtain ⟨hc2, hf2⟩ := bcell hB2
    have hsz2 := HB2.size
    have hf9 : w2.cell? ⟨W1.heap.size, 0, none⟩ = some (.func (.func 82) #[.pointer (some ⟨bs, 0, none⟩)] #[]) := (hc2 _ _ (by simp)).trans (by simp [go_sem])
    have hs2 := (HB2.block _ hzs).trans hs
    have hw2 := hw.below HB2
    have HW2 : Below W.heap.size W w2 := below_from hBW1 (below_from (below_alloc _ _) hB2)
    have hWz := Hz.out
    have b4 := (HW2.cell (p := ⟨w.heap.size, 0, none⟩) (show w.heap.size < W.heap.size by omega)).trans Hb4.out
    have b5 := (HW2.cell (p := ⟨w.heap.size + 1, 0, none⟩) (show w.heap.size + 1 < W.heap.size by omega)).trans Hb5.out
    have b6 := (HW2.cell (p := ⟨w.heap.size + 1 + 1, 0, none⟩) (show w.heap.size + 1 + 1 < W.heap.size by omega)).trans Hb6.out
    obtain ⟨s0, s1, s2⟩ := span_cells hs2
    clear e4
    go_wp2_with fail
    refine name_world ?_
    intro W3 hW3
    have HB3 : Below w2.heap.size w2 W3 := by rw [hW3]; exact below_alloc _ _
    have hf10 : W3.heap[w2.heap.size]? = some (.cells #[I (-1099511627776), I 1099511627776] 96 (0, 0)) := by rw [hW3]; exact heap_new _ _ rfl
    clear hW3
    have hzw2 : w.heap.size + 4 ≤ w2.heap.size := by have := HW2.size; omega
    have c4 := (HB3.cell (p := ⟨w.heap.size, 0, none⟩) (show w.heap.size < w2.heap.size by omega)).trans b4
    have c5 := (HB3.cell (p := ⟨w.heap.size + 1, 0, none⟩) (show w.heap.size + 1 < w2.heap.size by omega)).trans b5
    have c6 := (HB3.cell (p := ⟨w.heap.size + 1 + 1, 0, none⟩) (show w.heap.size + 1 + 1 < w2.heap.size by omega)).trans b6
    have z0 := (HB3.cell (p := ⟨bs, 0, none⟩) (show bs < w2.heap.size by omega)).trans s0
    go_still_tail 7, (by kernel_rfl)
    change wpList _ _ _ _ _ W3.drew
    obtain ⟨W4, hW4⟩ : ∃ x : World, x = W3.drew := ⟨_, rfl⟩
    rw [← hW4]
    have HB4 : Below w2.heap.size w2 W4 := by rw [hW4]; exact HB3.drew
    have hf10' : W4.heap[w2.heap.size]? = some (.cells #[I (-1099511627776), I 1099511627776] 96 (0, 0)) := by rw [hW4]; exact hf10
    have hz4 : w2.heap.size < W4.heap.size := heap_at hf10'
    clear hW4 c4 c5 c6 z0 HB3 hf10
    clear W3
    go_wp2_with fail
    refine (of_any bw _ _ _ _).mono ?_
    rintro e wB ⟨B1, B2, B3, B4, rfl, hBB, hB1', hB2', hB3', hB4', k1, k2, k3, k4⟩
    have HBB : Below w2.heap.size w2 wB := below_from HB4 hBB
    have hszB := hBB.size
    have hbox0 : wB.heap[w2.heap.size]? = some (.cells #[I (-1099511627776), I 1099511627776] 96 (0, 0)) := (hBB.block _ hz4).trans hf10'
    have hzz1 := hmh.lt
    have hzz2 := hms.lt
    have hmhB := (hmh.below HB2).below HBB
    have hmsB := (hms.below HB2).below HBB
    have hwB := hw2.below HBB
    have HBwB : Below w.heap.size w wB := below_from HB2 HBB
    have hsB := (HBwB.block _ hzs).trans hs
    have hzw4 := (hw0.below HB2).below HBB
    have b4 := (HBB.cell (p := ⟨w.heap.size, 0, none⟩) (show w.heap.size < w2.heap.size by omega)).trans b4
    have b5 := (HBB.cell (p := ⟨w.heap.size + 1, 0, none⟩) (show w.heap.size + 1 < w2.heap.size by omega)).trans b5
    have b6 := (HBB.cell (p := ⟨w.heap.size + 1 + 1, 0, none⟩) (show w.heap.size + 1 + 1 < w2.heap.size by omega)).trans b6
    have hz9 : W1.heap.size < w2.heap.size := World.block_lt_of_cell? _ _ hf9
    have hf9 := (HBB.cell (p := ⟨W1.heap.size, 0, none⟩) hz9).trans hf9
    have hr0B : Hid (wB.cell? ⟨w.heap.size + 1 + 1 + 1, 0, none⟩ = some (I 0)) := Lib.hid (((HW2.cell (p := ⟨w.heap.size + 1 + 1 + 1, 0, none⟩) (show w.heap.size + 1 + 1 + 1 < W.heap.size by omega)).trans Hr0.out ▸ (HBB.cell (p := ⟨w.heap.size + 1 + 1 + 1, 0, none⟩) (show w.heap.size + 1 + 1 + 1 < w2.heap.size by omega))))
    clear s0 s1 s2 hc2 hf2
    go_wp2_with fail
    refine name_tmps ?_
    intro A hA
    have hz1 : B1 < wB.heap.size := World.block_lt_of_cell? _ _ k1
    have hz2 : B2 < wB.heap.size := World.block_lt_of_cell? _ _ k2
    have hz3 : B3 < wB.heap.size := World.block_lt_of_cell? _ _ k3
    have hz4' : B4 < wB.heap.size := World.block_lt_of_cell? _ _ k4
    obtain ⟨p7, hp7⟩ : ∃ p7, p7 = w2.heap.size := ⟨_, rfl⟩
    rw [← hp7] at hbox0
    have hSN : ∀ i, wB.heap.size ≤ i → (i = p7 ∨ wB.heap.size ≤ i) := fun i h => Or.inr h
    refine (wpIn_wide (n := 9)).1 ?_
    refine wpIn_rangeFunc_ownH (F := Fence.wide) (n := 9) (Kp := Kept (fun i => i = p7 ∨ wB.heap.size ≤ i)) (gf := 119) (lb := #[.pointer (some ⟨B1, 0, none⟩), .pointer (some ⟨B2, 0, none⟩), .pointer (some ⟨B3, 0, none⟩), .pointer (some ⟨B4, 0, none⟩)]) (w0 := wB) rfl (by decide) (by rw [hA]; rfl) trivial (enters_of Tryz.func119 (by kernel_rfl) rfl)
      (of_stops 8 (fun i => i = p7 ∨ wB.heap.size ≤ i) B1 B2 B3 B4 bw m day below items certs cm ns (by omega) (by omega) (by omega) (by omega) wB k1 k2 k3 k4
        (hzw4.mono (fun i h _ => by omega)) (by omega))
      Kept.trans (fun W l o o' hl _ _ _ => kept_putObj hSN W l o' hl) (Below.refl _ _) (fun _ => rfl)
      (fun pre W => W.heap[p7]? = some (.cells #[I (pre.foldl (cutBy items hl sl m day) Rng.all).lo, I (pre.foldl (cutBy items hl sl m day) Rng.all).hi] 96 (0, 0)) ∧ Kept (fun i => i = p7 ∨ wB.heap.size ≤ i) wB W) (fun _ _ _ => False)
      (fun pre W W' row h hg' hr => ⟨boxed_grown h.1 hg' (fun k hk => (hr k hk).2), kept_grown h.2 hSN hg' (fun k hk => (hr k hk).1)⟩) (fun _ _ _ _ _ h _ _ => h) ⟨hbox0, Kept.refl _ _⟩
      (fun x a' W => ∃ Bx, wB.heap.size ≤ Bx ∧ RowAt W Bx 0 x.cells ∧ a' = { tmps := (A.setIfInBounds 47 x.v).setIfInBounds 11 (.pointer (some ⟨Bx, 0, none⟩)), defers := [] })
      (fun x a' _ W W' row h hg' hr => by obtain ⟨Bx, h1, h2, h3⟩ := h; exact ⟨Bx, h1, rowAt_grown h2 hg' (fun k hk => (hr k hk).2), h3⟩) ?assign ?body ?done ?stop
    case assign =>
      subst hA
      intro l pre x W K hI hK
      gi_wp2
      exact hK _ _ ((KeepsOthers.alloc _ _).from _) (Kept.below (below_alloc _ _)) ⟨by rw [heap_old _ _ (heap_at hI.1)]; exact hI.1, hI.2.alloc _⟩ ⟨_, by have := hI.2.size; omega, row_new W x.cells 171 rfl, rfl⟩
    case body =>
      subst hA
      rintro l pre x a' W hl' hpre ⟨hbox, hK⟩ ⟨Bx, hBx, hrow, rfl⟩ hJ
      have hzp : p7 < wB.heap.size := by omega
      have hkc : ∀ (b i : Nat), b < wB.heap.size → b ≠ p7 → W.cell? ⟨b, i, none⟩ = wB.cell? ⟨b, i, none⟩ := fun b i h1 h2 => hK.cell (p := ⟨b, i, none⟩) h1 (fun h => h.elim h2 (fun h => Nat.not_le_of_lt h1 h))
      have f9 := (hkc W1.heap.size 0 (by omega) (by omega)).trans hf9
      have hsW : W.heap[bs]? = some (spanObj bw rh rs) := (hK.block bs (by omega) (by omega)).trans hsB
      have hmhW := hmhB.kept hK (show ¬ (rh = p7 ∨ wB.heap.size ≤ rh) by omega)
      have hmsW := hmsB.kept hK (show ¬ (rs = p7 ∨ wB.heap.size ≤ rs) by omega)
      obtain ⟨e0, e1, e2, e3, e4, e5, e6⟩ := hrow.seven
      simp only [Nat.zero_add] at e1 e2 e3 e4 e5 e6
      have hone : 1 ≤ 9 - 1 - 1 := by decide
      gi_wp2_with fail
      refine ⟨trivial, CallsIn.inRound l (callsIn_wide.2 ((holding_any bs bw rh rs hl x W hsW hmhW).mono ?_))⟩
      rintro e w3 ⟨rfl, hB3⟩
      have hbox3 := (hB3.block p7 (heap_at hbox)).trans hbox
      have hKW : Kept (fun i => i = p7 ∨ wB.heap.size ≤ i) W w3 := Kept.below hB3
      have hko : KeepsOthers W w3 := ⟨hB3.size, fun k o h _ => (hB3.block k (heap_at h)).trans h⟩
      cases hh : (hl.lookup x.number).getD false with
      | false =>
        have hcut : (pre ++ [x]).foldl (cutBy items hl sl m day) Rng.all = pre.foldl (cutBy items hl sl m day) Rng.all := by
          rw [List.foldl_append]; simp [cutBy, hh]
        have Hh := Lib.hid hh
        clear hh
        gi_wp2_with fail
        exact ⟨hko.from _, hKW, by rw [hcut]; exact hbox3, hK.trans hKW⟩
      | true =>
        have hcut : (pre ++ [x]).foldl (cutBy items hl sl m day) Rng.all = (pre.foldl (cutBy items hl sl m day) Rng.all).cut (((sl.lookup x.number).getD ⟨0, 0⟩).wider (wi (items[m].drift * wi (day - x.day)))) := by
          rw [List.foldl_append]; simp [cutBy, hh, Hst.out.2.2]
        have Hh := Lib.hid hh
        clear hh
        gi_wp2_with fail
        obtain ⟨s0, s1, s2⟩ := span_cells ((hB3.block bs (heap_at hsW)).trans hsW)
        have hkc3 : ∀ (b i : Nat), b < wB.heap.size → b ≠ p7 → w3.cell? ⟨b, i, none⟩ = wB.cell? ⟨b, i, none⟩ := fun b i h1 h2 => (hB3.cell (p := ⟨b, i, none⟩) (show b < W.heap.size from Nat.lt_of_lt_of_le h1 hK.size)).trans (hkc b i h1 h2)
        have q4 := cell_regrown ((hkc3 w.heap.size 0 (by omega) (by omega)).trans b4)
        have q5 := cell_regrown ((hkc3 (w.heap.size + 1) 0 (by omega) (by omega)).trans b5)
        have q6 := cell_regrown ((hkc3 (w.heap.size + 1 + 1) 0 (by omega) (by omega)).trans b6)
        have hw3 := HBwB.block bw hzb
        have hszwB := HBwB.size
        obtain ⟨wc0, -, -, -, -, -⟩ := work_cells (((hB3.block bw (by have := hK.size; omega)).trans (hK.block bw (by omega) (by omega))).trans (hw3.trans hwo))
        have qw := cell_regrown wc0
        have qs0 := cell_regrown s0
        have qs2 := cell_regrown s2
        have hrow3 := hrow.below hB3 (by have := World.block_lt_of_cell? _ _ e0; exact this)
        obtain ⟨g0, -, -, g3, -, -, -⟩ := hrow3.seven
        simp only [Nat.zero_add] at g3
        have qx0 := cell_regrown g0
        have qx3 := cell_regrown g3
        have qo0 := cell_regrown (show w3.cell? ⟨w2.heap.size, 0, none⟩ = some (I (pre.foldl (cutBy items hl sl m day) Rng.all).lo) by rw [← hp7]; exact cell_of_heap hbox3 0)
        have qo1 := cell_regrown (show w3.cell? ⟨w2.heap.size, 1, none⟩ = some (I (pre.foldl (cutBy items hl sl m day) Rng.all).hi) by rw [← hp7]; exact cell_of_heap hbox3 1)
        obtain ⟨dd0, -⟩ := (Hri.out m items[m] (List.getElem?_eq_getElem hmi)).four
        have qd := cell_regrown (((hkc3 bi _ (by omega) (by omega)).trans (HBwB.cell (p := ⟨bi, oi + m * 4, none⟩) hbi)).trans dd0)
        clear g0 g3 wc0 s0 s1 s2 dd0 e0 e1 e2 e3 e4 e5 e6 f9
        have qlk : ∀ d os, (Instr.lookup 202 (.map (some rs)) (I x.number) false).run Tryz.prog (grow (redrawn w3 d) os) = .ok (.agg #[I ((sl.lookup x.number).getD ⟨0, 0⟩).lo, I ((sl.lookup x.number).getD ⟨0, 0⟩).hi]) (grow (redrawn w3 d) os) := fun d os =>
          (run_lookup (int_key Tryz.underlying3) Tryz.underlying202 (z := (⟨0, 0⟩ : Rng)) (fun _ => by kernel_rfl) ((hmsW.below hB3).below (below_regrown w3 d os)) x.number _ rfl).1
        have cW : ∀ (a : Rng) (n : Int) d os, Calls Tryz.prog 86 #[.agg #[I a.lo, I a.hi], I n] (grow (redrawn w3 d) os) fun e w'' => e = .returned (.agg #[I (a.wider n).lo, I (a.wider n).hi]) ∧ ∃ p : Regrown, w'' = grow (redrawn w3 p.d) p.os := fun a n d os => Calls.regrown_of (wider_any a n _)
        have cC : ∀ (a b : Rng) d os, Calls Tryz.prog 85 #[.agg #[I a.lo, I a.hi], .agg #[I b.lo, I b.hi]] (grow (redrawn w3 d) os) fun e w'' => e = .returned (.agg #[I (a.cut b).lo, I (a.cut b).hi]) ∧ ∃ p : Regrown, w'' = grow (redrawn w3 p.d) p.os := fun a b d os => Calls.regrown_of (cut_any L a b _)
        refine region_tail (ro := some l) (C := fun w' => ∃ p : Regrown, w' = grow (redrawn w3 p.d) p.os) (o := _) 27 (by kernel_rfl) (by kernel_rfl) rfl (by kernel_rfl) ⟨⟨w3.drawn + 1, #[]⟩, by rw [grow_empty]; rfl⟩ ?_
        simp only [List.take_succ_cons, List.take_zero, List.drop_succ_cons, List.drop_zero]
        repeat (quiet_step (first | exact cW ((sl.lookup x.number).getD ⟨0, 0⟩) _ _ _ | exact cC (pre.foldl (cutBy items hl sl m day) Rng.all) (((sl.lookup x.number).getD ⟨0, 0⟩).wider _) _ _))
        refine wpQuiet_nil ?_
        refine ⟨by kernel_rfl, ?_⟩
        rintro W9 ⟨⟨dq, osq⟩, h9⟩
        have HB9 : Below w3.heap.size w3 W9 := by rw [h9]; exact below_regrown w3 dq osq
        clear h9 qlk cW cC q4 q5 q6 qw qs0 qs2 qx0 qx3 qo0 qo1 qd
        have hbox9 := (HB9.block p7 (heap_at hbox3)).trans hbox3
        have n0 : W9.cell? ⟨w2.heap.size, 0, none⟩ = some (I (pre.foldl (cutBy items hl sl m day) Rng.all).lo) := by rw [← hp7]; exact cell_of_heap hbox9 0
        have n1 : W9.cell? ⟨w2.heap.size, 1, none⟩ = some (I (pre.foldl (cutBy items hl sl m day) Rng.all).hi) := by rw [← hp7]; exact cell_of_heap hbox9 1
        have n2 : W9.frozen? ⟨w2.heap.size, 0, none⟩ = false := by rw [← hp7]; exact free_of_heap hbox9 0
        have n3 : W9.frozen? ⟨w2.heap.size, 1, none⟩ = false := by rw [← hp7]; exact free_of_heap hbox9 1
        go_simp
        gi_wp2_with fail
        subst hp7
        have hsz93 := HB9.size
        have hKs : ∀ u v : Value, Kept (fun i => i = w2.heap.size ∨ wB.heap.size ≤ i) W ((W9.setCell ⟨w2.heap.size, 0, none⟩ u).setCell ⟨w2.heap.size, 1, none⟩ v) := fun u v =>
          ((hKW.trans (Kept.below HB9)).setCell (p := ⟨w2.heap.size, 0, none⟩) (fun _ => Or.inl rfl) u).setCell (p := ⟨w2.heap.size, 1, none⟩) (fun _ => Or.inl rfl) v
        refine ⟨?_, hKs _ _, ?_, hK.trans (hKs _ _)⟩
        · refine KeepsOthers.from ?_ _
          refine (hko.trans ⟨HB9.size, fun k o h _ => (HB9.block k (heap_at h)).trans h⟩).trans ((KeepsOthers.setCell _ _ _).trans (KeepsOthers.setCell _ _ _))
        · rw [hcut, setCell_heap (setCell_heap hbox9 0 _) 1 _]
          simp only [IntWalk.i64_left]
          rfl
    case done =>
      subst hA hp7
      rintro D xs W5 hDl rfl ⟨hbox, hK⟩ hDo
      have hzD := heap_at hDo
      have o0 : W5.cell? ⟨w2.heap.size, 0, none⟩ = some (I ((ofList cm ns m day below).foldl (cutBy items hl sl m day) Rng.all).lo) := cell_of_heap hbox 0
      have o1 : W5.cell? ⟨w2.heap.size, 1, none⟩ = some (I ((ofList cm ns m day below).foldl (cutBy items hl sl m day) Rng.all).hi) := cell_of_heap hbox 1
      have hWB : Below W.heap.size W wB := below_from HW2 HBB
      have hrc : ∀ i, W5.cell? ⟨w.heap.size + 1 + 1 + 1, i, none⟩ = W.cell? ⟨w.heap.size + 1 + 1 + 1, i, none⟩ := fun i =>
        (hK.cell (p := ⟨w.heap.size + 1 + 1 + 1, i, none⟩) (show w.heap.size + 1 + 1 + 1 < wB.heap.size by omega) (show ¬ (w.heap.size + 1 + 1 + 1 = w2.heap.size ∨ wB.heap.size ≤ w.heap.size + 1 + 1 + 1) by omega)).trans (hWB.cell (p := ⟨w.heap.size + 1 + 1 + 1, i, none⟩) (show w.heap.size + 1 + 1 + 1 < W.heap.size by omega))
      have hrf : ∀ i, W5.frozen? ⟨w.heap.size + 1 + 1 + 1, i, none⟩ = W.frozen? ⟨w.heap.size + 1 + 1 + 1, i, none⟩ := fun i =>
        (World.frozen?_of_block (a := ⟨w.heap.size + 1 + 1 + 1, i, none⟩) (hK.block _ (show w.heap.size + 1 + 1 + 1 < wB.heap.size by omega) (show ¬ (w.heap.size + 1 + 1 + 1 = w2.heap.size ∨ wB.heap.size ≤ w.heap.size + 1 + 1 + 1) by omega))).trans (hWB.frozen (p := ⟨w.heap.size + 1 + 1 + 1, i, none⟩) (show w.heap.size + 1 + 1 + 1 < W.heap.size by omega))
      have t0 := (hrc 0).trans Hr0.out
      have t1 := (hrc 1).trans Hr1.out
      have t2 := (hrf 0).trans Hr2.out
      have t3 := (hrf 1).trans Hr3.out
      clear hrc hrf
      go_wp2_with fail
      have hDne : w.heap.size + 1 + 1 + 1 ≠ D := by omega
      obtain ⟨k0, k1⟩ := two_cells (x := I ((ofList cm ns m day below).foldl (cutBy items hl sl m day) Rng.all).lo) (y := I ((ofList cm ns m day below).foldl (cutBy items hl sl m day) Rng.all).hi) t0 t1
      have HB5 : Below w.heap.size w W5 := HBwB.trans ⟨hK.os, hK.tape, hK.output, hK.size, fun i hi => hK.block i (by have := HBwB.size; omega) (by have := HBwB.size; omega)⟩
      refine leaves_marks (n := 5) (ds := [{ target := .collected D, args := #[] }]) ⟨D, rfl, ?_, fun _ h => (by cases h), trivial⟩ (fun w' hk => ?_)
      · rw [Below.heap_setCell _ _ _ _ (by simpa using hDne.symm), Below.heap_setCell _ _ _ _ (by simpa using hDne.symm)]
        exact hDo
      · have hDS : ∀ i, (∃ d ∈ [({ target := .collected D, args := #[] } : Deferred)], d.target = .collected i) → i = D := fun i ⟨d, hd, e⟩ => by
          rw [List.mem_singleton] at hd; subst hd; cases e; rfl
        have hzq : w.heap.size + 1 + 1 + 1 < W5.heap.size := World.block_lt_of_cell? _ _ t0
        have e0 := (hk.cell (p := ⟨w.heap.size + 1 + 1 + 1, 0, none⟩) (by simpa using hzq) (fun h => hDne (hDS _ h))).trans k0
        have e1 := (hk.cell (p := ⟨w.heap.size + 1 + 1 + 1, 1, none⟩) (by simpa using hzq) (fun h => hDne (hDS _ h))).trans k1
        have HB6 := (HB5.setCell (p := ⟨w.heap.size + 1 + 1 + 1, 0, none⟩) (show _ ≤ w.heap.size + 1 + 1 + 1 by omega) (I ((ofList cm ns m day below).foldl (cutBy items hl sl m day) Rng.all).lo)).setCell (p := ⟨w.heap.size + 1 + 1 + 1, 1, none⟩) (show _ ≤ w.heap.size + 1 + 1 + 1 by omega) (I ((ofList cm ns m day below).foldl (cutBy items hl sl m day) Rng.all).hi)
        refine ⟨.agg #[I (spanOf items cm ns hl sl m day below).lo, I (spanOf items cm ns hl sl m day below).hi], ?_, rfl, HB6.trans ⟨hk.os, hk.tape, hk.output, hk.size, fun i hi => hk.block i (Nat.lt_of_lt_of_le hi HB6.size) (fun h => by have h1 := hDS _ h; have h2 := HBwB.size; omega)⟩⟩
        have hsp : spanOf items cm ns hl sl m day below = (ofList cm ns m day below).foldl (cutBy items hl sl m day) Rng.all := by unfold spanOf; rw [Hst.out.1, Hv.out]; rfl
        rw [hsp]
        simp [results, Tryz.results50, go_sem, e0, e1]
    case stop =>
      intro D c pre W _ _ h _
      exact h.elim
end Go.Proofs.YthcolbjbafilcaaGreat
