/-
  chain: (*work).held, which certificates hold.
-/
import Derived.Test.YthcolbjbafilcaaGreatChainD
import Derived.Test.YthcolbjbafilcaaGreatRange
set_option linter.unusedSimpArgs false
set_option linter.unusedVariables false
namespace Go.Proofs.YthcolbjbafilcaaGreat
open Go.RowKit Go.Shelf
attribute [local go_sem] Oper.semAt_some

theorem slots_self (A : Array Value) (n : Nat) (h : A.size = n) : A = ((List.range n).map fun i => A.getD i undef).toArray := by
  apply Array.ext_getElem?
  intro i
  by_cases hi : i < n
  · simp [hi, h]
  · simp [hi, h]
theorem slots64 (u : Nat → Value) : ((List.range 64).map u).toArray = #[u 0, u 1, u 2, u 3, u 4, u 5, u 6, u 7, u 8, u 9, u 10, u 11, u 12, u 13, u 14, u 15, u 16, u 17, u 18, u 19, u 20, u 21, u 22, u 23, u 24, u 25, u 26, u 27, u 28, u 29, u 30, u 31, u 32, u 33, u 34, u 35, u 36, u 37, u 38, u 39, u 40, u 41, u 42, u 43, u 44, u 45, u 46, u 47, u 48, u 49, u 50, u 51, u 52, u 53, u 54, u 55, u 56, u 57, u 58, u 59, u 60, u 61, u 62, u 63] := rfl
theorem lookup_bool {w : World} {r : Nat} {l : List (Int × Bool)} (h : MapIs I Value.bool w r l) (a : Int) (W : World) (hW : W.heap[r]? = w.heap[r]?) :
    (Instr.lookup 164 (.map (some r)) (I a) false).run Tryz.prog W = .ok (.bool ((l.lookup a).getD false)) W :=
  (run_lookup (int_key Tryz.underlying3) Tryz.underlying164 (z := false) (fun _ => by kernel_rfl) h a W hW).1
def HeldInv (bw : Nat) (an : Option Addr) (cn : Nat) (items : List Item) (certs : List Cert) (cm : List (Int × Cert)) (ns : List Int) (w : World) (a : Act) (wr : World) : Prop :=
  ∃ (u : Nat → Value) (j : Nat), a.tmps = ((List.range 64).map u).toArray ∧ u 0 = .pointer (some ⟨bw, 0, none⟩) ∧ u 3 = .pointer (some ⟨w.heap.size + 1, 0, none⟩) ∧ u 13 = .slice an ns.length cn ∧ u 14 = I ns.length ∧ u 15 = I j ∧
    j ≤ ns.length ∧ Marks wr a.defers ∧ (∀ d ∈ a.defers, ∀ D, d.target = .collected D → w.heap.size + 2 ≤ D ∧ D < wr.heap.size) ∧
    Below w.heap.size w wr ∧ wr.heap[w.heap.size + 1]? = some (.cells #[.map (some w.heap.size)] 164 (0, 0)) ∧ MapIs I Value.bool wr w.heap.size (heldFrom items cm ns (ns.take j) [])
set_option maxRecDepth 100000 in
set_option maxHeartbeats 2000000 in
theorem held_any (bw : Nat) (items : List Item) (certs : List Cert) (cm : List (Int × Cert)) (ns : List Int) (w : World) (hw : WorkIs (fun _ => True) w bw items certs cm ns) (hg : Good items cm ns) :
    Calls Tryz.prog 79 #[.pointer (some ⟨bw, 0, none⟩)] w (HeldPost items cm ns w) := by
  have hw0 : WorkIs (· < w.heap.size) w bw items certs cm ns := hw.mono (fun _ _ h => h)
  obtain ⟨vi, vc, r, vn, hwo, ⟨ai, ci, rfl, hci, hri⟩, -, hmap, ⟨an, cn, rfl, hcn, hrn⟩, -, -⟩ := hw.lies
  obtain ⟨wc0, wc1, wc2, wc3, -, -⟩ := work_cells hwo
  have hmm := @run_makeMap Tryz.prog
  have hzb : bw < w.heap.size := heap_at hwo
  have hzr : r < w.heap.size := hmap.lt
  refine calls_of_wp_marks 5 Tryz.func79 rfl ?_
  simp only [Tryz.ntmps79, List.size_toArray, List.length_cons, List.length_nil, Nat.reduceAdd, Nat.reduceSub, Array.replicate_succ, Array.replicate_zero, List.push_toArray, List.append_toArray, List.nil_append, List.cons_append]
  go_wp2
  clear wc0 wc1 wc2 wc3 hmm
  refine wp_loop (HeldInv bw an cn items certs cm ns w) (fun a _ => ns.length - (intOf (a.tmps.getD 15 undef)).toNat) ?start ?round
  case start =>
    refine ⟨_, 0, slots_self _ 64 rfl, rfl, rfl, rfl, rfl, rfl, Nat.zero_le _, trivial, fun d hd => by simp at hd, below_alloc2 _ _ _, heap_new _ _ (by simp), ?_⟩
    exact (MapIs.made w).below (below_alloc _ _)
  case round =>
    rintro ⟨tmps, ds⟩ wr ⟨u, j, ht, h0, h3, h13, h14, h15, hj, hM, hD, hB, hbx, hmp⟩
    simp only at ht
    rw [slots64] at ht
    subst ht
    simp only [h0, h3, h13, h14, h15]
    have hwo1 := (hB.block bw hzb).trans hwo
    have hm1 := hmap.below hB
    obtain ⟨wc0, wc1, wc2, wc3, wcb, -⟩ := work_cells hwo1
    by_cases hlt : j < ns.length
    · obtain ⟨b, o, rfl, -, hb, hrows⟩ := hrn (by omega)
      have hx0 := ((hrows j ns[j] (List.getElem?_eq_getElem hlt)).below hB hb).c0
      rw [Nat.mul_one] at hx0
      have hlk := (lookup_cert hm1 ns[j] wr rfl).1
      have hmem : ns[j] ∈ ns := List.getElem_mem hlt
      obtain ⟨hby0, hby1⟩ := hg.by_ _ hmem
      obtain ⟨m, hm⟩ := Int.eq_ofNat_of_zero_le hby0
      have hmi : m < items.length := by omega
      obtain ⟨bi, oi, rfl, -, hbi, hrowi⟩ := hri (by omega)
      obtain ⟨-, hstd, -⟩ := ((hrowi m items[m] (List.getElem?_eq_getElem hmi)).below hB hbi).four
      have Hc := Lib.hid hm
      clear hrows hrn hrowi hri hm
      go_upto_region 6 with fail
      go_cut [6, 7] from 16 to 62 (fun s6 s7 wc => ∃ p6 p7, s6 = .pointer (some ⟨p6, 0, none⟩) ∧ s7 = .pointer (some ⟨p7, 0, none⟩) ∧ RowAt wc p6 0 (certOf cm ns[j]).cells ∧ wc.heap[p7]? = some (.cells #[.bool items[m].standard] 4 (0, 0)) ∧ Below wr.heap.size wr wc ∧ wr.heap.size ≤ p6 ∧ wr.heap.size ≤ p7)
      case first =>
        obtain ⟨W1, hW1⟩ : ∃ W1, W1 = wr.alloc (.cells #[I (certOf cm ns[j]).number, I (certOf cm ns[j]).item, I (certOf cm ns[j]).by_, I (certOf cm ns[j]).day, I (certOf cm ns[j]).valid, I (certOf cm ns[j]).diff.lo, I (certOf cm ns[j]).diff.hi] 171) := ⟨_, rfl⟩
        rw [← hW1]
        have hr1 : RowAt W1 wr.heap.size 0 (certOf cm ns[j]).cells := by rw [hW1]; exact row_new wr (certOf cm ns[j]).cells 171 rfl
        have hB1' : Below wr.heap.size wr W1 := by rw [hW1]; exact below_alloc _ _
        have hz1' : wr.heap.size < W1.heap.size := by rw [hW1]; simp
        clear hW1 wc0 wc1 wc2 wc3 wcb
        obtain ⟨wc0, wc1, wc2, wc3, -, -⟩ := work_cells ((hB1'.block _ (heap_at hwo1)).trans hwo1)
        have hzw : bw < W1.heap.size := by have := hB.size; omega
        have hzi : bi < W1.heap.size := by have := hB.size; omega
        obtain ⟨-, -, e2, -⟩ := hr1.seven
        rw [Hc.out] at e2
        simp only [Nat.zero_add] at e2
        have hst := (hB1'.cell (p := ⟨bi, oi + m * 4 + 1, none⟩) (show bi < wr.heap.size by have := hB.size; omega)).trans hstd
        have hmi' : (m : Int) < (items.length : Int) := by omega
        clear hstd hlk hx0
        go_region
        all_goals
          go_wp2_with fail
          go_meet
          exact ⟨_, _, rfl, rfl, (hr1.below (below_alloc _ _) hz1').of_block rfl, heap_new _ _ rfl, (below_from hB1' (below_alloc _ _)).drew, Nat.le_refl _, by omega⟩
      case rest =>
        obtain ⟨wA, rfl⟩ : ∃ x : World, x = wc := ⟨_, rfl⟩
        obtain ⟨p6, p7, rfl, rfl, hr6, hb7, hBA, hp6, hp7⟩ := hcut
        obtain ⟨c0, c1, c2, c3, c4, c5, c6⟩ := hr6.seven
        simp only [Nat.zero_add] at c1 c2 c3 c4 c5 c6
        have Hmp := Lib.hid hmp
        clear hstd hlk hx0 wc0 wc1 wc2 wc3 wcb
        go_wp2_with fail
        refine (of_any bw _ _ _ _).mono ?_
        rintro e wB ⟨B1, B2, B3, B4, rfl, hBB, hB1, hB2, hB3, hB4, k1, k2, k3, k4⟩
        have HBB : Below w.heap.size w wB := below_from hB (below_from hBA hBB)
        have hszA := hBA.size
        have hszB := hBB.size
        have hszr := hB.size
        have hzx : w.heap.size + 1 < wr.heap.size := heap_at hbx
        have hz7 : p7 < wA.heap.size := heap_at hb7
        have hz6 : p6 < wA.heap.size := World.block_lt_of_cell? _ _ c0
        have hb7B : Boxed wB p7 4 (.bool items[m].standard) := (hBB.block _ hz7).trans hb7
        have hmB : MapIs I Value.bool wB w.heap.size (heldFrom items cm ns (ns.take j) []) := (Hmp.out.below hBA).below hBB
        have hbxB : wB.heap[w.heap.size + 1]? = some (.cells #[.map (some w.heap.size)] 164 (0, 0)) := (hBB.block _ (by have := heap_at hbx; omega)).trans ((hBA.block _ (heap_at hbx)).trans hbx)
        clear c0 c1 c2 c3 c4 c5 c6
        go_wp2_with fail
        refine name_tmps ?_
        intro A hA
        have hz1 : B1 < wB.heap.size := World.block_lt_of_cell? _ _ k1
        have hz2 : B2 < wB.heap.size := World.block_lt_of_cell? _ _ k2
        have hz3 : B3 < wB.heap.size := World.block_lt_of_cell? _ _ k3
        have hz4 : B4 < wB.heap.size := World.block_lt_of_cell? _ _ k4
        have hSN : ∀ i, wB.heap.size ≤ i → (i = p7 ∨ wB.heap.size ≤ i) := fun i h => Or.inr h
        refine (wpIn_wide (n := 9)).1 ?_
        refine wpIn_rangeFunc_ownH (F := Fence.wide) (n := 9) (Kp := Kept (fun i => i = p7 ∨ wB.heap.size ≤ i)) (gf := 119) (lb := #[.pointer (some ⟨B1, 0, none⟩), .pointer (some ⟨B2, 0, none⟩), .pointer (some ⟨B3, 0, none⟩), .pointer (some ⟨B4, 0, none⟩)]) (w0 := wB) rfl (by decide) (by rw [hA]; rfl) trivial (enters_of Tryz.func119 (by kernel_rfl) rfl)
          (of_stops 8 (fun i => i = p7 ∨ wB.heap.size ≤ i) B1 B2 B3 B4 bw (certOf cm ns[j]).by_ (certOf cm ns[j]).day ns[j] items certs cm ns (by omega) (by omega) (by omega) (by omega) wB k1 k2 k3 k4
            ((hw0.below HBB).mono (fun i h _ => by omega)) (by have := hg.small.2; omega))
          Kept.trans (fun W l o o' hl _ _ _ => kept_putObj hSN W l o' hl) (Below.refl _ _) (fun _ => rfl)
          (fun pre W => Boxed W p7 4 (.bool (items[m].standard || pre.any fun o => ((heldFrom items cm ns (ns.take j) []).lookup o.number).getD false)) ∧ Kept (fun i => i = p7 ∨ wB.heap.size ≤ i) wB W) (fun _ _ _ => False)
          (fun pre W W' row h hg' hr => ⟨boxed_grown h.1 hg' (fun k hk => (hr k hk).2), kept_grown h.2 hSN hg' (fun k hk => (hr k hk).1)⟩) (fun _ _ _ _ _ h _ _ => h) ⟨by simpa using hb7B, Kept.refl _ _⟩
          (fun x a' W => ∃ Bx, wB.heap.size ≤ Bx ∧ RowAt W Bx 0 x.cells ∧ a' = { tmps := (A.setIfInBounds 42 x.v).setIfInBounds 8 (.pointer (some ⟨Bx, 0, none⟩)), defers := [] })
          (fun x a' _ W W' row h hg' hr => by obtain ⟨Bx, h1, h2, h3⟩ := h; exact ⟨Bx, h1, rowAt_grown h2 hg' (fun k hk => (hr k hk).2), h3⟩) ?assign ?body ?done ?stop
        case assign =>
          subst hA
          intro l pre x W K hI hK
          gi_wp2
          exact hK _ _ ((KeepsOthers.alloc _ _).from _) (Kept.below (below_alloc _ _)) ⟨Boxed.alloc hI.1 _, hI.2.alloc _⟩ ⟨_, by have := hI.2.size; omega, row_new W x.cells 171 rfl, rfl⟩
        case body =>
          subst hA
          rintro l pre x a' W hl - ⟨hbox, hK⟩ ⟨Bx, hBx, hrow, rfl⟩ -
          have e0 := hrow.c0
          have g0 := hbox.cell
          have gf := hbox.frozen
          have hh := cell_of_heap ((hK.block _ (show w.heap.size + 1 < wB.heap.size by have := heap_at hbxB; omega) (show ¬ (w.heap.size + 1 = p7 ∨ wB.heap.size ≤ w.heap.size + 1) by have := heap_at hbxB; omega)).trans hbxB) 0
          have hlkb := lookup_bool (hmB.kept hK (show ¬ (w.heap.size = p7 ∨ wB.heap.size ≤ w.heap.size) by have := hmB.lt; omega)) x.number W rfl
          have hpost : ∀ q, (items[m].standard || (pre ++ [x]).any fun o => ((heldFrom items cm ns (ns.take j) []).lookup o.number).getD false) = q → Boxed (W.setCell ⟨p7, 0, none⟩ (.bool q)) p7 4 (.bool (items[m].standard || (pre ++ [x]).any fun o => ((heldFrom items cm ns (ns.take j) []).lookup o.number).getD false)) := fun q h => by rw [h]; exact setCell_box hbox
          have Hpost := Lib.hid hpost
          have Hbox := Lib.hid hbox
          clear hpost hbox
          cases hv : (items[m].standard || pre.any fun o => ((heldFrom items cm ns (ns.take j) []).lookup o.number).getD false) with
          | true =>
            rw [hv] at g0
            have Hv := Lib.hid hv
            clear hv hlkb
            gi_wp2
            exact ⟨(KeepsOthers.setCell _ _ _).from _, Kept.setCell (S := fun i => i = p7 ∨ wB.heap.size ≤ i) (p := ⟨p7, 0, none⟩) (Kept.refl _ _) (fun _ => Or.inl rfl) _, Hpost.out true (by rw [List.any_append, ← Bool.or_assoc, Hv.out]; rfl), Kept.setCell (S := fun i => i = p7 ∨ wB.heap.size ≤ i) (p := ⟨p7, 0, none⟩) hK (fun _ => Or.inl rfl) _⟩
          | false =>
            rw [hv] at g0
            have Hv := Lib.hid hv
            clear hv
            gi_wp2
            exact ⟨(KeepsOthers.setCell _ _ _).from _, Kept.setCell (S := fun i => i = p7 ∨ wB.heap.size ≤ i) (p := ⟨p7, 0, none⟩) (Kept.refl _ _) (fun _ => Or.inl rfl) _, Hpost.out _ (by rw [List.any_append, ← Bool.or_assoc, Hv.out]; simp), Kept.setCell (S := fun i => i = p7 ∨ wB.heap.size ≤ i) (p := ⟨p7, 0, none⟩) hK (fun _ => Or.inl rfl) _⟩
        case done =>
          subst hA
          rintro D xs W hDl rfl ⟨hbox, hK⟩ hDo
          have hzD := heap_at hDo
          have hbx4 := (hK.block _ (show w.heap.size + 1 < wB.heap.size by omega) (show ¬ (w.heap.size + 1 = p7 ∨ wB.heap.size ≤ w.heap.size + 1) by omega)).trans hbxB
          have hh := cell_of_heap hbx4 0
          have hm4 := hmB.kept hK (show ¬ (w.heap.size = p7 ∨ wB.heap.size ≤ w.heap.size) by omega)
          have HB4 : Below w.heap.size w W := HBB.trans ⟨hK.os, hK.tape, hK.output, hK.size, fun i hi => hK.block i (by omega) (by omega)⟩
          obtain ⟨-, -, -, -, wcb, -⟩ := work_cells ((HB4.block bw hzb).trans hwo)
          obtain ⟨hn0, hn1⟩ := hg.num _ hmem
          have hbad := wcb ns[j].toNat (by omega)
          have g0 := hbox.cell
          have hj24 : ns.length ≤ 24 := hg.small.2
          obtain ⟨ob, hrun, hput⟩ := run_update (int_key Tryz.underlying3) Tryz.underlying164 hm4 ns[j] (items[m].standard || (ofList cm ns (certOf cm ns[j]).by_ (certOf cm ns[j]).day ns[j]).any fun o => ((heldFrom items cm ns (ns.take j) []).lookup o.number).getD false)
          have hr10 := hrun W.drew rfl
          have Hput := Lib.hid (hput W.drew (show w.heap.size < W.heap.size by have := hK.size; omega))
          clear hrun hput wcb hbox
          have Hv : Hid ((items[m].standard || (ofList cm ns (certOf cm ns[j]).by_ (certOf cm ns[j]).day ns[j]).any fun o => ((heldFrom items cm ns (ns.take j) []).lookup o.number).getD false) = heldBy items cm ns (heldFrom items cm ns (ns.take j) []) ns[j]) := Lib.hid (by unfold heldBy itemOf; rw [Hc.out]; simp [hmi])
          cases hv : (items[m].standard || (ofList cm ns (certOf cm ns[j]).by_ (certOf cm ns[j]).day ns[j]).any fun o => ((heldFrom items cm ns (ns.take j) []).lookup o.number).getD false)
          all_goals
            rw [hv] at g0 hr10
            have Hvv := Lib.hid hv
            clear hv
            go_wp2_with fail
            go_region
            all_goals
              go_wp2_with fail
              have hfix : ∀ i, i ≠ w.heap.size → (W.drew.putMap w.heap.size ob).heap[i]? = W.heap[i]? := fun i hi => heap_putMap W.drew _ _ _ hi
              have hDs : ∀ D', w.heap.size + 2 ≤ D' → D' < wr.heap.size → wr.heap[D']? = some (.deferred (some [])) → W.heap[D']? = some (.deferred (some [])) := fun D' h1 h2 h3 =>
                (hK.block _ (show D' < wB.heap.size by omega) (show ¬ (D' = p7 ∨ wB.heap.size ≤ D') by omega)).trans ((hBB.block _ (by omega)).trans ((hBA.block _ h2).trans h3))
              refine ⟨⟨_, j + 1, slots_self _ 64 rfl, rfl, rfl, rfl, rfl, rfl, by omega, ⟨D, rfl, (hfix D (by omega)).trans hDo, ?_, ?_⟩, ?_, below_putMap HB4.drew (Nat.le_refl _) _, (hfix _ (by omega)).trans hbx4, ?_⟩, by simp [intOf]; omega⟩
              · intro d' hd' e
                have := hD d' hd' D e
                omega
              · refine hM.of_heap (fun D' ⟨d', hd', e⟩ h3 => ?_)
                have := hD d' hd' D' e
                rw [hfix _ (by omega)]
                exact hDs D' this.1 this.2 h3
              · intro d' hd' D' e
                rcases List.mem_cons.1 hd' with rfl | hd'
                · cases e; exact ⟨by omega, by simpa using hzD⟩
                · have := hD d' hd' D' e; have := hK.size; simp; omega
              · rw [List.take_succ_eq_append_getElem hlt, heldFrom_append]
                simp only [heldFrom]
                rw [← Hv.out]
                exact Hput.out
        case stop =>
          intro D c pre W _ _ h _
          exact h.elim
    · obtain rfl : j = ns.length := by omega
      have hh := cell_of_heap hbx 0
      clear wc0 wc1 wc2 wc3 wcb
      rw [List.take_length] at hmp
      have Hmp := Lib.hid hmp
      clear hmp
      go_wp2_with fail
      refine leaves_marks hM (fun w' hk => ?_)
      refine ⟨_, results_tmp rfl _ _ _, w.heap.size, rfl, Hmp.out.kept hk (fun ⟨d, hd, e⟩ => ?_), hB.trans ⟨hk.os, hk.tape, hk.output, hk.size, fun i hi => hk.block i (by have := hB.size; omega) (fun ⟨d, hd, e⟩ => ?_)⟩, Nat.le_refl _⟩
      · have := hD d hd _ e; omega
      · have := hD d hd _ e; omega
end Go.Proofs.YthcolbjbafilcaaGreat
