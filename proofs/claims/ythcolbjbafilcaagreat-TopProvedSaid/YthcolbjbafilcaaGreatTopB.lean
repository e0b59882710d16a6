/-
  The statements' Book of package hard: one machine and no table.
-/
import Derived.Test.YthcolbjbafilcaaGreatTopA
set_option linter.unusedSimpArgs false
set_option linter.unusedVariables false
namespace Go.Proofs.YthcolbjbafilcaaGreat
open Go.RowKit Go.Shelf Go.Sort
attribute [local go_sem] Oper.semAt_some

theorem info_hblock : (Tryz.prog.info? 106).map (fun i => (i.zero, i.size, i.bytes)) = some (some (.agg #[I 0, I 0, I 0]), 3, 24) := by kernel_rfl
theorem info_hmach : (Tryz.prog.info? 109).map (fun i => (i.zero, i.size, i.bytes)) = some (some (.agg #[I 0, .slice none 0 0]), 2, 32) := by kernel_rfl
def L06Post (bl : List Block) (w : World) (e : Ending) (w' : World) : Prop :=
  ∃ vt vm, e = .returned (.agg #[I 1, vt, vm]) ∧ HBookIs (fun _ => True) w' vt vm bl ∧ Below w.heap.size w w'
set_option maxRecDepth 100000 in
set_option maxHeartbeats 4000000 in
theorem hbook_any (ok : Nat → Prop) (b o c : Nat) (vb : Value) (bl : List Block) (w : World) (hl : bl.length ≤ 5) (hf : bl.all Block.ok = true) (hc : 1 ≤ c) (hb : b < w.heap.size) (hm0 : w.cell? ⟨b, o, none⟩ = some (I 0)) (hm1 : w.cell? ⟨b, o + 1, none⟩ = some vb) (hbl : BlocksIs ok w vb bl) :
    Calls Tryz.prog 12 #[.agg #[I 1, .slice none 0 0, .slice (some ⟨b, o, none⟩) 1 c]] w (L06Post bl w) := by
  obtain ⟨ab, cb, rfl, hcb, hrb⟩ := hbl
  have Hrb := Lib.hid hrb
  clear hrb
  go_enter Tryz.func12, Tryz.ntmps12
  go_wp2_with fail
  refine wp_loop_rounds 1 ?_
  rw [rounds_succ]
  go_wp2_with fail
  refine name_world ?_
  intro W0 hW0
  have hB0 : Below w.heap.size w W0 := by rw [hW0]; exact below_alloc3 _ _ _ _
  have h1 : W0.heap[w.heap.size]? = some (.cells #[I 1, .slice none 0 0, .slice (some ⟨b, o, none⟩) 1 c] 48 (0, 0)) := by rw [hW0]; exact (heap_old _ _ (by simp; omega)).trans ((heap_old _ _ (by simp)).trans (heap_new _ _ rfl))
  have h2 : ∃ u0 u1 u2, W0.heap[w.heap.size + 1]? = some (.cells #[u0, u1, u2] 57 (0, 0)) := ⟨_, _, _, by rw [hW0]; exact (heap_old _ _ (by simp)).trans (heap_new _ _ (by simp))⟩
  have h3 : W0.heap[w.heap.size + 1 + 1]? = some (.cells #[I 1, .slice none 0 0, .slice none 0 0] 57 (0, 0)) := by rw [hW0]; exact heap_new _ _ (by simp)
  have hz : W0.heap.size = w.heap.size + 3 := by rw [hW0]; simp
  clear hW0
  have hz' : w.heap.size + 3 ≤ W0.heap.size := by omega
  have hz'' : W0.heap.size ≤ w.heap.size + 3 := by omega
  have H1 := Lib.hid h1
  have H2 := Lib.hid h2
  have H3 := Lib.hid h3
  have k2 : W0.cell? ⟨w.heap.size, 2, none⟩ = some (.slice (some ⟨b, o, none⟩) 1 c) := cell_of_heap h1 2
  have m0 := (hB0.cell (p := ⟨b, o, none⟩) hb).trans hm0
  have m1 := (hB0.cell (p := ⟨b, o + 1, none⟩) hb).trans hm1
  clear hz h1 h2 h3 hm0 hm1
  refine wp_loop_rounds 2 ?_
  rw [rounds_succ]
  go_wp2_with fail
  refine name_world ?_
  intro W1 hW1
  have hB1 : Below W0.heap.size W0 W1 := by rw [hW1]; exact below_alloc2 _ _ _
  have h9 : W1.heap[W0.heap.size]? = some (.cells #[I 0, .slice ab bl.length cb] 44 (0, 0)) := by rw [hW1]; exact (heap_old _ _ (by simp)).trans (heap_new _ _ rfl)
  have h10 : W1.heap[W0.heap.size + 1]? = some (.cells #[I 0, .slice none 0 0] 109 (0, 0)) := by rw [hW1]; exact heap_new _ _ (by simp)
  have hz1 : W0.heap.size + 2 ≤ W1.heap.size := by rw [hW1]; simp
  have hz1' : W1.heap.size ≤ W0.heap.size + 2 := by rw [hW1]; simp
  clear hW1 m0 m1 k2
  have HB1 : Below w.heap.size w W1 := hB0.trans (hB1.mono (by omega))
  have H9 := Lib.hid h9
  have H10 := Lib.hid h10
  clear h9 h10
  go_loopg [11] bl.length (fun g i wr => ∃ (j : Nat) (v : Value), g = bl.length - j ∧ j ≤ bl.length ∧ i = I j ∧ Owns Block.cells 3 (W0.heap.size + 2) 106 wr v (bl.take j) ∧ wr.heap[W0.heap.size + 1]? = some (.cells #[I 0, v] 109 (0, 0)) ∧ Kept (· = W0.heap.size + 1) W1 wr)
  case atStart => exact ⟨0, _, rfl, Nat.zero_le _, rfl, Owns.nil _, H10.out, Kept.refl _ _⟩
  case round =>
    obtain ⟨j, v, rfl, hj, rfl, hown, h5, hK⟩ := hrel
    have hz5 := heap_at h5
    have h9 := (hK.block W0.heap.size (by omega) (by omega)).trans H9.out
    have c5 : wr.cell? ⟨W0.heap.size + 1, 1, none⟩ = some v := cell_of_heap h5 1
    have c9 : wr.cell? ⟨W0.heap.size, 1, none⟩ = some (.slice ab bl.length cb) := cell_of_heap h9 1
    have HBr : Below w.heap.size w wr := HB1.trans ⟨hK.os, hK.tape, hK.output, hK.size, fun i hi => hK.block i (by omega) (by omega)⟩
    have hz9 := heap_at h9
    have H5r := Lib.hid h5
    clear h5 h9
    by_cases hlt : j < bl.length
    · obtain ⟨b', o', rfl, -, hb', hrows⟩ := Hrb.out (by omega)
      have hrow := (hrows j bl[j] (List.getElem?_eq_getElem hlt)).below HBr hb'
      obtain ⟨e0, e1, e2⟩ := hrow.three
      have Htk : Hid (bl.take (j + 1) = bl.take j ++ [bl[j]]) := Lib.hid (List.take_succ_eq_append_getElem hlt)
      have hlen : (bl.take j).length ≤ 1000 := by simp; omega
      have Hown := Lib.hid hown
      have hlt' : (j : Int) < (bl.length : Int) := by omega
      have hzb : b' < wr.heap.size := by have := HBr.size; omega
      clear hrows hrow hown
      generalize bl[j] = x at *
      generalize bl.take j = L at *
      obtain ⟨⟨lo, hi'⟩, rd⟩ := x
      obtain ⟨i0, hi, hy0, hy1, hy2⟩ := info_parts info_hblock
      have hbv : ∀ k, v.ownBlock = some k → W0.heap.size + 2 ≤ k := fun k hk => (Hown.out.lt k hk).1
      have hszr : W0.heap.size + 2 ≤ wr.heap.size := by have := hK.size; omega
      go_upto_region 90 with fail
      have HS : Hid (∀ W' : World, Kept (W0.heap.size + 1 ≤ ·) wr W' → (W'.cell? ⟨W0.heap.size, 1, none⟩ = some (.slice (some ⟨b', o', none⟩) bl.length cb) ∧ W'.cell? ⟨b', o' + j * 3, none⟩ = some (I lo) ∧ W'.cell? ⟨b', o' + j * 3 + 1, none⟩ = some (I hi') ∧ W'.cell? ⟨b', o' + j * 3 + 2, none⟩ = some (I rd))) := Lib.hid (fun W' hk =>
        ⟨(hk.cell (p := ⟨W0.heap.size, 1, none⟩) hz9 (by simp)).trans c9, (hk.cell (p := ⟨b', o' + j * 3, none⟩) hzb (by simp; omega)).trans e0, (hk.cell (p := ⟨b', o' + j * 3 + 1, none⟩) hzb (by simp; omega)).trans e1, (hk.cell (p := ⟨b', o' + j * 3 + 2, none⟩) hzb (by simp; omega)).trans e2⟩)
      clear c9 e0 e1 e2
      refine wp_region_noPanic ?_
      refine wp_region_held_drew (S := (fun W' => W'.cell? ⟨W0.heap.size, 1, none⟩ = some (.slice (some ⟨b', o', none⟩) bl.length cb) ∧ W'.cell? ⟨b', o' + j * 3, none⟩ = some (I lo) ∧ W'.cell? ⟨b', o' + j * 3 + 1, none⟩ = some (I hi') ∧ W'.cell? ⟨b', o' + j * 3 + 2, none⟩ = some (I rd))) (by kernel_rfl) ?_ (fun hHeld => ?_)
      case refine_1 =>
        refine HS.out _ ?_
        repeat (first
          | with_reducible assumption
          | with_reducible exact Kept.refl _ _
          | with_reducible refine Kept.drew ?_
          | with_reducible refine Kept.alloc ?_ _
          | with_reducible refine Kept.setCell ?_ ?_ _
          | (intro _; exact Nat.le_refl _)
          | (intro _; omega))
      refine wpAnyH_take (i := 0) (v := ?v0_1) rfl (by kernel_rfl) (by kernel_rfl) (by kernel_rfl) (fun _ _ _ h => h) (Or.inl ⟨by rfl, ?y0_1⟩) (by assumption) ?r0_1
      case y0_1 => (intro w hSw; (try dsimp only at hSw); go_simp; (try with_reducible rfl))
      try simp only [Act.put, List.setIfInBounds_toArray, List.set_cons_zero, List.set_cons_succ]
      refine wpAnyH_take (i := 2) (v := ?v2_2) rfl (by kernel_rfl) (by kernel_rfl) (by kernel_rfl) (fun _ _ _ h => h) (Or.inl ⟨by rfl, ?y2_2⟩) (by assumption) ?r2_2
      case y2_2 => (intro w hSw; (try dsimp only at hSw); go_simp; (try with_reducible rfl))
      try simp only [Act.put, List.setIfInBounds_toArray, List.set_cons_zero, List.set_cons_succ]
      refine wpAnyH_take (i := 3) (v := ?v3_3) rfl (by kernel_rfl) (by kernel_rfl) (by kernel_rfl) (fun _ _ _ h => h) (Or.inl ⟨by rfl, ?y3_3⟩) (by assumption) ?r3_3
      case y3_3 => (intro w hSw; (try dsimp only at hSw); go_simp; (try with_reducible rfl))
      try simp only [Act.put, List.setIfInBounds_toArray, List.set_cons_zero, List.set_cons_succ]
      refine wpAnyH_take (i := 4) (v := ?v4_4) rfl (by kernel_rfl) (by kernel_rfl) (by kernel_rfl) (fun _ _ _ h => h) (Or.inl ⟨by rfl, ?y4_4⟩) (by assumption) ?r4_4
      case y4_4 => (intro w hSw; (try dsimp only at hSw); go_simp; (try with_reducible rfl))
      try simp only [Act.put, List.setIfInBounds_toArray, List.set_cons_zero, List.set_cons_succ]
      refine wpAnyH_take (i := 5) (v := ?v5_5) rfl (by kernel_rfl) (by kernel_rfl) (by kernel_rfl) (fun _ _ _ h => h) (Or.inl ⟨by rfl, ?y5_5⟩) (by assumption) ?r5_5
      case y5_5 => (intro w hSw; (try dsimp only at hSw); go_simp; (try with_reducible rfl))
      try simp only [Act.put, List.setIfInBounds_toArray, List.set_cons_zero, List.set_cons_succ]
      refine wpAnyH_take (i := 6) (v := ?v6_6) rfl (by kernel_rfl) (by kernel_rfl) (by kernel_rfl) (fun _ _ _ h => h) (Or.inl ⟨by rfl, ?y6_6⟩) (by assumption) ?r6_6
      case y6_6 => (intro w hSw; (try dsimp only at hSw); go_simp; (try with_reducible rfl))
      try simp only [Act.put, List.setIfInBounds_toArray, List.set_cons_zero, List.set_cons_succ]
      refine wpAnyH_take (i := 7) (v := ?v7_7) rfl (by kernel_rfl) (by kernel_rfl) (by kernel_rfl) (fun _ _ _ h => h) (Or.inl ⟨by rfl, ?y7_7⟩) (by assumption) ?r7_7
      case y7_7 => (intro w hSw; (try dsimp only at hSw); go_simp; (try with_reducible rfl))
      try simp only [Act.put, List.setIfInBounds_toArray, List.set_cons_zero, List.set_cons_succ]
      refine wpAnyH_take (i := 9) (v := ?v9_8) rfl (by kernel_rfl) (by kernel_rfl) (by kernel_rfl) (fun _ _ _ h => h) (Or.inl ⟨by rfl, ?y9_8⟩) (by assumption) ?r9_8
      case y9_8 => (intro w hSw; (try dsimp only at hSw); go_simp; (try with_reducible rfl))
      try simp only [Act.put, List.setIfInBounds_toArray, List.set_cons_zero, List.set_cons_succ]
      refine wpAnyH_take (i := 10) (v := ?v10_9) rfl (by kernel_rfl) (by kernel_rfl) (by kernel_rfl) (fun _ _ _ h => h) (Or.inl ⟨by rfl, ?y10_9⟩) (by assumption) ?r10_9
      case y10_9 => (intro w hSw; (try dsimp only at hSw); go_simp; (try with_reducible rfl))
      try simp only [Act.put, List.setIfInBounds_toArray, List.set_cons_zero, List.set_cons_succ]
      refine wpAnyH_take (i := 11) (v := ?v11_10) rfl (by kernel_rfl) (by kernel_rfl) (by kernel_rfl) (fun _ _ _ h => h) (Or.inl ⟨by rfl, ?y11_10⟩) (by assumption) ?r11_10
      case y11_10 => (intro w hSw; (try dsimp only at hSw); go_simp; (try with_reducible rfl))
      try simp only [Act.put, List.setIfInBounds_toArray, List.set_cons_zero, List.set_cons_succ]
      refine wpAnyH_take (i := 12) (v := ?v12_11) rfl (by kernel_rfl) (by kernel_rfl) (by kernel_rfl) (fun _ _ _ h => h) (Or.inl ⟨by rfl, ?y12_11⟩) (by assumption) ?r12_11
      case y12_11 => (intro w hSw; (try dsimp only at hSw); go_simp; (try with_reducible rfl))
      try simp only [Act.put, List.setIfInBounds_toArray, List.set_cons_zero, List.set_cons_succ]
      refine wpAnyH_take (i := 13) (v := ?v13_12) rfl (by kernel_rfl) (by kernel_rfl) (by kernel_rfl) (fun _ _ _ h => h) (Or.inl ⟨by rfl, ?y13_12⟩) (by assumption) ?r13_12
      case y13_12 => (intro w hSw; (try dsimp only at hSw); go_simp; (try with_reducible rfl))
      try simp only [Act.put, List.setIfInBounds_toArray, List.set_cons_zero, List.set_cons_succ]
      refine wpAnyH_take (i := 14) (v := ?v14_13) rfl (by kernel_rfl) (by kernel_rfl) (by kernel_rfl) (fun _ _ _ h => h) (Or.inl ⟨by rfl, ?y14_13⟩) (by assumption) ?r14_13
      case y14_13 => (intro w hSw; (try dsimp only at hSw); go_simp; (try with_reducible rfl))
      try simp only [Act.put, List.setIfInBounds_toArray, List.set_cons_zero, List.set_cons_succ]
      refine wpAnyH_ready (rs := [1, 8]) (by kernel_rfl) (by simp) ?_
      refine AllReadyH.cons rfl (fun K hGo => ?_) ?_
      · skip
        go_simp
        refine hGo.out _ _ ?_ (fun hHeld => ?_)
        · refine HS.out _ ?_
          repeat (first
            | with_reducible assumption
            | with_reducible exact Kept.refl _ _
            | with_reducible refine Kept.drew ?_
            | with_reducible refine Kept.alloc ?_ _
            | with_reducible refine Kept.setCell ?_ ?_ _
            | (intro _; exact Nat.le_refl _)
            | (intro _; omega))
        try simp only [Act.put, List.setIfInBounds_toArray, List.set_cons_zero, List.set_cons_succ]
        refine wpAnyH_ready (rs := [8]) (by kernel_rfl) (by simp) ?_
        refine AllReadyH.cons rfl (fun K hGo => ?_) ?_
        · skip
          go_simp
          go_at_call 35
          refine (to_any ⟨lo, hi'⟩ _).mono ?_
          rintro e w1 ⟨rfl, hB⟩
          have d5 : w1.cell? ⟨W0.heap.size + 1, 1, none⟩ = some v := (hB.cell (p := ⟨W0.heap.size + 1, 1, none⟩) hz5).trans c5
          have hzB := hB.size
          simp only [size_drew] at hzB
          have y5 : W0.heap.size + 1 < w1.heap.size := by omega
          have hk1 : Kept (W0.heap.size + 1 ≤ ·) wr w1 := (Kept.refl _ wr).drew.trans (Kept.below hB)
          refine hGo.out _ _ ?_ (fun hHeld => ?_)
          · refine HS.out _ ?_
            repeat (first
              | with_reducible assumption
              | with_reducible exact Kept.refl _ _
              | with_reducible refine Kept.drew ?_
              | with_reducible refine Kept.alloc ?_ _
              | with_reducible refine Kept.setCell ?_ ?_ _
              | (intro _; exact Nat.le_refl _)
              | (intro _; omega))
          try simp only [Act.put, List.setIfInBounds_toArray, List.set_cons_zero, List.set_cons_succ]
          refine wpAnyH_take (i := 15) (v := ?v15_16) rfl (by kernel_rfl) (by kernel_rfl) (by kernel_rfl) (fun _ _ _ h => h) (Or.inl ⟨by rfl, ?y15_16⟩) (by assumption) ?r15_16
          case y15_16 => (intro w hSw; (try dsimp only at hSw); go_simp; (try with_reducible rfl))
          try simp only [Act.put, List.setIfInBounds_toArray, List.set_cons_zero, List.set_cons_succ]
          refine wpAnyH_ready (rs := [16]) (by kernel_rfl) (by simp) ?_
          refine AllReadyH.cons rfl (fun K hGo => ?_) ?_
          · skip
            go_simp
            refine hGo.out _ _ ?_ (fun hHeld => ?_)
            · refine HS.out _ ?_
              repeat (first
                | with_reducible assumption
                | with_reducible exact Kept.refl _ _
                | with_reducible refine Kept.drew ?_
                | with_reducible refine Kept.alloc ?_ _
                | with_reducible refine Kept.setCell ?_ ?_ _
                | (intro _; exact Nat.le_refl _)
                | (intro _; omega))
            try simp only [Act.put, List.setIfInBounds_toArray, List.set_cons_zero, List.set_cons_succ]
            refine wpAnyH_ready (rs := [17]) (by kernel_rfl) (by simp) ?_
            refine AllReadyH.cons rfl (fun K hGo => ?_) ?_
            · skip
              refine step_append_lies _ (by rfl) _ _ _ (by rfl) (W0.heap.size + 2) 106 i0 _ 3 24 Tryz.underlying107 hi hy0 hy1 hy2 rfl (by omega) v L.length (L.flatMap Block.cells) (by rfl) (World.ownsRow.alloc (Hown.out.below ((Below.refl _ wr).drew.trans hB)) _) ⟨w1.heap.size, 0, none⟩ 1 1 [I lo, I hi', I rd] (by rfl) (by rfl) (World.news_of_block (cs := #[I lo, I hi', I rd]) (t := 106) (fr := (0, 0)) (heap_new w1 _ rfl)) (by simp [Value.oneCell']) (by omega) (by unfold maxLen; omega) (by omega) (by simp; omega) (w1.heap.size + 1) (by simp) ?_
              intro gg cap w2 hown2 hgrow hat hlt2
              have hb2 : w2.heap[W0.heap.size + 1]? = some (.cells #[I 0, v] 109 (0, 0)) := (hgrow.block _ (by simp; omega) (fun h => by have := hbv _ h.symm; omega)).trans ((heap_old w1 _ (by omega)).trans ((hB.block _ hz5).trans H5r.out))
              have hc2 : w2.cell? ⟨W0.heap.size + 1, 1, none⟩ = some v := cell_of_heap hb2 1
              have hf2 := free_of_heap hb2 1
              have hk2 : Kept (W0.heap.size + 1 ≤ ·) wr w2 := (hk1.alloc _).trans ((grown_kept hgrow).mono (fun i _ h => by have := hbv _ h.symm; omega))
              refine hGo.out _ _ ?_ (fun hHeld => ?_)
              · refine HS.out _ ?_
                repeat (first
                  | with_reducible assumption
                  | with_reducible exact Kept.refl _ _
                  | with_reducible refine Kept.drew ?_
                  | with_reducible refine Kept.alloc ?_ _
                  | with_reducible refine Kept.setCell ?_ ?_ _
                  | (intro _; exact Nat.le_refl _)
                  | (intro _; omega))
              try simp only [Act.put, List.setIfInBounds_toArray, List.set_cons_zero, List.set_cons_succ]
              refine wpAnyH_take (i := 18) (v := ?v18_19) rfl (by kernel_rfl) (by kernel_rfl) (by kernel_rfl) (fun _ _ _ h => h) (Or.inl ⟨by rfl, ?y18_19⟩) (by assumption) ?r18_19
              case y18_19 => (intro w hSw; (try dsimp only at hSw); go_simp; (try with_reducible rfl))
              try simp only [Act.put, List.setIfInBounds_toArray, List.set_cons_zero, List.set_cons_succ]
              refine wpAnyH_ready (rs := [19]) (by kernel_rfl) (by simp) ?_
              refine AllReadyH.cons rfl (fun K hGo => ?_) ?_
              · skip
                go_simp
                refine hGo.out _ _ ?_ (fun hHeld => ?_)
                · refine HS.out _ ?_
                  repeat (first
                    | with_reducible assumption
                    | with_reducible exact Kept.refl _ _
                    | with_reducible refine Kept.drew ?_
                    | with_reducible refine Kept.alloc ?_ _
                    | with_reducible refine Kept.setCell ?_ ?_ _
                    | (intro _; exact Nat.le_refl _)
                    | (intro _; omega))
                try simp only [Act.put, List.setIfInBounds_toArray, List.set_cons_zero, List.set_cons_succ]
                refine wpAnyH_done (by kernel_rfl) ?_ _
                try simp only [Act.put, List.setIfInBounds_toArray, List.set_cons_zero, List.set_cons_succ]
                refine NoPanic.normal ?_
                go_wp2_with fail
                go_roundg (bl.length - (j + 1))
                case measure => omega
                case rel =>
                  have hk5 : Kept (fun i => some i = v.ownBlock) wr w2 := (((Kept.refl _ wr).drew.trans (Kept.below hB)).alloc _).trans (grown_kept hgrow)
                  refine ⟨j + 1, .slice (some ⟨gg, 0, none⟩) (L.length + 1) cap, rfl, by omega, by go_num, ?_, ?_, kept_append hK hk5 (fun k hk => by have := hbv k hk; omega) 1 _⟩
                  · rw [Htk.out]
                    exact Owns.setCell_below (Owns.of_snoc hown2 (by simp) rfl) (by omega) _ _
                  · rw [setCell_heap hb2 1 _]; rfl
              exact AllReadyH.nil
            exact AllReadyH.nil
          exact AllReadyH.nil
        exact AllReadyH.nil
      refine AllReadyH.cons rfl (fun K hGo => ?_) ?_
      · skip
        go_simp
        go_at_call 35
        refine (to_any ⟨lo, hi'⟩ _).mono ?_
        rintro e w1 ⟨rfl, hB⟩
        have d5 : w1.cell? ⟨W0.heap.size + 1, 1, none⟩ = some v := (hB.cell (p := ⟨W0.heap.size + 1, 1, none⟩) hz5).trans c5
        have hzB := hB.size
        simp only [size_drew] at hzB
        have y5 : W0.heap.size + 1 < w1.heap.size := by omega
        have hk1 : Kept (W0.heap.size + 1 ≤ ·) wr w1 := (Kept.refl _ wr).drew.trans (Kept.below hB)
        refine hGo.out _ _ ?_ (fun hHeld => ?_)
        · refine HS.out _ ?_
          repeat (first
            | with_reducible assumption
            | with_reducible exact Kept.refl _ _
            | with_reducible refine Kept.drew ?_
            | with_reducible refine Kept.alloc ?_ _
            | with_reducible refine Kept.setCell ?_ ?_ _
            | (intro _; exact Nat.le_refl _)
            | (intro _; omega))
        try simp only [Act.put, List.setIfInBounds_toArray, List.set_cons_zero, List.set_cons_succ]
        refine wpAnyH_take (i := 15) (v := ?v15_22) rfl (by kernel_rfl) (by kernel_rfl) (by kernel_rfl) (fun _ _ _ h => h) (Or.inl ⟨by rfl, ?y15_22⟩) (by assumption) ?r15_22
        case y15_22 => (intro w hSw; (try dsimp only at hSw); go_simp; (try with_reducible rfl))
        try simp only [Act.put, List.setIfInBounds_toArray, List.set_cons_zero, List.set_cons_succ]
        refine wpAnyH_ready (rs := [1, 16]) (by kernel_rfl) (by simp) ?_
        refine AllReadyH.cons rfl (fun K hGo => ?_) ?_
        · skip
          go_simp
          refine hGo.out _ _ ?_ (fun hHeld => ?_)
          · refine HS.out _ ?_
            repeat (first
              | with_reducible assumption
              | with_reducible exact Kept.refl _ _
              | with_reducible refine Kept.drew ?_
              | with_reducible refine Kept.alloc ?_ _
              | with_reducible refine Kept.setCell ?_ ?_ _
              | (intro _; exact Nat.le_refl _)
              | (intro _; omega))
          try simp only [Act.put, List.setIfInBounds_toArray, List.set_cons_zero, List.set_cons_succ]
          refine wpAnyH_ready (rs := [16]) (by kernel_rfl) (by simp) ?_
          refine AllReadyH.cons rfl (fun K hGo => ?_) ?_
          · skip
            go_simp
            refine hGo.out _ _ ?_ (fun hHeld => ?_)
            · refine HS.out _ ?_
              repeat (first
                | with_reducible assumption
                | with_reducible exact Kept.refl _ _
                | with_reducible refine Kept.drew ?_
                | with_reducible refine Kept.alloc ?_ _
                | with_reducible refine Kept.setCell ?_ ?_ _
                | (intro _; exact Nat.le_refl _)
                | (intro _; omega))
            try simp only [Act.put, List.setIfInBounds_toArray, List.set_cons_zero, List.set_cons_succ]
            refine wpAnyH_ready (rs := [17]) (by kernel_rfl) (by simp) ?_
            refine AllReadyH.cons rfl (fun K hGo => ?_) ?_
            · skip
              refine step_append_lies _ (by rfl) _ _ _ (by rfl) (W0.heap.size + 2) 106 i0 _ 3 24 Tryz.underlying107 hi hy0 hy1 hy2 rfl (by omega) v L.length (L.flatMap Block.cells) (by rfl) (World.ownsRow.alloc (Hown.out.below ((Below.refl _ wr).drew.trans hB)) _) ⟨w1.heap.size, 0, none⟩ 1 1 [I lo, I hi', I rd] (by rfl) (by rfl) (World.news_of_block (cs := #[I lo, I hi', I rd]) (t := 106) (fr := (0, 0)) (heap_new w1 _ rfl)) (by simp [Value.oneCell']) (by omega) (by unfold maxLen; omega) (by omega) (by simp; omega) (w1.heap.size + 1) (by simp) ?_
              intro gg cap w2 hown2 hgrow hat hlt2
              have hb2 : w2.heap[W0.heap.size + 1]? = some (.cells #[I 0, v] 109 (0, 0)) := (hgrow.block _ (by simp; omega) (fun h => by have := hbv _ h.symm; omega)).trans ((heap_old w1 _ (by omega)).trans ((hB.block _ hz5).trans H5r.out))
              have hc2 : w2.cell? ⟨W0.heap.size + 1, 1, none⟩ = some v := cell_of_heap hb2 1
              have hf2 := free_of_heap hb2 1
              have hk2 : Kept (W0.heap.size + 1 ≤ ·) wr w2 := (hk1.alloc _).trans ((grown_kept hgrow).mono (fun i _ h => by have := hbv _ h.symm; omega))
              refine hGo.out _ _ ?_ (fun hHeld => ?_)
              · refine HS.out _ ?_
                repeat (first
                  | with_reducible assumption
                  | with_reducible exact Kept.refl _ _
                  | with_reducible refine Kept.drew ?_
                  | with_reducible refine Kept.alloc ?_ _
                  | with_reducible refine Kept.setCell ?_ ?_ _
                  | (intro _; exact Nat.le_refl _)
                  | (intro _; omega))
              try simp only [Act.put, List.setIfInBounds_toArray, List.set_cons_zero, List.set_cons_succ]
              refine wpAnyH_take (i := 18) (v := ?v18_26) rfl (by kernel_rfl) (by kernel_rfl) (by kernel_rfl) (fun _ _ _ h => h) (Or.inl ⟨by rfl, ?y18_26⟩) (by assumption) ?r18_26
              case y18_26 => (intro w hSw; (try dsimp only at hSw); go_simp; (try with_reducible rfl))
              try simp only [Act.put, List.setIfInBounds_toArray, List.set_cons_zero, List.set_cons_succ]
              refine wpAnyH_ready (rs := [19]) (by kernel_rfl) (by simp) ?_
              refine AllReadyH.cons rfl (fun K hGo => ?_) ?_
              · skip
                go_simp
                refine hGo.out _ _ ?_ (fun hHeld => ?_)
                · refine HS.out _ ?_
                  repeat (first
                    | with_reducible assumption
                    | with_reducible exact Kept.refl _ _
                    | with_reducible refine Kept.drew ?_
                    | with_reducible refine Kept.alloc ?_ _
                    | with_reducible refine Kept.setCell ?_ ?_ _
                    | (intro _; exact Nat.le_refl _)
                    | (intro _; omega))
                try simp only [Act.put, List.setIfInBounds_toArray, List.set_cons_zero, List.set_cons_succ]
                refine wpAnyH_done (by kernel_rfl) ?_ _
                try simp only [Act.put, List.setIfInBounds_toArray, List.set_cons_zero, List.set_cons_succ]
                refine NoPanic.normal ?_
                go_wp2_with fail
                go_roundg (bl.length - (j + 1))
                case measure => omega
                case rel =>
                  have hk5 : Kept (fun i => some i = v.ownBlock) wr w2 := (((Kept.refl _ wr).drew.trans (Kept.below hB)).alloc _).trans (grown_kept hgrow)
                  refine ⟨j + 1, .slice (some ⟨gg, 0, none⟩) (L.length + 1) cap, rfl, by omega, by go_num, ?_, ?_, kept_append hK hk5 (fun k hk => by have := hbv k hk; omega) 1 _⟩
                  · rw [Htk.out]
                    exact Owns.setCell_below (Owns.of_snoc hown2 (by simp) rfl) (by omega) _ _
                  · rw [setCell_heap hb2 1 _]; rfl
              exact AllReadyH.nil
            exact AllReadyH.nil
          exact AllReadyH.nil
        refine AllReadyH.cons rfl (fun K hGo => ?_) ?_
        · skip
          go_simp
          refine hGo.out _ _ ?_ (fun hHeld => ?_)
          · refine HS.out _ ?_
            repeat (first
              | with_reducible assumption
              | with_reducible exact Kept.refl _ _
              | with_reducible refine Kept.drew ?_
              | with_reducible refine Kept.alloc ?_ _
              | with_reducible refine Kept.setCell ?_ ?_ _
              | (intro _; exact Nat.le_refl _)
              | (intro _; omega))
          try simp only [Act.put, List.setIfInBounds_toArray, List.set_cons_zero, List.set_cons_succ]
          refine wpAnyH_ready (rs := [1]) (by kernel_rfl) (by simp) ?_
          refine AllReadyH.cons rfl (fun K hGo => ?_) ?_
          · skip
            go_simp
            refine hGo.out _ _ ?_ (fun hHeld => ?_)
            · refine HS.out _ ?_
              repeat (first
                | with_reducible assumption
                | with_reducible exact Kept.refl _ _
                | with_reducible refine Kept.drew ?_
                | with_reducible refine Kept.alloc ?_ _
                | with_reducible refine Kept.setCell ?_ ?_ _
                | (intro _; exact Nat.le_refl _)
                | (intro _; omega))
            try simp only [Act.put, List.setIfInBounds_toArray, List.set_cons_zero, List.set_cons_succ]
            refine wpAnyH_ready (rs := [17]) (by kernel_rfl) (by simp) ?_
            refine AllReadyH.cons rfl (fun K hGo => ?_) ?_
            · skip
              refine step_append_lies _ (by rfl) _ _ _ (by rfl) (W0.heap.size + 2) 106 i0 _ 3 24 Tryz.underlying107 hi hy0 hy1 hy2 rfl (by omega) v L.length (L.flatMap Block.cells) (by rfl) (World.ownsRow.alloc (Hown.out.below ((Below.refl _ wr).drew.trans hB)) _) ⟨w1.heap.size, 0, none⟩ 1 1 [I lo, I hi', I rd] (by rfl) (by rfl) (World.news_of_block (cs := #[I lo, I hi', I rd]) (t := 106) (fr := (0, 0)) (heap_new w1 _ rfl)) (by simp [Value.oneCell']) (by omega) (by unfold maxLen; omega) (by omega) (by simp; omega) (w1.heap.size + 1) (by simp) ?_
              intro gg cap w2 hown2 hgrow hat hlt2
              have hb2 : w2.heap[W0.heap.size + 1]? = some (.cells #[I 0, v] 109 (0, 0)) := (hgrow.block _ (by simp; omega) (fun h => by have := hbv _ h.symm; omega)).trans ((heap_old w1 _ (by omega)).trans ((hB.block _ hz5).trans H5r.out))
              have hc2 : w2.cell? ⟨W0.heap.size + 1, 1, none⟩ = some v := cell_of_heap hb2 1
              have hf2 := free_of_heap hb2 1
              have hk2 : Kept (W0.heap.size + 1 ≤ ·) wr w2 := (hk1.alloc _).trans ((grown_kept hgrow).mono (fun i _ h => by have := hbv _ h.symm; omega))
              refine hGo.out _ _ ?_ (fun hHeld => ?_)
              · refine HS.out _ ?_
                repeat (first
                  | with_reducible assumption
                  | with_reducible exact Kept.refl _ _
                  | with_reducible refine Kept.drew ?_
                  | with_reducible refine Kept.alloc ?_ _
                  | with_reducible refine Kept.setCell ?_ ?_ _
                  | (intro _; exact Nat.le_refl _)
                  | (intro _; omega))
              try simp only [Act.put, List.setIfInBounds_toArray, List.set_cons_zero, List.set_cons_succ]
              refine wpAnyH_take (i := 18) (v := ?v18_31) rfl (by kernel_rfl) (by kernel_rfl) (by kernel_rfl) (fun _ _ _ h => h) (Or.inl ⟨by rfl, ?y18_31⟩) (by assumption) ?r18_31
              case y18_31 => (intro w hSw; (try dsimp only at hSw); go_simp; (try with_reducible rfl))
              try simp only [Act.put, List.setIfInBounds_toArray, List.set_cons_zero, List.set_cons_succ]
              refine wpAnyH_ready (rs := [19]) (by kernel_rfl) (by simp) ?_
              refine AllReadyH.cons rfl (fun K hGo => ?_) ?_
              · skip
                go_simp
                refine hGo.out _ _ ?_ (fun hHeld => ?_)
                · refine HS.out _ ?_
                  repeat (first
                    | with_reducible assumption
                    | with_reducible exact Kept.refl _ _
                    | with_reducible refine Kept.drew ?_
                    | with_reducible refine Kept.alloc ?_ _
                    | with_reducible refine Kept.setCell ?_ ?_ _
                    | (intro _; exact Nat.le_refl _)
                    | (intro _; omega))
                try simp only [Act.put, List.setIfInBounds_toArray, List.set_cons_zero, List.set_cons_succ]
                refine wpAnyH_done (by kernel_rfl) ?_ _
                try simp only [Act.put, List.setIfInBounds_toArray, List.set_cons_zero, List.set_cons_succ]
                refine NoPanic.normal ?_
                go_wp2_with fail
                go_roundg (bl.length - (j + 1))
                case measure => omega
                case rel =>
                  have hk5 : Kept (fun i => some i = v.ownBlock) wr w2 := (((Kept.refl _ wr).drew.trans (Kept.below hB)).alloc _).trans (grown_kept hgrow)
                  refine ⟨j + 1, .slice (some ⟨gg, 0, none⟩) (L.length + 1) cap, rfl, by omega, by go_num, ?_, ?_, kept_append hK hk5 (fun k hk => by have := hbv k hk; omega) 1 _⟩
                  · rw [Htk.out]
                    exact Owns.setCell_below (Owns.of_snoc hown2 (by simp) rfl) (by omega) _ _
                  · rw [setCell_heap hb2 1 _]; rfl
              exact AllReadyH.nil
            exact AllReadyH.nil
          exact AllReadyH.nil
        exact AllReadyH.nil
      exact AllReadyH.nil
    · obtain rfl : j = bl.length := by omega
      rw [List.take_length] at hown
      obtain ⟨av, cv, rfl⟩ := hown.form
      have hkp : ∀ i, i < W0.heap.size → wr.heap[i]? = W0.heap[i]? := fun i hi => (hK.block i (by omega) (by omega)).trans (hB1.block i hi)
      have h1 := (hkp w.heap.size (by omega)).trans H1.out
      have h3 := (hkp (w.heap.size + 1 + 1) (by omega)).trans H3.out
      obtain ⟨u0, u1, u2, h2'⟩ := H2.out
      have h2 := (hkp (w.heap.size + 1) (by omega)).trans h2'
      have c3 : wr.cell? ⟨w.heap.size + 1 + 1, 2, none⟩ = some (.slice none 0 0) := cell_of_heap h3 2
      have a0 : wr.cell? ⟨W0.heap.size + 1, 0, none⟩ = some (I 0) := cell_of_heap H5r.out 0
      have a1 : wr.cell? ⟨W0.heap.size + 1, 1, none⟩ = some (.slice av bl.length cv) := cell_of_heap H5r.out 1
      have Hown := Lib.hid hown
      have G1 := Lib.hid h1
      have G2 := Lib.hid h2
      have G3 := Lib.hid h3
      have zr : w.heap.size + 3 ≤ wr.heap.size := by omega
      obtain ⟨i0, hi, hy0, hy1, hy2⟩ := info_parts info_hmach
      clear hkp h1 h2 h2' h3 hown c5
      go_wp2_with (at_builtin; refine wpList_append_lies _ rfl _ _ 55 rfl wr.heap.size 109 i0 _ 2 32 Tryz.underlying55 hi hy0 hy1 hy2 rfl (by decide) (.slice none 0 0) 0 [] rfl (World.ownsRow.alloc (World.ownsRow_nil wr wr.heap.size 109 2) _) ⟨wr.heap.size, 0, none⟩ 1 1 [I 0, .slice av bl.length cv] rfl rfl ?c1 ?c2 ?c3 ?c4 ?c5 ?c6 (wr.heap.size + 1) ?c7 ?_)
      case c1 => exact World.news_of_block (cs := #[I 0, .slice av bl.length cv]) (t := 109) (fr := (0, 0)) (heap_new wr _ rfl)
      case c2 => simp [Value.oneCell']
      case c3 => omega
      case c4 => unfold maxLen; omega
      case c5 => omega
      case c6 => simp
      case c7 => simp
      intro gg cap w5 hown5 hgrow hat hlt5
      have hkq : ∀ i, i < wr.heap.size → w5.heap[i]? = wr.heap[i]? := fun i hi => (hgrow.block i (by simp; omega) (fun h => by simp [Value.ownBlock] at h)).trans (heap_old wr _ hi)
      have g1 := (hkq _ (heap_at G1.out)).trans G1.out
      have g2 := (hkq _ (heap_at G2.out)).trans G2.out
      have g3 := (hkq _ (heap_at G3.out)).trans G3.out
      have n12 : w5.cell? ⟨w.heap.size, 2, none⟩ = some (.slice (some ⟨b, o, none⟩) 1 c) := cell_of_heap g1 2
      have n20 : w5.cell? ⟨w.heap.size + 1, 0, none⟩ = some u0 := cell_of_heap g2 0
      have n21 : w5.cell? ⟨w.heap.size + 1, 1, none⟩ = some u1 := cell_of_heap g2 1
      have n22 : w5.cell? ⟨w.heap.size + 1, 2, none⟩ = some u2 := cell_of_heap g2 2
      have f20 := free_of_heap g2 0
      have f21 := free_of_heap g2 1
      have f22 := free_of_heap g2 2
      have n30 : w5.cell? ⟨w.heap.size + 1 + 1, 0, none⟩ = some (I 1) := cell_of_heap g3 0
      have n31 : w5.cell? ⟨w.heap.size + 1 + 1, 1, none⟩ = some (.slice none 0 0) := cell_of_heap g3 1
      have n32 : w5.cell? ⟨w.heap.size + 1 + 1, 2, none⟩ = some (.slice none 0 0) := cell_of_heap g3 2
      have f32 := free_of_heap g3 2
      have Hown5 := Lib.hid hown5
      have G2b := Lib.hid g2
      have hszg : wr.heap.size ≤ w5.heap.size := by have := hgrow.size; simp at this; omega
      have HB5 : Kept (fun i => False) wr w5 := ((Kept.refl _ wr).alloc _).trans ((grown_kept hgrow).mono (fun i _ h => by simp [Value.ownBlock] at h))
      clear hown5 g1 g2 g3 a0 a1 c3 c9 hkq
      go_wp2_with fail
      rw [rounds_succ]
      go_wp2_with fail
      refine name_post (Q := bodyPost _ _ _) ?_
      intro W9 h9
      have G := setCell_heap (setCell_heap (setCell_heap ((heap_setCellk w5 (w.heap.size + 1 + 1) 2 (.slice (some ⟨gg, 0, none⟩) 1 cap) (w.heap.size + 1) (by omega)).trans G2b.out) 0 (I 1)) 1 (.slice none 0 0)) 2 (.slice (some ⟨gg, 0, none⟩) 1 cap)
      rw [← h9] at G
      have r0 := cell_of_heap G 0
      have r1 := cell_of_heap G 1
      have r2 := cell_of_heap G 2
      have hM : Owns Mach.cells 2 wr.heap.size 109 w5 (.slice (some ⟨gg, 0, none⟩) 1 cap) [⟨0, .slice av bl.length cv, bl⟩] := Hown5.out
      have hM9 : Owns Mach.cells 2 wr.heap.size 109 W9 (.slice (some ⟨gg, 0, none⟩) 1 cap) [⟨0, .slice av bl.length cv, bl⟩] := by
        rw [h9]; exact (((hM.setCell_below (by omega) _ _).setCell_below (by omega) _ _).setCell_below (by omega) _ _).setCell_below (by omega) _ _
      have hI9 : Owns Block.cells 3 (W0.heap.size + 2) 106 W9 (.slice av bl.length cv) bl := by
        rw [h9]; exact ((((Hown.out.below HB5.to_below).setCell_below (by omega) _ _).setCell_below (by omega) _ _).setCell_below (by omega) _ _).setCell_below (by omega) _ _
      have hT : ∀ k, (fun b => wr.heap.size ≤ b) k → k < W9.heap.size → (fun _ => True) k := fun _ _ _ => trivial
      refine bodyPost_ret (v := .agg #[I 1, .slice none 0 0, .slice (some ⟨gg, 0, none⟩) 1 cap]) (by simp [results, Tryz.results12, go_sem, r0, r1, r2]) rfl ⟨_, _, rfl, ⟨SliceIs.nil _ _, ⟨_, (hM9.read (fun _ => rfl) (by decide)).mono (fun _ _ _ => trivial), (hI9.read (fun _ => rfl) (by decide)).mono (fun _ _ _ => trivial)⟩, hl, hf⟩, ?_⟩
      rw [h9]
      exact ((((HBr.trans (HB5.to_below.mono HBr.size)).setCell (p := ⟨w.heap.size + 1 + 1, 2, none⟩) (show _ ≤ w.heap.size + 1 + 1 by omega) _).setCell (p := ⟨w.heap.size + 1, 0, none⟩) (show _ ≤ w.heap.size + 1 by omega) _).setCell (p := ⟨w.heap.size + 1, 1, none⟩) (show _ ≤ w.heap.size + 1 by omega) _).setCell (p := ⟨w.heap.size + 1, 2, none⟩) (show _ ≤ w.heap.size + 1 by omega) _
end Go.Proofs.YthcolbjbafilcaaGreat
