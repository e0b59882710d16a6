/-
  The statements' Book: a book of the reference's kind as one of the package.
-/
import Derived.Test.YthcolbjbafilcaaGreatRefD
set_option linter.unusedSimpArgs false
set_option linter.unusedVariables false
namespace Go.Proofs.YthcolbjbafilcaaGreat
open Go.RowKit Go.Shelf Go.Sort
attribute [local go_sem] Oper.semAt_some

theorem info_citem : (Tryz.prog.info? 100).map (fun i => (i.zero, i.size, i.bytes)) = some (some (.agg #[I 0, .bool false, I 0, I 0]), 4, 32) := by kernel_rfl
theorem info_ccert : (Tryz.prog.info? 171).map (fun i => (i.zero, i.size, i.bytes)) = some (some (.agg #[I 0, I 0, I 0, I 0, I 0, I 0, I 0]), 7, 56) := by kernel_rfl
def L02Post (items : List Item) (certs : List Cert) (w : World) (e : Ending) (w' : World) : Prop :=
  ∃ v u, e = .returned (.agg #[v, u]) ∧ ItemsIs (w.heap.size ≤ ·) w' v items ∧ CertsIs (w.heap.size ≤ ·) w' u certs ∧ Below w.heap.size w w'
set_option maxRecDepth 100000 in
set_option maxHeartbeats 4000000 in
theorem lbook_any (ok oki : Nat → Prop) (vi vc : Value) (items : List Item) (certs : List Cert) (w : World) (hil : items.length ≤ 1000) (hcl : certs.length ≤ 1000) (hi : ItemsIs oki w vi items) (hc : CertsIs ok w vc certs) :
    Calls Tryz.prog 28 #[.agg #[vi, vc]] w (L02Post items certs w) := by
  obtain ⟨ai, ci, rfl, hci, hri⟩ := hi
  obtain ⟨ac, cc, rfl, hcc, hrc⟩ := hc
  go_enter Tryz.func28, Tryz.ntmps28
  go_wp2_with fail
  refine name_world ?_
  intro W0 hW0
  have hB0 : Below w.heap.size w W0 := by rw [hW0]; exact below_alloc3 _ _ _ _
  have h1 : W0.heap[w.heap.size]? = some (.cells #[.slice ai items.length ci, .slice ac certs.length cc] 25 (0, 0)) := by rw [hW0]; exact (heap_old _ _ (by simp; omega)).trans ((heap_old _ _ (by simp)).trans (heap_new _ _ rfl))
  have h2 : ∃ u0 u1, W0.heap[w.heap.size + 1]? = some (.cells #[u0, u1] 104 (0, 0)) := ⟨_, _, by rw [hW0]; exact (heap_old _ _ (by simp)).trans (heap_new _ _ (by simp))⟩
  have h3 : W0.heap[w.heap.size + 1 + 1]? = some (.cells #[.slice none 0 0, .slice none 0 0] 104 (0, 0)) := by rw [hW0]; exact heap_new _ _ (by simp)
  have hz : W0.heap.size = w.heap.size + 3 := by rw [hW0]; simp
  clear hW0
  have hz' : w.heap.size + 3 ≤ W0.heap.size := by omega
  have hz'' : W0.heap.size ≤ w.heap.size + 3 := by omega
  have H1 := Lib.hid h1
  have H2 := Lib.hid h2
  have H3 := Lib.hid h3
  clear hz h1 h2 h3
  go_loopg [4] items.length (fun g i wr => ∃ (j : Nat) (v : Value), g = items.length - j ∧ j ≤ items.length ∧ i = I j ∧ Owns Item.cells 4 (w.heap.size + 3) 100 wr v (items.take j) ∧ wr.heap[w.heap.size + 1 + 1]? = some (.cells #[v, .slice none 0 0] 104 (0, 0)) ∧ Kept (· = w.heap.size + 1 + 1) W0 wr)
  case atStart => exact ⟨0, _, rfl, Nat.zero_le _, rfl, Owns.nil _, H3.out, Kept.refl _ _⟩
  case round =>
    obtain ⟨j, v, rfl, hj, rfl, hown, h6, hK⟩ := hrel
    have hz6 := heap_at h6
    have h2 := (hK.block w.heap.size (by omega) (by omega)).trans H1.out
    have c0 : wr.cell? ⟨w.heap.size, 0, none⟩ = some (.slice ai items.length ci) := cell_of_heap h2 0
    have HBr : Below w.heap.size w wr := hB0.trans ⟨hK.os, hK.tape, hK.output, hK.size, fun i hi => hK.block i (by omega) (by omega)⟩
    have H6r := Lib.hid h6
    have H2r := Lib.hid h2
    clear h2 h6
    by_cases hlt : j < items.length
    · obtain ⟨b, o, rfl, -, hb, hrows⟩ := hri (by omega)
      have hrow := (hrows j items[j] (List.getElem?_eq_getElem hlt)).below HBr hb
      obtain ⟨e0, e1, e2, e3⟩ := hrow.four
      have Htk : Hid (items.take (j + 1) = items.take j ++ [items[j]]) := Lib.hid (List.take_succ_eq_append_getElem hlt)
      have hlen : (items.take j).length ≤ 1000 := by simp; omega
      have Hown := Lib.hid hown
      have hlt' : (j : Int) < (items.length : Int) := by omega
      have hzb : b < wr.heap.size := by have := HBr.size; omega
      clear hrows hri hrow hown
      generalize items[j] = x at *
      generalize items.take j = L at *
      obtain ⟨dr, st, ⟨lo, hi'⟩⟩ := x
      have hBr4 : Below wr.heap.size wr (wr.alloc (.cells #[I dr, .bool st, I lo, I hi'] 91 (0, 0))) := below_alloc _ _
      have h6 := H6r.out
      have c61 : wr.cell? ⟨w.heap.size + 1 + 1, 0, none⟩ = some v := cell_of_heap h6 0
      have H6b := Lib.hid h6
      have hz64 := heap_at h6
      have Hown4 : Hid (Owns Item.cells 4 (w.heap.size + 3) 100 (wr.alloc (.cells #[I dr, .bool st, I lo, I hi'] 91 (0, 0))) v L) := Lib.hid (Hown.out.below hBr4)
      have hbv : ∀ k, v.ownBlock = some k → w.heap.size + 3 ≤ k := fun k hk => (Hown.out.lt k hk).1
      have hszr : w.heap.size + 3 ≤ wr.heap.size := by have := hK.size; omega
      obtain ⟨i0, hi, hz0, hz1, hz2⟩ := info_parts info_citem
      clear h6
      go_wp2_with (at_builtin; refine wpList_append_lies _ rfl _ _ 101 rfl (w.heap.size + 3) 100 i0 _ 4 32 Tryz.underlying101 hi hz0 hz1 hz2 rfl (by decide) v L.length (L.flatMap Item.cells) rfl (World.ownsRow.alloc Hown4.out _) ⟨wr.heap.size + 1, 0, none⟩ 1 1 [I dr, .bool st, I lo, I hi'] rfl rfl ?c1 ?c2 ?c3 ?c4 ?c5 ?c6 (wr.heap.size + 1 + 1) ?c7 ?_)
      case c2 => simp [Value.oneCell']
      case c4 => unfold maxLen; omega
      case c5 => omega
      case c6 => first | omega | (simp; omega)
      intro gg cap w5 hown5 hgrow hat hlt5
      have hb5 : w5.heap[w.heap.size + 1 + 1]? = some (.cells #[v, .slice none 0 0] 104 (0, 0)) := (hgrow.block _ (by simp; omega) (fun h => by have := hbv _ h.symm; omega)).trans (((heap_old _ _ (by simp; omega)).trans (heap_old _ _ hz64)).trans H6b.out)
      have hc5 : w5.cell? ⟨w.heap.size + 1 + 1, 0, none⟩ = some v := cell_of_heap hb5 0
      have hf5 := free_of_heap hb5 0
      have Hown5 := Lib.hid hown5
      have Hb5 := Lib.hid hb5
      have hK5 : Kept (fun i => some i = v.ownBlock) wr w5 := ((Kept.below hBr4).alloc _).trans (grown_kept hgrow)
      clear hown5 hb5 c61
      go_wp2_with fail
      go_roundg (items.length - (j + 1))
      case measure => omega
      case rel =>
        refine ⟨j + 1, .slice (some ⟨gg, 0, none⟩) (L.length + 1) cap, rfl, by omega, by go_num, ?_, ?_, kept_append hK hK5 (fun k hk => by have := hbv k hk; omega) 0 _⟩
        · rw [Htk.out]
          exact Owns.setCell_below (Owns.of_snoc Hown5.out (by simp) rfl) (by omega) _ _
        · rw [setCell_heap Hb5.out 0 _]; rfl
    · obtain rfl : j = items.length := by omega
      rw [List.take_length] at hown
      obtain ⟨av, cv, rfl⟩ := hown.form
      have hszW : w.heap.size + 3 ≤ wr.heap.size := by have := hK.size; omega
      have HownI := Lib.hid hown
      have Hk2 : Hid (∃ u0 u1, wr.heap[w.heap.size + 1]? = some (.cells #[u0, u1] 104 (0, 0))) := Lib.hid (by
        obtain ⟨u0, u1, h4⟩ := H2.out
        exact ⟨u0, u1, (hK.block (w.heap.size + 1) (by omega) (by omega)).trans h4⟩)
      clear hown hK hri
      go_wp2_with fail
      obtain ⟨WL, rfl⟩ : ∃ x : World, x = wr := ⟨_, rfl⟩
      clear c0
      go_loopg [6] certs.length (fun g i wr => ∃ (j : Nat) (u : Value), g = certs.length - j ∧ j ≤ certs.length ∧ i = I j ∧ Owns Cert.cells 7 WL.heap.size 171 wr u (certs.take j) ∧ wr.heap[w.heap.size + 1 + 1]? = some (.cells #[.slice av items.length cv, u] 104 (0, 0)) ∧ Kept (· = w.heap.size + 1 + 1) WL wr)
      case atStart => exact ⟨0, _, rfl, Nat.zero_le _, rfl, Owns.nil _, H6r.out, Kept.refl _ _⟩
      case round =>
        obtain ⟨j, v, rfl, hj, rfl, hown, h6, hK⟩ := hrel
        have hz6 := heap_at h6
        have h2 := (hK.block w.heap.size (by omega) (by omega)).trans H2r.out
        have c1 : wr.cell? ⟨w.heap.size, 1, none⟩ = some (.slice ac certs.length cc) := cell_of_heap h2 1
        have HBq : Below w.heap.size w wr := HBr.trans ⟨hK.os, hK.tape, hK.output, hK.size, fun i hi => hK.block i (by omega) (by omega)⟩
        have H6q := Lib.hid h6
        clear h2 h6
        by_cases hlt : j < certs.length
        · obtain ⟨b, o, rfl, -, hb, hrows⟩ := hrc (by omega)
          have hrow := (hrows j certs[j] (List.getElem?_eq_getElem hlt)).below HBq hb
          obtain ⟨e0, e1, e2, e3, e4, e5, e6⟩ := hrow.seven
          have Htk : Hid (certs.take (j + 1) = certs.take j ++ [certs[j]]) := Lib.hid (List.take_succ_eq_append_getElem hlt)
          have hlen : (certs.take j).length ≤ 1000 := by simp; omega
          have Hown := Lib.hid hown
          have hlt' : (j : Int) < (certs.length : Int) := by omega
          have hzb : b < wr.heap.size := by have := HBq.size; omega
          clear hrows hrc hrow hown
          generalize certs[j] = x at *
          generalize certs.take j = L at *
          obtain ⟨n, it, by_, d, va, ⟨lo, hi'⟩⟩ := x
          have hBr4 : Below wr.heap.size wr (wr.alloc (.cells #[I n, I it, I by_, I d, I va, I lo, I hi'] 95 (0, 0))) := below_alloc _ _
          have h6 := H6q.out
          have c61 : wr.cell? ⟨w.heap.size + 1 + 1, 1, none⟩ = some v := cell_of_heap h6 1
          have H6b := Lib.hid h6
          have hz64 := heap_at h6
          have Hown4 : Hid (Owns Cert.cells 7 WL.heap.size 171 (wr.alloc (.cells #[I n, I it, I by_, I d, I va, I lo, I hi'] 95 (0, 0))) v L) := Lib.hid (Hown.out.below hBr4)
          have hbv : ∀ k, v.ownBlock = some k → WL.heap.size ≤ k := fun k hk => (Hown.out.lt k hk).1
          have hszr : WL.heap.size ≤ wr.heap.size := by have := hK.size; omega
          obtain ⟨i0, hi, hz0, hz1, hz2⟩ := info_parts info_ccert
          clear h6
          go_wp2_with (at_builtin; refine wpList_append_lies _ rfl _ _ 102 rfl WL.heap.size 171 i0 _ 7 56 Tryz.underlying102 hi hz0 hz1 hz2 rfl (by decide) v L.length (L.flatMap Cert.cells) rfl (World.ownsRow.alloc Hown4.out _) ⟨wr.heap.size + 1, 0, none⟩ 1 1 [I n, I it, I by_, I d, I va, I lo, I hi'] rfl rfl ?d1 ?d2 ?d3 ?d4 ?d5 ?d6 (wr.heap.size + 1 + 1) ?d7 ?_)
          case d2 => simp [Value.oneCell']
          case d4 => unfold maxLen; omega
          case d5 => omega
          case d6 => first | omega | (simp; omega)
          intro gg cap w5 hown5 hgrow hat hlt5
          have hb5 : w5.heap[w.heap.size + 1 + 1]? = some (.cells #[.slice av items.length cv, v] 104 (0, 0)) := (hgrow.block _ (by simp; omega) (fun h => by have := hbv _ h.symm; omega)).trans (((heap_old _ _ (by simp; omega)).trans (heap_old _ _ hz64)).trans H6b.out)
          have hc5 : w5.cell? ⟨w.heap.size + 1 + 1, 1, none⟩ = some v := cell_of_heap hb5 1
          have hf5 := free_of_heap hb5 1
          have Hown5 := Lib.hid hown5
          have Hb5 := Lib.hid hb5
          have hK5 : Kept (fun i => some i = v.ownBlock) wr w5 := ((Kept.below hBr4).alloc _).trans (grown_kept hgrow)
          clear hown5 hb5 c61
          go_wp2_with fail
          go_roundg (certs.length - (j + 1))
          case measure => omega
          case rel =>
            refine ⟨j + 1, .slice (some ⟨gg, 0, none⟩) (L.length + 1) cap, rfl, by omega, by go_num, ?_, ?_, kept_append hK hK5 (fun k hk => by have := hbv k hk; omega) 1 _⟩
            · rw [Htk.out]
              exact Owns.setCell_below (Owns.of_snoc Hown5.out (by simp) rfl) (by omega) _ _
            · rw [setCell_heap Hb5.out 1 _]; rfl
        · obtain rfl : j = certs.length := by omega
          rw [List.take_length] at hown
          obtain ⟨au, cu, rfl⟩ := hown.form
          obtain ⟨u0, u1, h4⟩ := Hk2.out
          have h4r := (hK.block (w.heap.size + 1) (by omega) (by omega)).trans h4
          have k0 := cell_of_heap h4r 0
          have k1 := cell_of_heap h4r 1
          have f0 := free_of_heap h4r 0
          have f1 := free_of_heap h4r 1
          have h60 : wr.cell? ⟨w.heap.size + 1 + 1, 0, none⟩ = some (.slice av items.length cv) := cell_of_heap H6q.out 0
          have h61 : wr.cell? ⟨w.heap.size + 1 + 1, 1, none⟩ = some (.slice au certs.length cu) := cell_of_heap H6q.out 1
          simp only [List.getElem?_toArray, List.getElem?_cons_zero, List.getElem?_cons_succ] at k0 k1
          obtain ⟨q0, q1⟩ := two_cells (W := wr) (p := w.heap.size + 1) (x := .slice av items.length cv) (y := .slice au certs.length cu) k0 k1
          have Hown := Lib.hid hown
          clear hown h4 h4r
          go_wp2_with fail
          refine name_post (Q := bodyPost _ _ _) ?_
          intro W9 h9
          rw [← h9] at q0 q1
          have hown9 : Owns Cert.cells 7 WL.heap.size 171 W9 (.slice au certs.length cu) certs := by
            rw [h9]; exact (Hown.out.setCell_below (by omega) _ _).setCell_below (by omega) _ _
          have howni : Owns Item.cells 4 (w.heap.size + 3) 100 W9 (.slice av items.length cv) items := by
            rw [h9]; exact ((HownI.out.kept hK (fun k hk => by have := (HownI.out.lt k hk).1; omega)).setCell_below (by omega) _ _).setCell_below (by omega) _ _
          refine bodyPost_ret (v := .agg #[.slice av items.length cv, .slice au certs.length cu]) (by simp [results, Tryz.results28, go_sem, q0, q1]) rfl ⟨_, _, rfl, (howni.read (fun _ => rfl) (by decide)).mono (fun b h _ => by omega), (hown9.read (fun _ => rfl) (by decide)).mono (fun b h _ => by omega), ?_⟩
          rw [h9]
          exact (HBq.setCell (p := ⟨w.heap.size + 1, 0, none⟩) (show _ ≤ w.heap.size + 1 by omega) _).setCell (p := ⟨w.heap.size + 1, 1, none⟩) (show _ ≤ w.heap.size + 1 by omega) _
end Go.Proofs.YthcolbjbafilcaaGreat
