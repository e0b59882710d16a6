/-
  The reference's Without: a book without a certificate.
-/
import Derived.Test.YthcolbjbafilcaaGreatRefB
import Derived.Test.YthcolbjbafilcaaGreatOwn
set_option linter.unusedSimpArgs false
set_option linter.unusedVariables false
namespace Go.Proofs.YthcolbjbafilcaaGreat
open Go.RowKit Go.Shelf Go.Sort
attribute [local go_sem] Oper.semAt_some

theorem info_rcert : (Tryz.prog.info? 95).map (fun i => (i.zero, i.size, i.bytes)) = some (some (.agg #[I 0, I 0, I 0, I 0, I 0, I 0, I 0]), 7, 56) := by kernel_rfl
def lessB (certs : List Cert) (n : Int) : List Cert := certs.filter fun c => c.number != n
theorem lessB_take (certs : List Cert) (n : Int) {j : Nat} (h : j < certs.length) : lessB (certs.take (j + 1)) n = lessB (certs.take j) n ++ if certs[j].number != n then [certs[j]] else [] := by
  unfold lessB
  rw [List.take_succ_eq_append_getElem h, List.filter_append]
  congr 1
  by_cases ht : (certs[j].number != n) = true <;> simp [ht]
def WithoutPost (vi : Value) (certs : List Cert) (n : Int) (w : World) (e : Ending) (w' : World) : Prop := ∃ v, e = .returned (.agg #[vi, v]) ∧ CertsIs (w.heap.size ≤ ·) w' v (lessB certs n) ∧ Below w.heap.size w w'
set_option maxRecDepth 100000 in
set_option maxHeartbeats 2000000 in
theorem without_any (ok oki : Nat → Prop) (vi vc : Value) (items : List Item) (certs : List Cert) (n : Int) (w : World) (hcl : certs.length ≤ 1000) (hi : ItemsIs oki w vi items) (hc : CertsIs ok w vc certs) :
    Calls Tryz.prog 9 #[.agg #[vi, vc], I n] w (WithoutPost vi certs n w) := by
  obtain ⟨ai, ci, rfl, -, -⟩ := hi
  obtain ⟨ac, cc, rfl, hcc, hrc⟩ := hc
  go_enter Tryz.func9, Tryz.ntmps9
  go_wp2_with fail
  refine name_world ?_
  intro W0 hW0
  have hB0 : Below w.heap.size w W0 := by rw [hW0]; exact below_alloc3 _ _ _ _
  have h2 : W0.heap[w.heap.size]? = some (.cells #[.slice ai items.length ci, .slice ac certs.length cc] 25 (0, 0)) := by rw [hW0]; exact (heap_old _ _ (by simp; omega)).trans ((heap_old _ _ (by simp)).trans (heap_new _ _ rfl))
  have h4 : ∃ u0 u1, W0.heap[w.heap.size + 1]? = some (.cells #[u0, u1] 25 (0, 0)) := ⟨_, _, by rw [hW0]; exact (heap_old _ _ (by simp)).trans (heap_new _ _ (by simp))⟩
  have h5 : W0.heap[w.heap.size + 1 + 1]? = some (.cells #[.slice ai items.length ci, .slice none 0 0] 25 (0, 0)) := by rw [hW0]; exact heap_new _ _ (by simp)
  have hz : W0.heap.size = w.heap.size + 3 := by rw [hW0]; simp
  clear hW0
  have Hz := Lib.hid hz
  have hz' : w.heap.size + 3 ≤ W0.heap.size := by omega
  have hz'' : W0.heap.size ≤ w.heap.size + 3 := by omega
  have H2 := Lib.hid h2
  have H4 := Lib.hid h4
  have H5 := Lib.hid h5
  clear hz h2 h4 h5
  go_loopg [6] certs.length (fun g i wr => ∃ (j : Nat) (v : Value), g = certs.length - j ∧ j ≤ certs.length ∧ i = I j ∧ Owns Cert.cells 7 (w.heap.size + 3) 95 wr v (lessB (certs.take j) n) ∧ wr.heap[w.heap.size + 1 + 1]? = some (.cells #[.slice ai items.length ci, v] 25 (0, 0)) ∧ Kept (· = w.heap.size + 1 + 1) W0 wr)
  case atStart => exact ⟨0, _, rfl, Nat.zero_le _, rfl, Owns.nil _, H5.out, Kept.refl _ _⟩
  case round =>
    obtain ⟨j, v, rfl, hj, rfl, hown, h5, hK⟩ := hrel
    have hz5 := heap_at h5
    have h2 := (hK.block w.heap.size (by omega) (by omega)).trans H2.out
    have c1 : wr.cell? ⟨w.heap.size, 1, none⟩ = some (.slice ac certs.length cc) := cell_of_heap h2 1
    have h51 : wr.cell? ⟨w.heap.size + 1 + 1, 1, none⟩ = some v := cell_of_heap h5 1
    have hf51 := free_of_heap h5 1
    have HBr : Below w.heap.size w wr := hB0.trans ⟨hK.os, hK.tape, hK.output, hK.size, fun i hi => hK.block i (by omega) (by omega)⟩
    have H5r := Lib.hid h5
    clear h2 h5
    by_cases hlt : j < certs.length
    · obtain ⟨b, o, rfl, -, hb, hrows⟩ := hrc (by omega)
      have hrow := (hrows j certs[j] (List.getElem?_eq_getElem hlt)).below HBr hb
      obtain ⟨e0, e1, e2, e3, e4, e5, e6⟩ := hrow.seven
      have Htk := Lib.hid (lessB_take certs n hlt)
      have hlen : (lessB (certs.take j) n).length ≤ 1000 := by
        have h1 : (lessB (certs.take j) n).length ≤ (certs.take j).length := List.length_filter_le _ _
        simp at h1; omega
      have Hown := Lib.hid hown
      have hlt' : (j : Int) < (certs.length : Int) := by omega
      have hzb : b < wr.heap.size := by have := HBr.size; omega
      clear hrows hrc hrow hown
      generalize certs[j] = x at *
      generalize lessB (certs.take j) n = L at *
      cases hne : (x.number != n) with
      | false =>
        have Hl : Hid (lessB (certs.take (j + 1)) n = L) := Lib.hid (by rw [Htk.out, hne]; simp)
        clear h51 hf51
        go_wp2_with fail
        go_roundg (certs.length - (j + 1))
        case measure => omega
        case rel => exact ⟨j + 1, v, rfl, by omega, by go_num, by rw [Hl.out]; exact Hown.out, H5r.out, hK⟩
      | true =>
        have Hl : Hid (lessB (certs.take (j + 1)) n = L ++ [x]) := Lib.hid (by rw [Htk.out, hne]; rfl)
        obtain ⟨i0, hi, hz0, hz1, hz2⟩ := info_parts info_rcert
        go_upto_region 25 with fail
        have hbv : ∀ k, v.ownBlock = some k → w.heap.size + 3 ≤ k := fun k hk => (Hown.out.lt k hk).1
        have hbS : ¬ (some b = v.ownBlock ∨ b = w.heap.size + 1 + 1) := fun h => by
          rcases h with h | h
          · have := hbv _ h.symm; omega
          · omega
        have hz51 : w.heap.size + 1 + 1 < wr.heap.size := hz5
        have hzw : w.heap.size < wr.heap.size := by omega
        go_region_law (
          (refine step_append_lies _ (by rfl) _ _ _ (by rfl) (w.heap.size + 3) 95 i0 _ 7 56 Tryz.underlying23 hi hz0 hz1 hz2 rfl (by omega) v L.length (L.flatMap Cert.cells) (by rfl) ((World.ownsRow.alloc Hown.out _).drew) ⟨wr.heap.size, 0, none⟩ 1 1 x.cells (by rfl) (by rfl) (World.news_of_block (cs := x.cells.toArray) (t := 95) (fr := (0, 0)) (heap_new wr _ rfl)) (by simp [Value.oneCell']) (by omega) (by unfold maxLen; omega) (by omega) (by simp; omega) (wr.heap.size + 1) (by simp) ?_
           intro gg cap w1 hown1 hgrow hat hlt1
           have hb1 : w1.heap[w.heap.size + 1 + 1]? = some (.cells #[.slice ai items.length ci, v] 25 (0, 0)) := (hgrow.block _ (by simp; omega) (fun h => by have := hbv _ h.symm; omega)).trans ((heap_old wr _ hz5).trans H5r.out)
           have hc1 : w1.cell? ⟨w.heap.size + 1 + 1, 1, none⟩ = some v := cell_of_heap hb1 1
           have hf1 := free_of_heap hb1 1))
        all_goals
          go_wp2_with fail
          go_roundg (certs.length - (j + 1))
          case measure => omega
          case rel =>
            have hk1 : Kept (fun i => some i = v.ownBlock) wr w1 := (((Kept.refl _ wr).alloc _).drew).trans (grown_kept hgrow)
            refine ⟨j + 1, .slice (some ⟨gg, 0, none⟩) (L.length + 1) cap, rfl, by omega, by go_num, ?_, ?_, kept_append hK hk1 (fun k hk => by have := hbv k hk; omega) 1 _⟩
            · rw [Hl.out]
              exact Owns.setCell_below (Owns.of_snoc hown1 (by simp) rfl) (by omega) _ _
            · rw [setCell_heap hb1 1 _]; rfl
    · obtain rfl : j = certs.length := by omega
      rw [List.take_length] at hown
      obtain ⟨av, cv, rfl⟩ := hown.form
      obtain ⟨u0, u1, h4⟩ := H4.out
      have h4r := (hK.block (w.heap.size + 1) (by omega) (by omega)).trans h4
      have k0 := cell_of_heap h4r 0
      have k1 := cell_of_heap h4r 1
      have f0 := free_of_heap h4r 0
      have f1 := free_of_heap h4r 1
      have h50 : wr.cell? ⟨w.heap.size + 1 + 1, 0, none⟩ = some (.slice ai items.length ci) := cell_of_heap H5r.out 0
      simp only [List.getElem?_toArray, List.getElem?_cons_zero, List.getElem?_cons_succ] at k0 k1
      obtain ⟨q0, q1⟩ := two_cells (W := wr) (p := w.heap.size + 1) (x := .slice ai items.length ci) (y := .slice av (lessB certs n).length cv) k0 k1
      have Hown := Lib.hid hown
      have H4r := Lib.hid h4r
      clear hown h4 h4r
      go_wp2_with fail
      refine name_post (Q := bodyPost _ _ _) ?_
      intro W9 h9
      rw [← h9] at q0 q1
      have hown9 : Owns Cert.cells 7 (w.heap.size + 3) 95 W9 (.slice av (lessB certs n).length cv) (lessB certs n) := by
        rw [h9]; exact (Hown.out.setCell_below (by omega) _ _).setCell_below (by omega) _ _
      refine bodyPost_ret (v := .agg #[.slice ai items.length ci, .slice av (lessB certs n).length cv]) (by simp [results, Tryz.results9, go_sem, q0, q1]) rfl ⟨_, rfl, (hown9.read (fun _ => rfl) (by decide)).mono (fun b h _ => by omega), ?_⟩
      rw [h9]
      exact (HBr.setCell (p := ⟨w.heap.size + 1, 0, none⟩) (show _ ≤ w.heap.size + 1 by omega) _).setCell (p := ⟨w.heap.size + 1, 1, none⟩) (show _ ≤ w.heap.size + 1 by omega) _
end Go.Proofs.YthcolbjbafilcaaGreat
