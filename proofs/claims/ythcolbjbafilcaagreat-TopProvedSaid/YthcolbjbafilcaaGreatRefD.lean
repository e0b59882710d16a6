/-
  The statements' Written: a book whose certificates are made anew from a truth.
-/
import Derived.Test.YthcolbjbafilcaaGreatRefC
import Derived.Test.YthcolbjbafilcaaGreatTail
set_option linter.unusedSimpArgs false
set_option linter.unusedVariables false
namespace Go.Proofs.YthcolbjbafilcaaGreat
open Go.RowKit Go.Shelf Go.Sort
attribute [local go_sem] Oper.semAt_some

theorem trueOf_bd {x : Item} {u day : Int} (hx : x.ok = true) (hu : 0 ≤ u ∧ u ≤ 65535) (hd : 0 ≤ day ∧ day ≤ 1000) : -100000 ≤ trueOf x u day ∧ trueOf x u day ≤ 100000 := by
  simp only [Item.ok, inB, Rng.ok, Bool.and_eq_true, decide_eq_true_eq] at hx
  unfold trueOf
  split
  · have z1 := Int.emod_nonneg u (show x.value.hi - x.value.lo + 1 ≠ 0 by omega)
    have z2 := Int.emod_lt_of_pos u (show 0 < x.value.hi - x.value.lo + 1 by omega)
    omega
  · have A0 := Int.emod_nonneg (day + u % 7) (show 2 * (1 + u % 60) ≠ 0 by omega)
    have A1 := Int.emod_lt_of_pos (day + u % 7) (show 0 < 2 * (1 + u % 60) by omega)
    have hat : -200 ≤ (if u % 2 = 0 then -(trueAt x u day) else trueAt x u day) ∧ (if u % 2 = 0 then -(trueAt x u day) else trueAt x u day) ≤ 200 := by
      unfold trueAt
      (repeat' split) <;> omega
    generalize (if u % 2 = 0 then -(trueAt x u day) else trueAt x u day) = a at *
    have hw := @wrapT x.drift a (u % 900) ⟨by omega, by omega⟩ hat ⟨by omega, by omega⟩
    have h1 : x.drift * a ≤ 100 * 200 := by
      by_cases h : 0 ≤ a
      · exact Int.mul_le_mul (by omega) hat.2 h (by omega)
      · have := Int.mul_nonneg (show 0 ≤ x.drift by omega) (show 0 ≤ -a by omega)
        rw [Int.mul_neg] at this; omega
    have h2 : -(100 * 200) ≤ x.drift * a := by
      by_cases h : 0 ≤ a
      · have := Int.mul_nonneg (show 0 ≤ x.drift by omega) h; omega
      · have := Int.mul_le_mul (show x.drift ≤ 100 by omega) (show -a ≤ 200 by omega) (show 0 ≤ -a by omega) (by omega)
        rw [Int.mul_neg] at this; omega
    omega
def trueBy (items : List Item) (words : List Int) (item day : Int) : Int := trueOf (items.getD item.toNat default) (wordOf words item.toNat) day
def anew (items : List Item) (words : List Int) (c : Cert) : Cert :=
  { c with diff := ⟨trueBy items words c.item c.day - trueBy items words c.by_ c.day - wordOf words c.number.toNat % 9, trueBy items words c.item c.day - trueBy items words c.by_ c.day + wordOf words (c.number.toNat + 1) % 9⟩ }
theorem name_kd {K : Act → World → Prop} {a : Act} {w : World} (h : ∀ W, W = w → K a W) : K a w := h w rfl
def WrittenPost (vi : Value) (items : List Item) (certs : List Cert) (words : List Int) (w : World) (e : Ending) (w' : World) : Prop :=
  ∃ v, e = .returned (.tuple #[.agg #[vi, v], .bool (refFault items (certs.map (anew items words)) == 0)]) ∧ CertsIs (w.heap.size ≤ ·) w' v (certs.map (anew items words)) ∧ Below w.heap.size w w'
set_option maxRecDepth 100000 in
set_option maxHeartbeats 4000000 in
theorem written_any (ok : Nat → Prop) (vi vc vw : Value) (items : List Item) (certs : List Cert) (words : List Int) (w : World) (hil : items.length ≤ 1000) (hcl : certs.length ≤ 1000) (hi : ItemsIs ok w vi items) (hc : CertsIs ok w vc certs)
    (hw : WordsIs ok w vw words) (hu : U16 words) (hwl : words.length ≤ 9223372036854775807) (hio : ∀ x ∈ items, x.ok = true) (hco : ∀ c ∈ certs, certOk items c = true) :
    Calls Tryz.prog 8 #[.agg #[vi, vc], vw] w (WrittenPost vi items certs words w) := by
  have Hi := Lib.hid hi
  obtain ⟨ai, ci, rfl, hci, -⟩ := hi
  obtain ⟨ac, cc, rfl, hcc, hrc⟩ := hc
  go_enter Tryz.func8, Tryz.ntmps8
  go_wp2_with fail
  refine name_world ?_
  intro W0 hW0
  have hB0 : Below w.heap.size w W0 := by rw [hW0]; exact below_alloc3 _ _ _ _
  have h2 : W0.heap[w.heap.size]? = some (.cells #[.slice ai items.length ci, .slice ac certs.length cc] 25 (0, 0)) := by rw [hW0]; exact (heap_old _ _ (by simp; omega)).trans ((heap_old _ _ (by simp)).trans (heap_new _ _ rfl))
  have h4 : ∃ u0 u1, W0.heap[w.heap.size + 1]? = some (.cells #[u0, u1] 25 (0, 0)) := ⟨_, _, by rw [hW0]; exact (heap_old _ _ (by simp)).trans (heap_new _ _ (by simp))⟩
  have h6 : W0.heap[w.heap.size + 1 + 1]? = some (.cells #[.slice ai items.length ci, .slice none 0 0] 25 (0, 0)) := by rw [hW0]; exact heap_new _ _ (by simp)
  have hz : W0.heap.size = w.heap.size + 3 := by rw [hW0]; simp
  clear hW0
  have hz' : w.heap.size + 3 ≤ W0.heap.size := by omega
  have hz'' : W0.heap.size ≤ w.heap.size + 3 := by omega
  have H2 := Lib.hid h2
  have H4 := Lib.hid h4
  have H6 := Lib.hid h6
  clear hz h2 h4 h6
  go_loopg [7] certs.length (fun g i wr => ∃ (j : Nat) (v : Value), g = certs.length - j ∧ j ≤ certs.length ∧ i = I j ∧ Owns Cert.cells 7 (w.heap.size + 3) 95 wr v ((certs.take j).map (anew items words)) ∧ wr.heap[w.heap.size + 1 + 1]? = some (.cells #[.slice ai items.length ci, v] 25 (0, 0)) ∧ Kept (· = w.heap.size + 1 + 1) W0 wr)
  case atStart => exact ⟨0, _, rfl, Nat.zero_le _, rfl, Owns.nil _, H6.out, Kept.refl _ _⟩
  case round =>
    obtain ⟨j, v, rfl, hj, rfl, hown, h6, hK⟩ := hrel
    have hz6 := heap_at h6
    have h2 := (hK.block w.heap.size (by omega) (by omega)).trans H2.out
    have c0 : wr.cell? ⟨w.heap.size, 0, none⟩ = some (.slice ai items.length ci) := cell_of_heap h2 0
    have c1 : wr.cell? ⟨w.heap.size, 1, none⟩ = some (.slice ac certs.length cc) := cell_of_heap h2 1
    have HBr : Below w.heap.size w wr := hB0.trans ⟨hK.os, hK.tape, hK.output, hK.size, fun i hi => hK.block i (by omega) (by omega)⟩
    have H6r := Lib.hid h6
    have H2r := Lib.hid h2
    clear h2 h6
    by_cases hlt : j < certs.length
    · obtain ⟨b, o, rfl, -, hb, hrows⟩ := hrc (by omega)
      have hrow := (hrows j certs[j] (List.getElem?_eq_getElem hlt)).below HBr hb
      obtain ⟨e0, e1, e2, e3, e4, e5, e6⟩ := hrow.seven
      have hcok := hco certs[j] (List.getElem_mem hlt)
      have Htk : Hid ((certs.take (j + 1)).map (anew items words) = (certs.take j).map (anew items words) ++ [anew items words certs[j]]) := Lib.hid (by rw [List.take_succ_eq_append_getElem hlt, List.map_append]; rfl)
      have hlen : ((certs.take j).map (anew items words)).length ≤ 1000 := by simp; omega
      have Hown := Lib.hid hown
      have hlt' : (j : Int) < (certs.length : Int) := by omega
      have hzb : b < wr.heap.size := by have := HBr.size; omega
      clear hrows hrc hrow hown
      generalize certs[j] = x at *
      generalize (certs.take j).map (anew items words) = L at *
      obtain ⟨n, it, by_, d, va, ⟨lo, hi'⟩⟩ := x
      simp only [certOk, inB, Rng.ok, Bool.and_eq_true, Bool.not_eq_true', decide_eq_true_eq] at hcok
      obtain ⟨⟨⟨⟨⟨⟨⟨k1, k2⟩, k3⟩, k4⟩, k5⟩, k6⟩, k7⟩, k8⟩ := hcok
      obtain ⟨q, rfl⟩ := Int.eq_ofNat_of_zero_le (show 0 ≤ n by omega)
      obtain ⟨m, rfl⟩ := Int.eq_ofNat_of_zero_le (show 0 ≤ it by omega)
      obtain ⟨m2, rfl⟩ := Int.eq_ofNat_of_zero_le (show 0 ≤ by_ by omega)
      have hm : m < items.length := by omega
      have hm2 : m2 < items.length := by omega
      have Hanew : Hid (anew items words ⟨q, m, m2, d, va, ⟨lo, hi'⟩⟩ = ⟨q, m, m2, d, va, ⟨trueOf items[m] (wordOf words m) d - trueOf items[m2] (wordOf words m2) d - wordOf words q % 9, trueOf items[m] (wordOf words m) d - trueOf items[m2] (wordOf words m2) d + wordOf words (q + 1) % 9⟩⟩) := Lib.hid (by
        simp [anew, trueBy, hm, hm2])
      have t1 := trueOf_bd (hio items[m] (List.getElem_mem hm)) (wordOf_bd hu m) ⟨k6.1, k6.2⟩
      have t2 := trueOf_bd (hio items[m2] (List.getElem_mem hm2)) (wordOf_bd hu m2) ⟨k6.1, k6.2⟩
      have wb1 := wordOf_bd hu q
      have wb2 := wordOf_bd hu (q + 1)
      have Hhio1 := Lib.hid (hio items[m] (List.getElem_mem hm))
      have Hhio2 := Lib.hid (hio items[m2] (List.getElem_mem hm2))
      clear k3 k5
      go_upto_region 25 with fail
      refine name_world ?_
      intro W1 hW1
      have hB1 : Below wr.heap.size wr W1 := by rw [hW1]; exact below_alloc _ _
      have h8 : W1.heap[wr.heap.size]? = some (.cells #[I q, I m, I m2, I d, I va, I lo, I hi'] 95 (0, 0)) := by rw [hW1]; exact heap_new _ _ rfl
      clear hW1
      have HB1 : Below w.heap.size w W1 := below_from HBr hB1
      have h2W := (hB1.block w.heap.size (by omega)).trans H2r.out
      have x20 := cell_regrown (show W1.cell? ⟨w.heap.size, 0, none⟩ = some (.slice ai items.length ci) from cell_of_heap h2W 0)
      have x21 := cell_regrown (show W1.cell? ⟨w.heap.size, 1, none⟩ = some (.slice (some ⟨b, o, none⟩) certs.length cc) from cell_of_heap h2W 1)
      have x81 := cell_regrown (show W1.cell? ⟨wr.heap.size, 1, none⟩ = some (I m) from cell_of_heap h8 1)
      have x82 := cell_regrown (show W1.cell? ⟨wr.heap.size, 2, none⟩ = some (I m2) from cell_of_heap h8 2)
      have x83 := cell_regrown (show W1.cell? ⟨wr.heap.size, 3, none⟩ = some (I d) from cell_of_heap h8 3)
      have cT1 : ∀ dd os, Calls Tryz.prog 26 #[.agg #[.slice ai items.length ci, .slice (some ⟨b, o, none⟩) certs.length cc], I m, I d, vw] (grow (redrawn W1 dd) os) fun e w'' => e = .returned (I (trueOf items[m] (wordOf words m) d)) ∧ ∃ p : Regrown, w'' = grow (redrawn W1 p.d) p.os := fun dd os =>
        Calls.regrown_of (true_any ok _ _ vw items words m d _ hm hil k6 Hhio1.out hu hwl (Hi.out.below (HB1.trans ((below_regrown W1 dd os).mono HB1.size))) (hw.below (HB1.trans ((below_regrown W1 dd os).mono HB1.size))))
      have cT2 : ∀ dd os, Calls Tryz.prog 26 #[.agg #[.slice ai items.length ci, .slice (some ⟨b, o, none⟩) certs.length cc], I m2, I d, vw] (grow (redrawn W1 dd) os) fun e w'' => e = .returned (I (trueOf items[m2] (wordOf words m2) d)) ∧ ∃ p : Regrown, w'' = grow (redrawn W1 p.d) p.os := fun dd os =>
        Calls.regrown_of (true_any ok _ _ vw items words m2 d _ hm2 hil k6 Hhio2.out hu hwl (Hi.out.below (HB1.trans ((below_regrown W1 dd os).mono HB1.size))) (hw.below (HB1.trans ((below_regrown W1 dd os).mono HB1.size))))
      have H8 := Lib.hid h8
      generalize trueOf items[m] (wordOf words m) d = T1 at *
      generalize trueOf items[m2] (wordOf words m2) d = T2 at *
      have ew : IntKind.i64.wrap (T1 - T2) = T1 - T2 := IntWalk.i64_in _ (by omega)
      clear c0 c1 e0 e1 e2 e3 e4 e5 e6 h8
      refine wp_region_quiet_below (by kernel_rfl) (by kernel_rfl) ?_
      repeat (quiet_step (first | with_reducible exact cT1 _ _ | with_reducible exact cT2 _ _))
      refine wpQuiet_nil ?_
      rintro W2 ⟨⟨dq, osq⟩, hq⟩
      have hB2 : Below W1.heap.size W1 W2 := by rw [hq]; exact below_regrown W1 dq osq
      clear hq cT1 cT2 x20 x21 x81 x82 x83
      have HB2 := below_from HB1 hB2
      go_upto_region 40 with fail
      have h8 := (hB2.block _ (heap_at H8.out)).trans H8.out
      have H8b := Lib.hid h8
      have x80 := cell_regrown (show W2.cell? ⟨wr.heap.size, 0, none⟩ = some (I q) from cell_of_heap h8 0)
      have cW1 : ∀ dd os, Calls Tryz.prog 27 #[vw, I q] (grow (redrawn W2 dd) os) fun e w'' => e = .returned (I (wordOf words q)) ∧ ∃ p : Regrown, w'' = grow (redrawn W2 p.d) p.os := fun dd os =>
        Calls.regrown_of ((word_any ok vw words q _ (by omega) hu (hw.below (HB2.trans ((below_regrown W2 dd os).mono HB2.size))) hwl).mono (fun e w' h => ⟨h.1, by rw [← h.2]; exact Below.refl _ _⟩))
      have cW2 : ∀ dd os, Calls Tryz.prog 27 #[vw, I ((q : Int) + 1)] (grow (redrawn W2 dd) os) fun e w'' => e = .returned (I (wordOf words (q + 1))) ∧ ∃ p : Regrown, w'' = grow (redrawn W2 p.d) p.os := fun dd os => by
        have h1 := Calls.regrown_of (w := W2) (d := dd) (os := os) ((word_any ok vw words (q + 1) _ (by omega) hu (hw.below (HB2.trans ((below_regrown W2 dd os).mono HB2.size))) hwl).mono (fun e w' h => ⟨h.1, by rw [← h.2]; exact Below.refl _ _⟩))
        rwa [show ((q + 1 : Nat) : Int) = (q : Int) + 1 from by omega] at h1
      generalize wordOf words q = u1 at *
      generalize wordOf words (q + 1) = u2 at *
      have ew1 : IntKind.i64.wrap ((q : Int) + 1) = (q : Int) + 1 := IntWalk.i64_in _ (by omega)
      have ew2 : Int.tmod u1 9 = u1 % 9 := Int.tmod_eq_emod_of_nonneg (by omega)
      have ew3 : Int.tmod u2 9 = u2 % 9 := Int.tmod_eq_emod_of_nonneg (by omega)
      have ew4 : IntKind.i64.wrap (T1 - T2 - u1 % 9) = T1 - T2 - u1 % 9 := IntWalk.i64_in _ (by omega)
      have ew5 : IntKind.i64.wrap (T1 - T2 + u2 % 9) = T1 - T2 + u2 % 9 := IntWalk.i64_in _ (by omega)
      clear h8
      refine (wpIn_wide (n := 5)).1 ?_
      refine region_tail (ro := none) (C := fun w' => ∃ p : Regrown, w' = grow (redrawn W2 p.d) p.os) (o := _) 17 (by kernel_rfl) (by kernel_rfl) rfl (by kernel_rfl) ⟨⟨W2.drawn + 1, #[]⟩, by rw [grow_empty]; rfl⟩ ?_
      simp only [List.take_succ_cons, List.take_zero, List.drop_succ_cons, List.drop_zero]
      repeat (quiet_step (first | with_reducible exact cW1 _ _ | with_reducible exact cW2 _ _))
      refine wpQuiet_nil ?_
      refine ⟨by kernel_rfl, ?_⟩
      rintro W3 ⟨⟨dq, osq⟩, hq⟩
      have hB3 : Below W2.heap.size W2 W3 := by rw [hq]; exact below_regrown W2 dq osq
      clear hq cW1 cW2 x80
      have h8 := (hB3.block _ (heap_at H8b.out)).trans H8b.out
      have n5 : W3.cell? ⟨wr.heap.size, 5, none⟩ = some (I lo) := cell_of_heap h8 5
      have n6 : W3.cell? ⟨wr.heap.size, 6, none⟩ = some (I hi') := cell_of_heap h8 6
      have f5 := free_of_heap h8 5
      have f6 := free_of_heap h8 6
      go_simp
      refine name_kd ?_
      intro W4 hW4
      have hBr3 : Below wr.heap.size wr W3 := below_from hB1 (below_from hB2 hB3)
      have hBr4 : Below wr.heap.size wr W4 := by rw [hW4]; exact (hBr3.setCell (p := ⟨wr.heap.size, 5, none⟩) (Nat.le_refl _) _).setCell (p := ⟨wr.heap.size, 6, none⟩) (Nat.le_refl _) _
      have g8 : W4.heap[wr.heap.size]? = some (.cells #[I q, I m, I m2, I d, I va, I (T1 - T2 - u1 % 9), I (T1 - T2 + u2 % 9)] 95 (0, 0)) := by
        rw [hW4]; exact setCell_heap (setCell_heap h8 5 _) 6 _
      clear hW4 h8 n5 n6 f5 f6
      have h6 := (hBr4.block _ hz6).trans H6r.out
      have c61 : W4.cell? ⟨w.heap.size + 1 + 1, 1, none⟩ = some v := cell_of_heap h6 1
      have c80 : W4.cell? ⟨wr.heap.size, 0, none⟩ = some (I q) := cell_of_heap g8 0
      have c81 : W4.cell? ⟨wr.heap.size, 1, none⟩ = some (I m) := cell_of_heap g8 1
      have c82 : W4.cell? ⟨wr.heap.size, 2, none⟩ = some (I m2) := cell_of_heap g8 2
      have c83 : W4.cell? ⟨wr.heap.size, 3, none⟩ = some (I d) := cell_of_heap g8 3
      have c84 : W4.cell? ⟨wr.heap.size, 4, none⟩ = some (I va) := cell_of_heap g8 4
      have c85 : W4.cell? ⟨wr.heap.size, 5, none⟩ = some (I (T1 - T2 - u1 % 9)) := cell_of_heap g8 5
      have c86 : W4.cell? ⟨wr.heap.size, 6, none⟩ = some (I (T1 - T2 + u2 % 9)) := cell_of_heap g8 6
      have H6b := Lib.hid h6
      have hz64 := heap_at h6
      have Hown4 : Hid (Owns Cert.cells 7 (w.heap.size + 3) 95 W4 v L) := Lib.hid (Hown.out.below hBr4)
      have hbv : ∀ k, v.ownBlock = some k → w.heap.size + 3 ≤ k := fun k hk => (Hown.out.lt k hk).1
      have hszr : w.heap.size + 3 ≤ W4.heap.size := by have := hBr4.size; have := hK.size; omega
      obtain ⟨i0, hi, hz0, hz1, hz2⟩ := info_parts info_rcert
      clear h6 g8
      go_wp2_with (at_builtin; refine wpList_append_lies _ rfl _ _ 23 rfl (w.heap.size + 3) 95 i0 _ 7 56 Tryz.underlying23 hi hz0 hz1 hz2 rfl (by decide) v L.length (L.flatMap Cert.cells) rfl (World.ownsRow.alloc Hown4.out _) ⟨W4.heap.size, 0, none⟩ 1 1 [I q, I m, I m2, I d, I va, I (T1 - T2 - u1 % 9), I (T1 - T2 + u2 % 9)] rfl rfl ?c1 ?c2 ?c3 ?c4 ?c5 ?c6 (W4.heap.size + 1) ?c7 ?_)
      case c1 => exact World.news_of_block (cs := #[I q, I m, I m2, I d, I va, I (T1 - T2 - u1 % 9), I (T1 - T2 + u2 % 9)]) (t := 95) (fr := (0, 0)) (heap_new W4 _ rfl)
      case c2 => simp [Value.oneCell']
      case c3 => omega
      case c4 => unfold maxLen; omega
      case c5 => omega
      case c6 => simp; omega
      case c7 => simp
      intro gg cap w5 hown5 hgrow hat hlt5
      have hb5 : w5.heap[w.heap.size + 1 + 1]? = some (.cells #[.slice ai items.length ci, v] 25 (0, 0)) := (hgrow.block _ (by simp; omega) (fun h => by have := hbv _ h.symm; omega)).trans ((heap_old W4 _ hz64).trans H6b.out)
      have hc5 : w5.cell? ⟨w.heap.size + 1 + 1, 1, none⟩ = some v := cell_of_heap hb5 1
      have hf5 := free_of_heap hb5 1
      have Hown5 := Lib.hid hown5
      have Hb5 := Lib.hid hb5
      have hK5 : Kept (fun i => some i = v.ownBlock) wr w5 := ((Kept.below hBr4).alloc _).trans (grown_kept hgrow)
      clear hown5 hb5 c61 c80 c81 c82 c83 c84 c85 c86
      go_wp2_with fail
      go_roundg (certs.length - (j + 1))
      case measure => omega
      case rel =>
        refine ⟨j + 1, .slice (some ⟨gg, 0, none⟩) (L.length + 1) cap, rfl, by omega, by go_num, ?_, ?_, kept_append hK hK5 (fun k hk => by have := hbv k hk; omega) 1 _⟩
        · rw [Htk.out, Hanew.out]
          exact Owns.setCell_below (Owns.of_snoc Hown5.out (by simp) rfl) (by omega) _ _
        · rw [setCell_heap Hb5.out 1 _]; rfl
    · obtain rfl : j = certs.length := by omega
      rw [List.take_length] at hown
      obtain ⟨av, cv, rfl⟩ := hown.form
      obtain ⟨u0, u1, h4⟩ := H4.out
      have h4r := (hK.block (w.heap.size + 1) (by omega) (by omega)).trans h4
      have k0 := cell_of_heap h4r 0
      have k1 := cell_of_heap h4r 1
      have f0 := free_of_heap h4r 0
      have f1 := free_of_heap h4r 1
      have h60 : wr.cell? ⟨w.heap.size + 1 + 1, 0, none⟩ = some (.slice ai items.length ci) := cell_of_heap H6r.out 0
      have h61 : wr.cell? ⟨w.heap.size + 1 + 1, 1, none⟩ = some (.slice av (certs.map (anew items words)).length cv) := cell_of_heap H6r.out 1
      simp only [List.getElem?_toArray, List.getElem?_cons_zero, List.getElem?_cons_succ] at k0 k1
      have Hown := Lib.hid hown
      have H4r := Lib.hid h4r
      have Hread := Lib.hid ((hown.read (fun _ => rfl) (by decide)).mono (ok' := fun _ => True) (fun _ _ _ => trivial))
      have hlm : (certs.map (anew items words)).length ≤ 1000 := by simp; omega
      clear hown h4 h4r
      generalize hM : certs.map (anew items words) = M at *
      have HM := Lib.hid hM
      clear hM
      go_upto_region 63 with fail
      have hzr : w.heap.size + 3 ≤ wr.heap.size := by have := hK.size; omega
      have hzr1 : w.heap.size + 1 < wr.heap.size := by omega
      have HBr : Below w.heap.size w wr := hB0.trans ⟨hK.os, hK.tape, hK.output, hK.size, fun i hi => hK.block i (by omega) (by omega)⟩
      have HI4 : Hid (ItemsIs ok wr (.slice ai items.length ci) items) := Lib.hid (Hi.out.below HBr)
      have HR : Hid (∀ W', Below wr.heap.size wr W' → Calls Tryz.prog 6 #[.agg #[.slice ai items.length ci, .slice av M.length cv]] W' fun e w' => e = .returned (I (refFault items M)) ∧ Below W'.heap.size W' w') :=
        Lib.hid (fun W' hB => fault_any _ _ _ items M W' hil (by omega) (((Hi.out.below HBr).below hB).mono (ok' := fun _ => True) (fun _ _ _ => trivial)) (Hread.out.below hB))
      go_region_with
        ((go_at_call 6; refine (HR.out _ (Below.refl _ _).drew).mono ?_; rintro e w1 ⟨rfl, hB⟩; obtain ⟨hcB, hfB⟩ := bcell hB; have hzB := hB.size; simp only [size_drew] at hcB hfB hzB))
      all_goals
        go_wp2_with fail
        refine name_post (Q := bodyPost _ _ _) ?_
        intro W9 h9
        have g0 := (hB.block (w.heap.size + 1) hzr1).trans H4r.out
        have g1 := setCell_heap g0 0 (.slice ai items.length ci)
        have g2 := setCell_heap g1 1 (.slice av M.length cv)
        have HB1 : Below w.heap.size w w1 := below_from HBr.drew hB
        have HB9 : Below w.heap.size w W9 := by
          rw [h9]
          exact (HB1.setCell (p := ⟨w.heap.size + 1, 0, none⟩) (show _ ≤ w.heap.size + 1 by omega) _).setCell (p := ⟨w.heap.size + 1, 1, none⟩) (show _ ≤ w.heap.size + 1 by omega) _
        have hown9 : Owns Cert.cells 7 (w.heap.size + 3) 95 W9 (.slice av M.length cv) M := by
          rw [h9]; exact ((Hown.out.below ((Below.refl _ wr).drew.trans hB)).setCell_below (by omega) _ _).setCell_below (by omega) _ _
        have G : W9.heap[w.heap.size + 1]? = some (.cells #[.slice ai items.length ci, .slice av M.length cv] 25 (0, 0)) := by rw [h9]; exact g2
        have r0 := cell_of_heap G 0
        have r1 := cell_of_heap G 1
        exact bodyPost_ret (v := .tuple #[.agg #[.slice ai items.length ci, .slice av M.length cv], .bool (refFault items M == 0)]) (by simp [results, Tryz.results8, go_sem, r0, r1]) rfl ⟨_, by rw [HM.out], by rw [HM.out]; exact (hown9.read (fun _ => rfl) (by decide)).mono (fun b h _ => by omega), HB9⟩
end Go.Proofs.YthcolbjbafilcaaGreat
