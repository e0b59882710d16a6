/-
  The statements' TopProved: the walk.
-/
import Derived.Test.YthcolbjbafilcaaGreatTopD
set_option linter.unusedSimpArgs false
set_option linter.unusedVariables false
namespace Go.Proofs.YthcolbjbafilcaaGreat
open Go.RowKit Go.Shelf Go.Sort
attribute [local go_sem] Oper.semAt_some

/-- What the law says of the books (proved without the program). -/
structure TopLaw (items : List Item) (M F : List Cert) (words : List Int) (D n x : Int) : Prop where
  errM : ∀ j : Nat, j < items.length → spanErr items M j D = 0 ∨ spanErr items M j D = 10
  errF : ∀ j : Nat, j < items.length → spanErr items F j D = 0 ∨ spanErr items F j D = 10
  len : (blocksTo items F words D n items.length).length ≤ (blocksTo items M words D n items.length).length
  fineM : (blocksTo items M words D n items.length).all Block.ok = true
  fineF : (blocksTo items F words D n items.length).all Block.ok = true
  lo : (biasOf (blocksTo items M words D n items.length)).lo ≤ n
  hi : n ≤ (biasOf (blocksTo items M words D n items.length)).hi
  loF : (biasOf (blocksTo items F words D n items.length)).lo ≤ (biasOf (blocksTo items M words D n items.length)).lo
  hiF : (biasOf (blocksTo items M words D n items.length)).hi ≤ (biasOf (blocksTo items F words D n items.length)).hi
  slo : (spanH (blocksTo items M words D n items.length) (x + n)).lo ≤ x
  shi : x ≤ (spanH (blocksTo items M words D n items.length) (x + n)).hi
  sloF : (spanH (blocksTo items F words D n items.length) (x + n)).lo ≤ (spanH (blocksTo items M words D n items.length) (x + n)).lo
  shiF : (spanH (blocksTo items M words D n items.length) (x + n)).hi ≤ (spanH (blocksTo items F words D n items.length) (x + n)).hi
def bitOf (bits : Int) (n : Nat) : Bool := (bits / 2 ^ (n % 31)).tmod 2 == 1
def fewOf (bits : Int) (M : List Cert) : Nat → List Cert
  | 0 => M
  | k + 1 => if bitOf bits (k + 1) then lessB (fewOf bits M k) (k + 1 : Nat) else fewOf bits M k
theorem one_range {ok : Nat → Prop} {w : World} {v : Value} {s : Rng} (h : RngsIs ok w v [s]) : ∃ b o c, v = .slice (some ⟨b, o, none⟩) 1 c ∧ 1 ≤ c ∧ b < w.heap.size ∧ w.cell? ⟨b, o, none⟩ = some (I s.lo) ∧ w.cell? ⟨b, o + 1, none⟩ = some (I s.hi) := by
  obtain ⟨a, c, rfl, hc, hr⟩ := h
  obtain ⟨b, o, rfl, -, hb, hrow⟩ := hr (by simp)
  have h1 := hrow 0 s rfl
  rw [Nat.zero_mul, Nat.add_zero] at h1
  obtain ⟨e0, e1⟩ := h1.two
  exact ⟨b, o, c, rfl, hc, hb, e0, e1⟩
theorem name_calls {P : Program} {f : FuncId} {args : Array Value} {w : World} {R : Ending → World → Prop} (h : ∀ W, W = w → Calls P f args W R) : Calls P f args w R := h w rfl
theorem fewOf_len (bits : Int) (M : List Cert) : ∀ k, (fewOf bits M k).length ≤ M.length
  | 0 => Nat.le_refl _
  | k + 1 => by
    unfold fewOf
    split
    · exact Nat.le_trans (List.length_filter_le _ _) (fewOf_len bits M k)
    · exact fewOf_len bits M k
theorem fault_zero {items : List Item} {certs : List Cert} (h : refFault items certs = 0) : (∀ x ∈ items, x.ok = true) ∧ ∀ c ∈ certs, certOk items c = true := by
  have h8 : ¬ (8 < items.length ∨ 24 < certs.length) := fun h8 => by simp [refFault, h8] at h
  constructor
  · intro x hx
    by_cases hk : x.ok = true
    · exact hk
    · obtain ⟨j, hj, rfl⟩ := List.getElem_of_mem hx
      have := fault_item h8 hj (by simpa using hk)
      rw [h] at this; cases this
  · intro c hc
    by_cases hk : certOk items c = true
    · exact hk
    · obtain ⟨j, hj, rfl⟩ := List.getElem_of_mem hc
      have := fault_cert (items := items) h8 hj (by simpa using hk)
      rw [h] at this; cases this
set_option maxRecDepth 100000 in
set_option maxHeartbeats 4000000 in
theorem top_any (L : LibSaid) (ok : Nat → Prop) (vi vc vw : Value) (items : List Item) (certs : List Cert) (words : List Int) (day bits n x : Int) (w : World) 
    (hi : ItemsIs ok w vi items) (hc : CertsIs ok w vc certs) (hw : WordsIs ok w vw words) (hu : U16 words) (hwl : words.length ≤ 9223372036854775807) (hday : 0 ≤ day ∧ day ≤ 65535) (hn : -128 ≤ n ∧ n ≤ 127) (hx : 0 ≤ x ∧ x ≤ 65535)
    (hlaw : thinB items certs = true → refFault items certs = 0 → items.length ≤ 5 → refFault items (certs.map (anew items words)) = 0 → TopLaw items (certs.map (anew items words)) (fewOf bits (certs.map (anew items words)) 999) words (day % 1001) n (1000 + x)) :
    Calls Tryz.prog 3 #[.agg #[vi, vc], vw, .int .u16 day, .int .u32 bits, .int .i8 n, .int .u16 x] w fun e w' => e = .returned (.bool true) ∧ Below w.heap.size w w' := by
  have Hi := Lib.hid hi
  have Hc := Lib.hid hc
  obtain ⟨ai, ci, rfl, hci, -⟩ := hi
  obtain ⟨ac, cc, rfl, hcc, -⟩ := hc
  go_enter Tryz.func3, Tryz.ntmps3
  go_wp2_with fail
  refine (thin_any ok _ _ items certs _ (Hi.out.below (below_alloc _ _)) (Hc.out.below (below_alloc _ _))).mono ?_
  rintro e w1 ⟨rfl, hB1⟩
  have HB1 : Below w.heap.size w w1 := below_from (below_alloc _ _) hB1
  have h6 : w1.heap[w.heap.size]? = some (.cells #[.slice ai items.length ci, .slice ac certs.length cc] 25 (0, 0)) := (hB1.block _ (by simp)).trans (heap_new _ _ rfl)
  have H6 := Lib.hid h6
  have a0 : w1.cell? ⟨w.heap.size, 0, none⟩ = some (.slice ai items.length ci) := cell_of_heap h6 0
  have a1 : w1.cell? ⟨w.heap.size, 1, none⟩ = some (.slice ac certs.length cc) := cell_of_heap h6 1
  have hz := heap_at h6
  clear h6 hB1
  have Hlaw := Lib.hid hlaw
  clear hlaw
  cases hth : thinB items certs with
  | false =>
    go_wp2_with fail
    refine (proved_any L _).mono ?_
    rintro e w2 ⟨rfl, hB2⟩
    go_wp2_with fail
    go_ret
    exact ⟨rfl, below_from HB1 hB2⟩
  | true =>
    have hl10 : items.length ≤ 10 ∧ certs.length ≤ 28 := by simpa [thinB] using hth
    obtain ⟨hl1, hl2⟩ := hl10
    go_wp2_with fail
    refine (fault_any ok _ _ items certs _ (by omega) (by omega) (Hi.out.below HB1) (Hc.out.below HB1)).mono ?_
    rintro e w2 ⟨rfl, hB2⟩
    have HB2 := below_from HB1 hB2
    have H6b := Lib.hid ((hB2.block _ hz).trans H6.out)
    have b0 : w2.cell? ⟨w.heap.size, 0, none⟩ = some (.slice ai items.length ci) := cell_of_heap H6b.out 0
    have b1 : w2.cell? ⟨w.heap.size, 1, none⟩ = some (.slice ac certs.length cc) := cell_of_heap H6b.out 1
    have hz2 := heap_at H6b.out
    clear a0 a1
    by_cases hf : refFault items certs = 0
    · by_cases h5 : items.length ≤ 5
      · have h5' : ¬ (5 < (items.length : Int)) := by omega
        rw [hf]
        have hfz := fault_zero hf
        go_wp2_with fail
        refine (written_any ok _ _ vw items certs words _ (by omega) (by omega) (Hi.out.below HB2) (Hc.out.below HB2) (hw.below HB2) hu hwl hfz.1 hfz.2).mono ?_
        rintro e w3 ⟨um, rfl, hM, hB3⟩
        have HB3 := below_from HB2 hB3
        have hlM : (certs.map (anew items words)).length ≤ 28 := by simpa using hl2
        obtain ⟨am, cm, rfl, hcm, -⟩ := id hM
        have HM := Lib.hid hM
        clear hM
        cases hfm : refFault items (certs.map (anew items words)) == 0 with
        | false =>
          go_wp2_with fail
          refine (proved_any L _).mono ?_
          rintro e w4 ⟨rfl, hB4⟩
          go_wp2_with fail
          go_ret
          exact ⟨rfl, below_from HB3 (below_from (below_alloc _ _) hB4)⟩
        | true =>
          have Hl := Lib.hid (Hlaw.out hth hf h5 (by simpa using hfm))
          generalize certs.map (anew items words) = M at *
          go_wp2_with fail
          refine name_world ?_
          intro W4 hW4
          have hB4 : Below w3.heap.size w3 W4 := by rw [hW4]; exact below_alloc2 _ _ _
          have h13 : W4.heap[w3.heap.size]? = some (.cells #[.slice ai items.length ci, .slice am M.length cm] 25 (0, 0)) := by rw [hW4]; exact (heap_old _ _ (by simp)).trans (heap_new _ _ rfl)
          have h15 : W4.heap[w3.heap.size + 1]? = some (.cells #[.slice ai items.length ci, .slice am M.length cm] 25 (0, 0)) := by rw [hW4]; exact heap_new _ _ (by simp)
          clear hW4
          have HBw4 : Below w.heap.size w W4 := HB3.trans (hB4.mono HB3.size)
          have hw3 : w.heap.size ≤ w3.heap.size := HB3.size
          have hz15 := heap_at h15
          have H13 := Lib.hid h13
          have H15 := Lib.hid h15
          clear h13 h15 b0 b1
          go_loopg [16] 999 (fun g i wr => ∃ (j : Nat) (u : Value), g = 999 - j ∧ j ≤ 999 ∧ i = I ((j : Int) + 1) ∧ wr.heap[w3.heap.size + 1]? = some (.cells #[.slice ai items.length ci, u] 25 (0, 0)) ∧ CertsIs (· ≠ w3.heap.size + 1) wr u (fewOf bits M j) ∧ Kept (· = w3.heap.size + 1) W4 wr)
          case atStart => exact ⟨0, _, rfl, by omega, rfl, H15.out, ((HM.out.mono (fun b _ h => (show b < w3.heap.size from h))).below hB4).mono (fun b h _ => by omega), Kept.refl _ _⟩
          case round =>
            obtain ⟨j, u, rfl, hj, rfl, h15, hu15, hK⟩ := hrel
            obtain ⟨au, cu, rfl, hcu, -⟩ := id hu15
            have c0 : wr.cell? ⟨w3.heap.size + 1, 0, none⟩ = some (.slice ai items.length ci) := cell_of_heap h15 0
            have c1 : wr.cell? ⟨w3.heap.size + 1, 1, none⟩ = some (.slice au (fewOf bits M j).length cu) := cell_of_heap h15 1
            have f0 := free_of_heap h15 0
            have f1 := free_of_heap h15 1
            have Hu15 := Lib.hid hu15
            have H15r := Lib.hid h15
            have hzr := heap_at h15
            clear hu15 h15
            by_cases hlt : j < 999
            · have hlt' : (j : Int) + 1 ≤ 999 := by omega
              have hfl := fewOf_len bits M j
              have hnext : fewOf bits M (j + 1) = if bitOf bits (j + 1) then lessB (fewOf bits M j) (j + 1 : Nat) else fewOf bits M j := rfl
              have Hnext := Lib.hid hnext
              clear hnext
              cases hbit : bitOf bits (j + 1) with
              | false =>
                rw [hbit] at Hnext
                unfold bitOf at hbit
                go_wp2_with fail
                go_roundg (999 - (j + 1))
                case measure => omega
                case rel =>
                  exact ⟨j + 1, _, rfl, by omega, by go_num, H15r.out, by rw [Hnext.out]; exact Hu15.out, hK⟩
              | true =>
                rw [hbit] at Hnext
                unfold bitOf at hbit
                have hBrr : Below w.heap.size w wr := HBw4.trans ⟨hK.os, hK.tape, hK.output, hK.size, fun i hi => hK.block i (by have := HBw4.size; omega) (by have := HBw4.size; omega)⟩
                go_wp2_with fail
                refine (without_any (· ≠ w3.heap.size + 1) ok (.slice ai items.length ci) (.slice au (fewOf bits M j).length cu) items (fewOf bits M j) (j + 1 : Int) wr (by omega) (Hi.out.below hBrr) Hu15.out).mono ?_
                rintro e w5 ⟨v5, rfl, hC5, hB5⟩
                obtain ⟨a5, c5, rfl, hc5, -⟩ := id hC5
                have h15b := (hB5.block _ hzr).trans H15r.out
                have d0 : w5.cell? ⟨w3.heap.size + 1, 0, none⟩ = some (.slice ai items.length ci) := cell_of_heap h15b 0
                have d1 : w5.cell? ⟨w3.heap.size + 1, 1, none⟩ = some (.slice au (fewOf bits M j).length cu) := cell_of_heap h15b 1
                have g0 := free_of_heap h15b 0
                have g1 := free_of_heap h15b 1
                have H15b := Lib.hid h15b
                have HC5 := Lib.hid hC5
                clear h15b hC5
                go_wp2_with fail
                go_roundg (999 - (j + 1))
                case measure => omega
                case rel =>
                  refine ⟨j + 1, .slice a5 (lessB (fewOf bits M j) (j + 1 : Int)).length c5, rfl, by omega, by go_num, ?_, ?_, ?_⟩
                  · rw [setCell_heap (setCell_heap H15b.out 0 _) 1 _]; rfl
                  · rw [Hnext.out]
                    exact (HC5.out.mono (ok' := (· ≠ w3.heap.size + 1)) (fun b h _ => by omega)).kept (S := (· = w3.heap.size + 1)) (((Kept.refl (fun i => i = w3.heap.size + 1) w5).setCell (p := ⟨w3.heap.size + 1, 0, none⟩) (fun _ => rfl) _).setCell (p := ⟨w3.heap.size + 1, 1, none⟩) (fun _ => rfl) _) (fun b h => h)
                  · exact ((hK.trans (Kept.below hB5)).setCell (fun _ => rfl) _).setCell (fun _ => rfl) _
            · obtain rfl : j = 999 := by omega
              have hBrr : Below w.heap.size w wr := HBw4.trans ⟨hK.os, hK.tape, hK.output, hK.size, fun i hi => hK.block i (by have := HBw4.size; omega) (by have := HBw4.size; omega)⟩
              have h13 := (hK.block w3.heap.size (by omega) (by omega)).trans H13.out
              have c30 : wr.cell? ⟨w3.heap.size, 0, none⟩ = some (.slice ai items.length ci) := cell_of_heap h13 0
              have c31 : wr.cell? ⟨w3.heap.size, 1, none⟩ = some (.slice am M.length cm) := cell_of_heap h13 1
              have hfl := fewOf_len bits M 999
              generalize fewOf bits M 999 = F at *
              have hzr3 := heap_at h13
              have HMr : Hid (CertsIs (fun _ => True) wr (.slice am M.length cm) M) := Lib.hid (((HM.out.mono (ok' := (· < w3.heap.size)) (fun b _ h => h)).below hB4).kept hK (fun b h => by omega) |>.mono (fun _ _ _ => trivial))
              clear h13
              go_wp2_with fail
              refine (blocks_any L (fun _ => True) (.slice ai items.length ci) (.slice am M.length cm) vw items M words (day % 1001) n wr (by omega) (by omega) ((Hi.out.below hBrr).mono (fun _ _ _ => trivial)) HMr.out ((hw.below hBrr).mono (fun _ _ _ => trivial)) hu hwl hfz.1 (by omega) Hl.out.errM).mono ?_
              rintro e w5 ⟨vA, rfl, hA, hB5⟩
              obtain ⟨aA, cA, rfl, hcA, -⟩ := id hA
              have HA := Lib.hid hA
              have HB5 := hBrr.trans (hB5.mono hBrr.size)
              have h15b := (hB5.block _ hzr).trans H15r.out
              have d0 : w5.cell? ⟨w3.heap.size + 1, 0, none⟩ = some (.slice ai items.length ci) := cell_of_heap h15b 0
              have d1 : w5.cell? ⟨w3.heap.size + 1, 1, none⟩ = some (.slice au F.length cu) := cell_of_heap h15b 1
              clear hA h15b c30 c31 c0 c1 f0 f1
              go_wp2_with fail
              refine (blocks_any L (fun _ => True) (.slice ai items.length ci) (.slice au F.length cu) vw items F words (day % 1001) n w5 (by omega) (by omega) ((Hi.out.below HB5).mono (fun _ _ _ => trivial)) ((Hu15.out.below hB5).mono (fun _ _ _ => trivial)) ((hw.below HB5).mono (fun _ _ _ => trivial)) hu hwl hfz.1 (by omega) Hl.out.errF).mono ?_
              rintro e w6 ⟨vF, rfl, hF, hB6⟩
              obtain ⟨aF, cF, rfl, hcF, -⟩ := id hF
              have HF := Lib.hid hF
              have HB6 := HB5.trans (hB6.mono HB5.size)
              have HA6 := Lib.hid (HA.out.below hB6)
              have hlA := blocksTo_len items M words (day % 1001) n items.length
              have hlF := blocksTo_len items F words (day % 1001) n items.length
              obtain ⟨errM, errF, hlen, fineM, fineF, hlo, hhi, hloF, hhiF, hslo, hshi, hsloF, hshiF⟩ := Hl.out
              clear hF errM errF d0 d1
              generalize blocksTo items M words (day % 1001) n items.length = bA at *
              generalize blocksTo items F words (day % 1001) n items.length = bF at *
              have hlen' : ¬ ((bA.length : Int) < (bF.length : Int)) := by omega
              go_wp2_with fail
              refine name_calls ?_
              intro W7 hW7
              have hB7 : Below w6.heap.size w6 W7 := by rw [hW7]; exact below_al (below_al (below_al (below_al (below_alloc _ _) _) _) _) _
              have z0 : W7.heap[w6.heap.size]? = some (.cells #[I 0, I (1000 + x + n)] 41 (0, 0)) := by rw [hW7]; exact (heap_old _ _ (by simp; try omega)).trans ((heap_old _ _ (by simp; try omega)).trans ((heap_old _ _ (by simp; try omega)).trans ((heap_old _ _ (by simp)).trans (heap_new _ _ rfl))))
              have z1 : W7.heap[w6.heap.size + 1]? = some (.cells #[I 0, .slice aA bA.length cA] 44 (0, 0)) := by rw [hW7]; exact (heap_old _ _ (by simp; try omega)).trans ((heap_old _ _ (by simp; try omega)).trans ((heap_old _ _ (by simp)).trans (heap_new _ _ (by simp))))
              have z2 : W7.heap[w6.heap.size + 1 + 1]? = some (.cells #[I 0, .slice aF bF.length cF] 44 (0, 0)) := by rw [hW7]; exact (heap_old _ _ (by simp; try omega)).trans ((heap_old _ _ (by simp)).trans (heap_new _ _ (by simp)))
              have z3 : W7.heap[w6.heap.size + 1 + 1 + 1]? = some (.cells #[I 1, .slice none 0 0, .slice (some ⟨w6.heap.size + 1, 0, none⟩) 1 1] 48 (0, 0)) := by rw [hW7]; exact (heap_old _ _ (by simp)).trans (heap_new _ _ (by simp))
              have z4 : W7.heap[w6.heap.size + 1 + 1 + 1 + 1]? = some (.cells #[I 1, .slice none 0 0, .slice (some ⟨w6.heap.size + 1 + 1, 0, none⟩) 1 1] 48 (0, 0)) := by rw [hW7]; exact heap_new _ _ (by simp)
              clear hW7
              have HB7 := HB6.trans (hB7.mono HB6.size)
              have QA : Hid (∀ W' : World, Below W7.heap.size W7 W' → Calls Tryz.prog 12 #[.agg #[I 1, .slice none 0 0, .slice (some ⟨w6.heap.size + 1, 0, none⟩) 1 1]] W' (L06Post bA W')) := Lib.hid (fun W' hB =>
                hbook_any (wr.heap.size ≤ ·) (w6.heap.size + 1) 0 1 (.slice aA bA.length cA) bA W' (by omega) fineM (Nat.le_refl _) (Nat.lt_of_lt_of_le (heap_at z1) hB.size) ((hB.cell (p := ⟨w6.heap.size + 1, 0, none⟩) (heap_at z1)).trans (cell_of_heap z1 0)) ((hB.cell (p := ⟨w6.heap.size + 1, 0 + 1, none⟩) (heap_at z1)).trans (cell_of_heap z1 1)) ((HA6.out.below hB7).below hB))
              have QF : Hid (∀ W' : World, Below W7.heap.size W7 W' → Calls Tryz.prog 12 #[.agg #[I 1, .slice none 0 0, .slice (some ⟨w6.heap.size + 1 + 1, 0, none⟩) 1 1]] W' (L06Post bF W')) := Lib.hid (fun W' hB =>
                hbook_any (w5.heap.size ≤ ·) (w6.heap.size + 1 + 1) 0 1 (.slice aF bF.length cF) bF W' (by omega) fineF (Nat.le_refl _) (Nat.lt_of_lt_of_le (heap_at z2) hB.size) ((hB.cell (p := ⟨w6.heap.size + 1 + 1, 0, none⟩) (heap_at z2)).trans (cell_of_heap z2 0)) ((hB.cell (p := ⟨w6.heap.size + 1 + 1, 0 + 1, none⟩) (heap_at z2)).trans (cell_of_heap z2 1)) ((HF.out.below hB7).below hB))
              have QR : Hid (∀ W' : World, Below W7.heap.size W7 W' → Calls Tryz.prog 14 #[.slice (some ⟨w6.heap.size, 0, none⟩) 1 1] W' (ReadingsPost [⟨0, 1000 + x + n⟩] W')) := Lib.hid (fun W' hB =>
                readings_any (fun _ => True) _ [⟨0, 1000 + x + n⟩] W' (by simp) (SliceIs.below ⟨some ⟨w6.heap.size, 0, none⟩, 1, rfl, Nat.le_refl _, fun _ => ⟨w6.heap.size, 0, rfl, trivial, heap_at z0, fun i y hy => by
                  cases i with
                  | zero =>
                    simp at hy; subst hy
                    intro k u hu
                    have hk : k = 0 ∨ k = 1 := by
                      have := (List.getElem?_eq_some_iff.1 hu).1
                      simp at this; omega
                    rcases hk with rfl | rfl
                    · simp at hu; subst hu; exact cell_of_heap z0 0
                    · simp at hu; subst hu; exact cell_of_heap z0 1
                  | succ i => simp at hy⟩⟩ hB))
              have Q3 : Hid (∀ W' : World, Below W7.heap.size W7 W' → W'.cell? ⟨w6.heap.size + 1 + 1 + 1, 0, none⟩ = some (I 1) ∧ W'.cell? ⟨w6.heap.size + 1 + 1 + 1, 1, none⟩ = some (.slice none 0 0) ∧ W'.cell? ⟨w6.heap.size + 1 + 1 + 1, 2, none⟩ = some (.slice (some ⟨w6.heap.size + 1, 0, none⟩) 1 1)) := Lib.hid (fun W' hB =>
                ⟨(hB.cell (p := ⟨w6.heap.size + 1 + 1 + 1, 0, none⟩) (heap_at z3)).trans (cell_of_heap z3 0), (hB.cell (p := ⟨w6.heap.size + 1 + 1 + 1, 1, none⟩) (heap_at z3)).trans (cell_of_heap z3 1), (hB.cell (p := ⟨w6.heap.size + 1 + 1 + 1, 2, none⟩) (heap_at z3)).trans (cell_of_heap z3 2)⟩)
              have Q4 : Hid (∀ W' : World, Below W7.heap.size W7 W' → W'.cell? ⟨w6.heap.size + 1 + 1 + 1 + 1, 0, none⟩ = some (I 1) ∧ W'.cell? ⟨w6.heap.size + 1 + 1 + 1 + 1, 1, none⟩ = some (.slice none 0 0) ∧ W'.cell? ⟨w6.heap.size + 1 + 1 + 1 + 1, 2, none⟩ = some (.slice (some ⟨w6.heap.size + 1 + 1, 0, none⟩) 1 1)) := Lib.hid (fun W' hB =>
                ⟨(hB.cell (p := ⟨w6.heap.size + 1 + 1 + 1 + 1, 0, none⟩) (heap_at z4)).trans (cell_of_heap z4 0), (hB.cell (p := ⟨w6.heap.size + 1 + 1 + 1 + 1, 1, none⟩) (heap_at z4)).trans (cell_of_heap z4 1), (hB.cell (p := ⟨w6.heap.size + 1 + 1 + 1 + 1, 2, none⟩) (heap_at z4)).trans (cell_of_heap z4 2)⟩)
              clear z0 z1 z2 z3 z4 hB7 fineM fineF
              generalize w6.heap.size = B6 at *
              refine (QA.out W7 (Below.refl _ _)).mono ?_
              rintro e w8 ⟨vt, vm, rfl, hK8, hB8⟩
              go_wp2_with fail
              refine (hBias_ok L (fun _ => True) vt vm bA w8 hK8 (by omega)).mono ?_
              rintro e w9 ⟨rfl, hB9⟩
              have E9 : Below W7.heap.size W7 w9 := below_from hB8 hB9
              clear hK8 hB8 hB9
              obtain ⟨p0, p1, p2⟩ := Q4.out _ (below_al E9 (.cells #[I (biasOf bA).lo, I (biasOf bA).hi] 50 (0, 0)))
              go_wp2_with fail
              refine name_calls ?_
              intro W10 hW10
              have E10 : Below W7.heap.size W7 W10 := by rw [hW10]; exact below_al E9 _
              have y27 : W10.heap[w9.heap.size]? = some (.cells #[I (biasOf bA).lo, I (biasOf bA).hi] 50 (0, 0)) := by rw [hW10]; exact heap_new _ _ rfl
              have Y27 := Lib.hid y27
              clear hW10 p0 p1 p2 y27
              refine (QF.out W10 E10).mono ?_
              rintro e w11 ⟨vt2, vm2, rfl, hK11, hB11⟩
              go_wp2_with fail
              refine (hBias_ok L (fun _ => True) vt2 vm2 bF w11 hK11 (by omega)).mono ?_
              rintro e w12 ⟨rfl, hB12⟩
              have F12 : Below W10.heap.size W10 w12 := below_from hB11 hB12
              clear hK11 hB11 hB12
              obtain ⟨p0, p1, p2⟩ := Q3.out _ (below_al (below_from E10 F12) (.cells #[I (biasOf bF).lo, I (biasOf bF).hi] 50 (0, 0)))
              go_wp2_with fail
              refine name_calls ?_
              intro W13 hW13
              have F13 : Below W10.heap.size W10 W13 := by rw [hW13]; exact below_al F12 _
              have E13 : Below W7.heap.size W7 W13 := below_from E10 F13
              have Y29 : Hid (W13.heap[w12.heap.size]? = some (.cells #[I (biasOf bF).lo, I (biasOf bF).hi] 50 (0, 0))) := Lib.hid (by rw [hW13]; exact heap_new _ _ rfl)
              have Y27b : Hid (W13.heap[w9.heap.size]? = some (.cells #[I (biasOf bA).lo, I (biasOf bA).hi] 50 (0, 0))) := Lib.hid ((F13.block _ (heap_at Y27.out)).trans Y27.out)
              clear hW13 p0 p1 p2 Y27 F12 F13
              refine (QA.out W13 E13).mono ?_
              rintro e w14 ⟨vt3, vm3, rfl, hK14, hB14⟩
              go_wp2_with fail
              refine (QR.out w14 (below_from E13 hB14)).mono ?_
              rintro e w15 ⟨vr, rfl, hR15, hB15⟩
              go_wp2_with fail
              refine (hSpans_ok L (fun _ => True) vt3 vm3 vr bA (1000 + x + n) w15 (hK14.below hB15) (hR15.mono (fun _ _ _ => trivial)) (by simp [inB]; omega) (by omega) (by omega)).mono ?_
              rintro e w16 ⟨vS, rfl, hS16, hB16⟩
              obtain ⟨bS, oS, cS, rfl, hcS, hbS, s0, s1⟩ := one_range hS16
              have F16 : Below W13.heap.size W13 w16 := below_from hB14 (below_from hB15 hB16)
              obtain ⟨p0, p1, p2⟩ := Q4.out _ (below_from E13 F16)
              have S16 := Lib.hid (And.intro s0 s1)
              clear hK14 hB14 hR15 hB15 hS16 hB16 s0 s1
              go_wp2_with fail
              refine (QF.out w16 (below_from E13 F16)).mono ?_
              rintro e w17 ⟨vt4, vm4, rfl, hK17, hB17⟩
              clear p0 p1 p2
              go_wp2_with fail
              refine (QR.out w17 (below_from E13 (below_from F16 hB17))).mono ?_
              rintro e w18 ⟨vr2, rfl, hR18, hB18⟩
              go_wp2_with fail
              refine (hSpans_ok L (fun _ => True) vt4 vm4 vr2 bF (1000 + x + n) w18 (hK17.below hB18) (hR18.mono (fun _ _ _ => trivial)) (by simp [inB]; omega) (by omega) (by omega)).mono ?_
              rintro e w19 ⟨vS2, rfl, hS19, hB19⟩
              obtain ⟨bT, oT, cT, rfl, hcT, hbT, t0, t1⟩ := one_range hS19
              have G19 : Below w16.heap.size w16 w19 := below_from hB17 (below_from hB18 hB19)
              have F19 : Below W13.heap.size W13 w19 := below_from F16 G19
              have s0 := (G19.cell (p := ⟨bS, oS, none⟩) hbS).trans S16.out.1
              have s1 := (G19.cell (p := ⟨bS, oS + 1, none⟩) hbS).trans S16.out.2
              have y27 := (F19.block _ (heap_at Y27b.out)).trans Y27b.out
              have y29 := (F19.block _ (heap_at Y29.out)).trans Y29.out
              have m0 : w19.cell? ⟨w9.heap.size, 0, none⟩ = some (I (biasOf bA).lo) := cell_of_heap y27 0
              have m1 : w19.cell? ⟨w9.heap.size, 1, none⟩ = some (I (biasOf bA).hi) := cell_of_heap y27 1
              have o0 : w19.cell? ⟨w12.heap.size, 0, none⟩ = some (I (biasOf bF).lo) := cell_of_heap y29 0
              have o1 : w19.cell? ⟨w12.heap.size, 1, none⟩ = some (I (biasOf bF).hi) := cell_of_heap y29 1
              have HB19 : Below w.heap.size w w19 := HB7.trans ((below_from E13 F19).mono HB7.size)
              clear hK17 hB17 hR18 hB18 hS19 hB19 S16 y27 y29
              generalize spanH bA (1000 + x + n) = sA at *
              generalize spanH bF (1000 + x + n) = sF at *
              generalize biasOf bA = iA at *
              generalize biasOf bF = iF at *
              go_wp2_with fail
              have xm0 := cell_regrown m0
              have xm1 := cell_regrown m1
              have xo0 := cell_regrown o0
              have xo1 := cell_regrown o1
              have xs0 := cell_regrown s0
              have xs1 := cell_regrown s1
              have xt0 := cell_regrown t0
              have xt1 := cell_regrown t1
              have cP : ∀ d os, Calls Tryz.prog 7 #[] (grow (redrawn w19 d) os) fun e w'' => e = .returned (.bool true) ∧ ∃ p : Regrown, w'' = grow (redrawn w19 p.d) p.os := fun d os => Calls.regrown_of (proved_any L _)
              clear m0 m1 o0 o1 s0 s1 t0 t1
              refine wp_region_quiet_below (by kernel_rfl) (by kernel_rfl) ?_
              repeat (quiet_step (first | with_reducible exact cP _ _))
              refine wpQuiet_nil ?_
              rintro W9 ⟨⟨dq, osq⟩, hq⟩
              have HB20 : Below w.heap.size w W9 := by rw [hq]; exact HB19.trans ((below_regrown w19 dq osq).mono HB19.size)
              clear hq cP xm0 xm1 xo0 xo1 xs0 xs1 xt0 xt1
              go_simp
              go_wp2_with fail
              go_ret
              exact ⟨rfl, HB20⟩
      · have h5' : (5 < (items.length : Int)) := by omega
        rw [hf]
        go_wp2_with fail
        refine (proved_any L _).mono ?_
        rintro e w3 ⟨rfl, hB3⟩
        go_wp2_with fail
        go_ret
        exact ⟨rfl, below_from HB2 hB3⟩
    · have hf' : (refFault items certs == 0) = false := by simpa using hf
      go_wp2_with fail
      refine (proved_any L _).mono ?_
      rintro e w3 ⟨rfl, hB3⟩
      go_wp2_with fail
      go_ret
      exact ⟨rfl, below_from HB2 hB3⟩
end Go.Proofs.YthcolbjbafilcaaGreat
