/-
  chain: (*spanning).contradictory; Span.
-/
import Derived.Test.YthcolbjbafilcaaGreatSpanE
set_option linter.unusedSimpArgs false
set_option linter.unusedVariables false
namespace Go.Proofs.YthcolbjbafilcaaGreat
open Go.RowKit Go.Shelf Go.Sort
attribute [local go_sem] Oper.semAt_some

def contraAt (items : List Item) (cm : List (Int × Cert)) (ns : List Int) (hl : List (Int × Bool)) (sl : List (Int × Rng)) (n : Int) : Bool :=
  (hl.lookup (certOf cm n).number).getD false && decide ((spanOf items cm ns hl sl (certOf cm n).item (certOf cm n).day 1000).hi < (spanOf items cm ns hl sl (certOf cm n).item (certOf cm n).day 1000).lo)
theorem contraOf_any (items : List Item) (cm : List (Int × Cert)) (ns : List Int) (hl : List (Int × Bool)) (sl : List (Int × Rng)) : contraOf items cm ns hl sl = ns.any (contraAt items cm ns hl sl) := rfl
set_option maxRecDepth 100000 in
set_option maxHeartbeats 2000000 in
theorem contra_any (L : LibSaid) (bs bw rh rs : Nat) (items : List Item) (certs : List Cert) (cm : List (Int × Cert)) (ns : List Int) (hl : List (Int × Bool)) (sl : List (Int × Rng)) (w : World) (hg : Good items cm ns)
    (hs : w.heap[bs]? = some (spanObj bw rh rs)) (hw : WorkIs (fun _ => True) w bw items certs cm ns) (hmh : MapIs I Value.bool w rh hl) (hms : MapIs I Rng.v w rs sl) :
    Calls Tryz.prog 49 #[.pointer (some ⟨bs, 0, none⟩)] w fun e w' => e = .returned (.bool (contraOf items cm ns hl sl)) ∧ Below w.heap.size w w' := by
  obtain ⟨s0, s1, s2⟩ := span_cells hs
  obtain ⟨vi, vc, r, vn, hwo, -, -, hmap, ⟨an, cn, rfl, hcn, hrn⟩, -, -⟩ := hw.lies
  obtain ⟨wc0, wc1, wc2, wc3, -, -⟩ := work_cells hwo
  have Hs := Lib.hid hs
  have Hwo := Lib.hid hwo
  clear hs hwo
  have hsm := hg.small.2
  go_enter Tryz.func49, Tryz.ntmps49
  go_wp2_with fail
  go_loopg [15] ns.length (fun g i wr => ∃ j : Nat, g = ns.length - j ∧ j ≤ ns.length ∧ i = I j ∧ (∀ x ∈ ns.take j, contraAt items cm ns hl sl x = false) ∧ Below w.heap.size w wr)
  case atStart => exact ⟨0, rfl, Nat.zero_le _, rfl, by simp, Below.refl _ _⟩
  case round =>
    obtain ⟨j, rfl, hj, rfl, hpre, hB⟩ := hrel
    by_cases hlt : j < ns.length
    · obtain ⟨b, o, rfl, -, hb, hrows⟩ := hrn (by omega)
      have hx0 := ((hrows j ns[j] (List.getElem?_eq_getElem hlt)).below hB hb).c0
      rw [Nat.mul_one] at hx0
      have hmem : ns[j] ∈ ns := List.getElem_mem hlt
      obtain ⟨hit0, hit1⟩ := hg.item _ hmem
      obtain ⟨m, hm⟩ := Int.eq_ofNat_of_zero_le hit0
      have hmi : m < items.length := by omega
      have hlk := (lookup_cert (hmap.below hB) ns[j] wr rfl).1
      have hsB := (hB.block _ (heap_at Hs.out)).trans Hs.out
      have hwoB := (hB.block _ (heap_at Hwo.out)).trans Hwo.out
      have hwB := hw.below hB
      have hmhB := hmh.below hB
      have hmsB := hms.below hB
      clear s0 s1 s2 wc0 wc1 wc2 wc3
      obtain ⟨s0, s1, s2⟩ := span_cells hsB
      obtain ⟨wc0, wc1, wc2, wc3, -, -⟩ := work_cells hwoB
      have HsB := Lib.hid hsB
      have Hm := Lib.hid hm
      rw [hm] at hlk
      have Hat := Lib.hid (show contraAt items cm ns hl sl ns[j] = ((hl.lookup (certOf cm ns[j]).number).getD false && decide ((spanOf items cm ns hl sl (certOf cm ns[j]).item (certOf cm ns[j]).day 1000).hi < (spanOf items cm ns hl sl (certOf cm ns[j]).item (certOf cm ns[j]).day 1000).lo)) from rfl)
      clear hrows hrn hm hsB hwoB hit0 hit1
      go_wp2_with fail
      refine (span_any L bs bw rh rs items certs cm ns hl sl m (certOf cm ns[j]).day 1000 _ ((heap_old _ _ (heap_at HsB.out)).trans HsB.out) (hwB.below (below_alloc _ _)) (hmhB.below (below_alloc _ _)) (hmsB.below (below_alloc _ _)) hmi hg.small.2).mono ?_
      rintro e w1 ⟨rfl, hB1⟩
      have HB1 := below_from (below_alloc wr (.cells #[I (certOf cm ns[j]).number, I m, I (certOf cm ns[j]).by_, I (certOf cm ns[j]).day, I (certOf cm ns[j]).valid, I (certOf cm ns[j]).diff.lo, I (certOf cm ns[j]).diff.hi] 171)) hB1
      have hrow : RowAt w1 wr.heap.size 0 [I (certOf cm ns[j]).number, I m, I (certOf cm ns[j]).by_, I (certOf cm ns[j]).day, I (certOf cm ns[j]).valid, I (certOf cm ns[j]).diff.lo, I (certOf cm ns[j]).diff.hi] := (row_new wr [I (certOf cm ns[j]).number, I m, I (certOf cm ns[j]).by_, I (certOf cm ns[j]).day, I (certOf cm ns[j]).valid, I (certOf cm ns[j]).diff.lo, I (certOf cm ns[j]).diff.hi] 171 rfl).below hB1 (by simp)
      have hz1 : wr.heap.size < w1.heap.size := by have := hB1.size; simp at this; omega
      obtain ⟨c0, c1, c2, c3, c4, c5, c6⟩ := hrow.seven
      simp only [Nat.zero_add] at c1 c2 c3 c4 c5 c6
      have hsW := (HB1.block _ (heap_at HsB.out)).trans HsB.out
      have hmhW := hmhB.below HB1
      rw [← Hm.out] at c1
      clear s0 s1 s2 wc0 wc1 wc2 wc3 hx0 hlk
      go_wp2_with fail
      refine (holding_any bs bw rh rs hl (certOf cm ns[j]) _ ((heap_old _ _ (heap_at hsW)).trans hsW) (hmhW.below (below_alloc _ _))).mono ?_
      rintro e w2 ⟨rfl, hB2⟩
      have HB2 := below_from HB1 (below_from (below_alloc _ _) hB2)
      have d0 : w2.cell? ⟨w1.heap.size, 0, none⟩ = some (I (spanOf items cm ns hl sl m (certOf cm ns[j]).day 1000).lo) := (hB2.cell (p := ⟨w1.heap.size, 0, none⟩) (by simp)).trans (by simp [go_sem])
      have d1 : w2.cell? ⟨w1.heap.size, 1, none⟩ = some (I (spanOf items cm ns hl sl m (certOf cm ns[j]).day 1000).hi) := (hB2.cell (p := ⟨w1.heap.size, 1, none⟩) (by simp)).trans (by simp [go_sem])
      rw [← Hm.out] at d0 d1
      have HBB := below_from hB HB2
      clear c0 c1 c2 c3 c4 c5 c6
      cases hh : (hl.lookup (certOf cm ns[j]).number).getD false with
      | false =>
        have hat : contraAt items cm ns hl sl ns[j] = false := by rw [Hat.out, hh]; rfl
        have Htk := Lib.hid (take_succ_all hlt hpre hat)
        clear hat hpre hh
        go_wp2_with fail
        go_roundg (ns.length - (j + 1))
        case rel => exact ⟨j + 1, rfl, by omega, by go_num, Htk.out, HBB⟩
        case measure => omega
      | true =>
        by_cases hgt : (spanOf items cm ns hl sl (certOf cm ns[j]).item (certOf cm ns[j]).day 1000).hi < (spanOf items cm ns hl sl (certOf cm ns[j]).item (certOf cm ns[j]).day 1000).lo
        · have hat : contraAt items cm ns hl sl ns[j] = true := by rw [Hat.out, hh]; simpa using hgt
          have Hfin : Hid (contraOf items cm ns hl sl = true) := Lib.hid (by rw [contraOf_any, List.any_eq_true]; exact ⟨_, hmem, hat⟩)
          clear hat hpre hh
          go_wp2_with fail
          go_ret
          exact ⟨ret_bool Hfin.out.symm, HBB⟩
        · have hat : contraAt items cm ns hl sl ns[j] = false := by rw [Hat.out, hh]; simpa using hgt
          have Htk := Lib.hid (take_succ_all hlt hpre hat)
          have hgt' : decide ((spanOf items cm ns hl sl (certOf cm ns[j]).item (certOf cm ns[j]).day 1000).hi < (spanOf items cm ns hl sl (certOf cm ns[j]).item (certOf cm ns[j]).day 1000).lo) = false := by simpa using hgt
          clear hat hpre hh
          go_wp2_with fail
          go_roundg (ns.length - (j + 1))
          case rel => exact ⟨j + 1, rfl, by omega, by go_num, Htk.out, HBB⟩
          case measure => omega
    · obtain rfl : j = ns.length := by omega
      have Hfin : Hid (contraOf items cm ns hl sl = false) := Lib.hid (by rw [contraOf_any, List.any_eq_false]; rw [List.take_length] at hpre; intro x hx; simp [hpre x hx])
      clear hpre
      go_wp2_with fail
      go_ret
      exact ⟨ret_bool Hfin.out.symm, hB⟩
def spanErr (items : List Item) (certs : List Cert) (item day : Int) : Int :=
  if askedErr items certs item day ≠ 0 then askedErr items certs item day
  else match readLoop certs [] [] with
    | none => 0
    | some (cm, ns) => if contraOf items cm (sortI ns) (HL items cm (sortI ns)) (SL items cm (sortI ns)) then 9 else 0
def spanVal (items : List Item) (certs : List Cert) (item day : Int) : Rng :=
  if spanErr items certs item day ≠ 0 then ⟨0, 0⟩
  else match readLoop certs [] [] with
    | none => ⟨0, 0⟩
    | some (cm, ns) => spanOf items cm (sortI ns) (HL items cm (sortI ns)) (SL items cm (sortI ns)) item day 1000
def SpanPost (r : Rng) (k : Int) (w : World) (e : Ending) (w' : World) : Prop := e = .returned (.tuple #[.agg #[I r.lo, I r.hi], I k]) ∧ Below w.heap.size w w'
set_option maxRecDepth 100000 in
set_option maxHeartbeats 2000000 in
theorem Span_any (L : LibSaid) (vi vc : Value) (items : List Item) (certs : List Cert) (ok : Nat → Prop) (item day : Int) (w : World) (hil : items.length ≤ 1000) (hcl : certs.length ≤ 1000) (hi : ItemsIs ok w vi items) (hc : CertsIs ok w vc certs) :
    Calls Tryz.prog 25 #[.agg #[vi, vc], I item, I day] w (SpanPost (spanVal items certs item day) (spanErr items certs item day) w) := by
  go_enter Tryz.func25, Tryz.ntmps25
  go_wp2_with fail
  have HB0 := below_alloc2 w (.cells #[vi, vc] 104) (.cells #[I 0, I 0] 96)
  refine (asked_any L.sort vi vc items certs ok item day _ hil hcl (hi.below HB0) (hc.below HB0)).mono ?_
  rintro e w1 (⟨hne, rfl, hB1⟩ | ⟨hz, hbz, hin, bw, r, cm, ns, hrl, rfl, hB1, hbw, hr, hw1, hmr⟩)
  · have hne' : (askedErr items certs item day != 0) = true := by simpa using hne
    have HB1 := below_from HB0 hB1
    have k0 : w1.cell? ⟨w.heap.size + 1, 0, none⟩ = some (I 0) := (hB1.cell (p := ⟨w.heap.size + 1, 0, none⟩) (by simp)).trans (by simp [go_sem])
    have k1 : w1.cell? ⟨w.heap.size + 1, 1, none⟩ = some (I 0) := (hB1.cell (p := ⟨w.heap.size + 1, 1, none⟩) (by simp)).trans (by simp [go_sem])
    have f0 : w1.frozen? ⟨w.heap.size + 1, 0, none⟩ = false := (hB1.frozen (p := ⟨w.heap.size + 1, 0, none⟩) (by simp)).trans (by simp [go_sem])
    have f1 : w1.frozen? ⟨w.heap.size + 1, 1, none⟩ = false := (hB1.frozen (p := ⟨w.heap.size + 1, 1, none⟩) (by simp)).trans (by simp [go_sem])
    have Hz : Hid (spanErr items certs item day = askedErr items certs item day ∧ spanVal items certs item day = ⟨0, 0⟩) := Lib.hid (by
      have e : spanErr items certs item day = askedErr items certs item day := by unfold spanErr; rw [if_pos hne]
      exact ⟨e, by unfold spanVal; rw [if_pos (by rw [e]; exact hne)]⟩)
    go_wp2_with fail
    obtain ⟨q0, q1⟩ := two_cells (W := w1) (p := w.heap.size + 1) (x := I 0) (y := I 0) k0 k1
    refine name_post (Q := bodyPost _ _ _) ?_
    intro W9 h9
    rw [← h9] at q0 q1
    refine bodyPost_ret (v := .tuple #[.agg #[I 0, I 0], I (askedErr items certs item day)]) (by simp [results, Tryz.results25, go_sem, q0, q1]) rfl ⟨by rw [Hz.out.1, Hz.out.2], ?_⟩
    rw [h9]
    exact (HB1.setCell (p := ⟨w.heap.size + 1, 0, none⟩) (show _ ≤ w.heap.size + 1 by omega) _).setCell (p := ⟨w.heap.size + 1, 1, none⟩) (show _ ≤ w.heap.size + 1 by omega) _
  · have HB1 := below_from HB0 hB1
    have hg := good_of_read hbz hrl
    have Hz : Hid (askedErr items certs item day = 0) := Lib.hid hz
    have Hrl := Lib.hid hrl
    have k0 : w1.cell? ⟨w.heap.size + 1, 0, none⟩ = some (I 0) := (hB1.cell (p := ⟨w.heap.size + 1, 0, none⟩) (by simp)).trans (by simp [go_sem])
    have k1 : w1.cell? ⟨w.heap.size + 1, 1, none⟩ = some (I 0) := (hB1.cell (p := ⟨w.heap.size + 1, 1, none⟩) (by simp)).trans (by simp [go_sem])
    have f0 : w1.frozen? ⟨w.heap.size + 1, 0, none⟩ = false := (hB1.frozen (p := ⟨w.heap.size + 1, 0, none⟩) (by simp)).trans (by simp [go_sem])
    have f1 : w1.frozen? ⟨w.heap.size + 1, 1, none⟩ = false := (hB1.frozen (p := ⟨w.heap.size + 1, 1, none⟩) (by simp)).trans (by simp [go_sem])
    have hzr : w.heap.size + 1 < w1.heap.size := World.block_lt_of_cell? _ _ k0
    have hin' : 0 ≤ item ∧ item < items.length := by simp [inB] at hin; omega
    obtain ⟨m, rfl⟩ := Int.eq_ofNat_of_zero_le hin'.1
    have hmi : m < items.length := by omega
    clear hz hrl hin hin'
    generalize hns : sortI ns = ns1 at *
    have Hns := Lib.hid hns
    clear hns
    go_wp2_with fail
    refine (spans_any L bw items certs cm ns1 _ hw1 hg).mono ?_
    rintro e w2 ⟨bs, rh, rs, rfl, hsp, hmh, hms, hB2, hl1, hl2, hl3⟩
    have HB2 := below_from HB1 hB2
    have Hsp := Lib.hid hsp
    clear hsp
    go_wp2_with fail
    refine (contra_any L bs bw rh rs items certs cm ns1 (HL items cm ns1) (SL items cm ns1) _ hg Hsp.out (hw1.below hB2) hmh hms).mono ?_
    rintro e w3 ⟨rfl, hB3⟩
    have HB3 := below_from HB2 hB3
    have hB13 := below_from hB2 hB3
    have k0 := (hB13.cell (p := ⟨w.heap.size + 1, 0, none⟩) hzr).trans k0
    have k1 := (hB13.cell (p := ⟨w.heap.size + 1, 1, none⟩) hzr).trans k1
    have f0 := (hB13.frozen (p := ⟨w.heap.size + 1, 0, none⟩) hzr).trans f0
    have f1 := (hB13.frozen (p := ⟨w.heap.size + 1, 1, none⟩) hzr).trans f1
    cases hc : contraOf items cm ns1 (HL items cm ns1) (SL items cm ns1) with
    | true =>
      have He : Hid (spanErr items certs m day = 9 ∧ spanVal items certs m day = ⟨0, 0⟩) := Lib.hid (by
        have e : spanErr items certs m day = 9 := by unfold spanErr; rw [if_neg (by rw [Hz.out]; simp), Hrl.out]; simp only [Hns.out, hc, if_true]
        exact ⟨e, by unfold spanVal; rw [if_pos (by rw [e]; decide)]⟩)
      clear hc
      obtain ⟨q0, q1⟩ := two_cells (W := w3) (p := w.heap.size + 1) (x := I 0) (y := I 0) k0 k1
      go_wp2_with fail
      refine name_post (Q := bodyPost _ _ _) ?_
      intro W9 h9
      rw [← h9] at q0 q1
      refine bodyPost_ret (v := .tuple #[.agg #[I 0, I 0], I 9]) (by simp [results, Tryz.results25, go_sem, q0, q1]) rfl ⟨by rw [He.out.1, He.out.2], ?_⟩
      rw [h9]
      exact (HB3.setCell (p := ⟨w.heap.size + 1, 0, none⟩) (show _ ≤ w.heap.size + 1 by omega) _).setCell (p := ⟨w.heap.size + 1, 1, none⟩) (show _ ≤ w.heap.size + 1 by omega) _
    | false =>
      have He : Hid (spanErr items certs m day = 0 ∧ spanVal items certs m day = spanOf items cm ns1 (HL items cm ns1) (SL items cm ns1) m day 1000) := Lib.hid (by
        have e : spanErr items certs m day = 0 := by unfold spanErr; rw [if_neg (by rw [Hz.out]; simp), Hrl.out]; simp only [Hns.out, hc]; rfl
        exact ⟨e, by unfold spanVal; rw [if_neg (by rw [e]; simp), Hrl.out]; simp only [Hns.out]⟩)
      clear hc
      go_wp2_with fail
      refine (span_any L bs bw rh rs items certs cm ns1 (HL items cm ns1) (SL items cm ns1) m day 1000 _ ((hB3.block _ (heap_at Hsp.out)).trans Hsp.out) (hw1.below hB13) (hmh.below hB3) (hms.below hB3) hmi hg.small.2).mono ?_
      rintro e w4 ⟨rfl, hB4⟩
      have HB4 := below_from HB3 hB4
      have hz3 : w.heap.size + 1 < w3.heap.size := World.block_lt_of_cell? _ _ k0
      have k0 := (hB4.cell (p := ⟨w.heap.size + 1, 0, none⟩) hz3).trans k0
      have k1 := (hB4.cell (p := ⟨w.heap.size + 1, 1, none⟩) hz3).trans k1
      have f0 := (hB4.frozen (p := ⟨w.heap.size + 1, 0, none⟩) hz3).trans f0
      have f1 := (hB4.frozen (p := ⟨w.heap.size + 1, 1, none⟩) hz3).trans f1
      obtain ⟨q0, q1⟩ := two_cells (W := w4) (p := w.heap.size + 1) (x := I (spanOf items cm ns1 (HL items cm ns1) (SL items cm ns1) m day 1000).lo) (y := I (spanOf items cm ns1 (HL items cm ns1) (SL items cm ns1) m day 1000).hi) k0 k1
      go_wp2_with fail
      refine name_post (Q := bodyPost _ _ _) ?_
      intro W9 h9
      rw [← h9] at q0 q1
      refine bodyPost_ret (v := .tuple #[.agg #[I (spanOf items cm ns1 (HL items cm ns1) (SL items cm ns1) m day 1000).lo, I (spanOf items cm ns1 (HL items cm ns1) (SL items cm ns1) m day 1000).hi], I 0]) (by simp [results, Tryz.results25, go_sem, q0, q1]) rfl ⟨by rw [He.out.1, He.out.2], ?_⟩
      rw [h9]
      exact (HB4.setCell (p := ⟨w.heap.size + 1, 0, none⟩) (show _ ≤ w.heap.size + 1 by omega) _).setCell (p := ⟨w.heap.size + 1, 1, none⟩) (show _ ≤ w.heap.size + 1 by omega) _
end Go.Proofs.YthcolbjbafilcaaGreat
