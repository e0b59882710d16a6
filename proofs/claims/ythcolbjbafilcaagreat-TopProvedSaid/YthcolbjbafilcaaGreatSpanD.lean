/-
  chain: (*work).spans and its inner function.
-/
import Derived.Test.YthcolbjbafilcaaGreatLawChain
set_option linter.unusedSimpArgs false
set_option linter.unusedVariables false
namespace Go.Proofs.YthcolbjbafilcaaGreat
open Go.RowKit Go.Shelf Go.Sort
attribute [local go_sem] Oper.semAt_some

set_option maxRecDepth 100000 in
set_option maxHeartbeats 2000000 in
theorem spans1_any (L : LibSaid) (bs bw rh rs B1 B2 B3 : Nat) (items : List Item) (certs : List Cert) (cm : List (Int × Cert)) (ns : List Int) (hl : List (Int × Bool)) (hg : Good items cm ns) :
    ∀ (l : List Int) (sl : List (Int × Rng)) (v : Value) (w : World), (∀ n ∈ l, n ∈ ns) → w.heap[bs]? = some (spanObj bw rh rs) → WorkIs (fun b => b ≠ rs) w bw items certs cm ns → MapIs I Value.bool w rh hl → MapIs I Rng.v w rs sl →
      rh ≠ rs → bs ≠ rs → B1 ≠ rs → B2 ≠ rs → B3 ≠ rs →
      w.cell? ⟨B1, 0, none⟩ = some (.pointer (some ⟨bw, 0, none⟩)) → w.cell? ⟨B2, 0, none⟩ = some (.pointer (some ⟨bs, 0, none⟩)) →
      w.cell? ⟨B3, 0, none⟩ = some (.func (.func 81) #[] #[.pointer (some ⟨B1, 0, none⟩), .pointer (some ⟨B2, 0, none⟩), .pointer (some ⟨B3, 0, none⟩)]) →
      IntsIs (fun b => b ≠ rs) w v l →
      Calls Tryz.prog 81 #[v, .pointer (some ⟨B1, 0, none⟩), .pointer (some ⟨B2, 0, none⟩), .pointer (some ⟨B3, 0, none⟩)] w fun e w' => e = .returned (.tuple #[]) ∧ Kept (· = rs) w w' ∧ MapIs I Rng.v w' rs (spansFrom items cm ns hl l sl)
  | [], sl, v, w, hln, hs, hw, hmh, hms, d1, d2, d3, d4, d5, k1, k2, k3, hv => by
    obtain ⟨a, c, rfl, hc, hr⟩ := hv
    simp only [List.length_nil]
    go_enter Tryz.func81, Tryz.ntmps81
    go_wp2
    refine bodyPost_ret (results_none rfl _ _ _) rfl ?_
    exact ⟨rfl, Kept.refl _ _, hms⟩
  | n :: l, sl, v, w, hln, hs, hw, hmh, hms, d1, d2, d3, d4, d5, k1, k2, k3, hv => by
    obtain ⟨a, c, rfl, hc, hr⟩ := hv
    obtain ⟨b, o, rfl, hokb, hb, hrows⟩ := hr (by simp)
    have e0 := (hrows 0 n rfl).c0
    rw [Nat.zero_mul, Nat.add_zero] at e0
    obtain ⟨vi, vc, r, vn, hwo, -, -, hmap, -, hokw, hokr⟩ := hw.lies
    obtain ⟨wc0, wc1, wc2, wc3, -, -⟩ := work_cells hwo
    have hlk := lookup_cert hmap n
    simp only [List.length_cons]
    have hln0 : (((l.length + 1 : Nat) : Int) == 0) = false := by simp; omega
    have hS : ∀ W' : World, Below w.heap.size w W' → (W'.cell? ⟨B1, 0, none⟩ = some (.pointer (some ⟨bw, 0, none⟩)) ∧ W'.cell? ⟨bw, 2, none⟩ = some (.map (some r)) ∧ W'.cell? ⟨b, o, none⟩ = some (I n) ∧
        (Instr.lookup 194 (.map (some r)) (I n) false).run Tryz.prog W' = .ok (.agg #[I (certOf cm n).number, I (certOf cm n).item, I (certOf cm n).by_, I (certOf cm n).day, I (certOf cm n).valid, I (certOf cm n).diff.lo, I (certOf cm n).diff.hi]) W') := fun W' hB =>
      ⟨(hB.cell (p := ⟨B1, 0, none⟩) (World.block_lt_of_cell? _ _ k1)).trans k1, (hB.cell (p := ⟨bw, 2, none⟩) (World.block_lt_of_cell? _ _ wc2)).trans wc2, (hB.cell (p := ⟨b, o, none⟩) hb).trans e0, (hlk W' (hB.block _ hmap.lt)).1⟩
    have HS := Lib.hid hS
    clear hS
    have hlk0 := hlk
    clear hlk
    go_enter Tryz.func81, Tryz.ntmps81
    go_upto_region 5 with fail
    go_cut [5] (fun s5 wc => s5 = .pointer (some ⟨w.heap.size, 0, none⟩) ∧ RowAt wc w.heap.size 0 (certOf cm n).cells ∧ Below w.heap.size w wc)
    case first =>
      go_region_held3 (fun W' => W'.cell? ⟨B1, 0, none⟩ = some (.pointer (some ⟨bw, 0, none⟩)) ∧ W'.cell? ⟨bw, 2, none⟩ = some (.map (some r)) ∧ W'.cell? ⟨b, o, none⟩ = some (I n) ∧
          (Instr.lookup 194 (.map (some r)) (I n) false).run Tryz.prog W' = .ok (.agg #[I (certOf cm n).number, I (certOf cm n).item, I (certOf cm n).by_, I (certOf cm n).day, I (certOf cm n).valid, I (certOf cm n).diff.lo, I (certOf cm n).diff.hi]) W')
        (first
          | with_reducible exact HS.out _ (Below.refl _ _).drew
          | with_reducible exact HS.out _ (below_alloc _ _).drew
          | with_reducible exact HS.out _ (below_alloc _ _))
        (fail)
      all_goals
        go_wp2_with fail
        go_meet
        exact ⟨rfl, (row_new w (certOf cm n).cells 171 rfl).of_block rfl, (below_alloc _ _).drew⟩
    case rest =>
      obtain ⟨wA, rfl⟩ : ∃ x : World, x = wc := ⟨_, rfl⟩
      obtain ⟨rfl, hrow, hB⟩ := hcut
      have hmem : n ∈ ns := hln n List.mem_cons_self
      obtain ⟨hby0, hby1⟩ := hg.by_ _ hmem
      obtain ⟨m, hm⟩ := Int.eq_ofNat_of_zero_le hby0
      have hmi : m < items.length := by omega
      have hzs := heap_at hs
      have q1 := (hB.cell (p := ⟨B1, 0, none⟩) (World.block_lt_of_cell? _ _ k1)).trans k1
      have q2 := (hB.cell (p := ⟨B2, 0, none⟩) (World.block_lt_of_cell? _ _ k2)).trans k2
      have hsA := (hB.block _ hzs).trans hs
      have hmhA := hmh.below hB
      have hmsA := hms.below hB
      have hzr := hms.lt
      have Hms := Lib.hid hms
      have Hmh := Lib.hid hmh
      have HwA := Lib.hid (hw.below hB)
      have Hm := Lib.hid hm
      have Hk3 := Lib.hid k3
      have Hk2 := Lib.hid k2
      have Hk1 := Lib.hid k1
      have Hw := Lib.hid hw
      have Hs := Lib.hid hs
      have Hwo := Lib.hid hwo
      clear hm hlk0 e0 wc0 wc1 wc2 wc3 k1 k2 k3 hw hs hwo hms hmh hmap
      obtain ⟨c0, c1, c2, c3, c4, c5, c6⟩ := hrow.seven
      simp only [Nat.zero_add] at c1 c2 c3 c4 c5 c6
      have HcA := Lib.hid hrow
      have hzA : w.heap.size < wA.heap.size := World.block_lt_of_cell? _ _ c0
      go_wp2_with fail
      refine (holding_any bs bw rh rs hl (certOf cm n) _ hsA hmhA).mono ?_
      rintro e wH ⟨rfl, hBH⟩
      have hBw := below_from hB hBH
      have Hsl : Hid (spansFrom items cm ns hl (n :: l) sl = spansFrom items cm ns hl l (if (hl.lookup (certOf cm n).number).getD false then put sl (certOf cm n).number ((spanOf items cm ns hl sl (certOf cm n).by_ (certOf cm n).day (certOf cm n).number).plus (certOf cm n).diff) else sl)) := Lib.hid rfl
      have HsH := Lib.hid ((hBw.block _ hzs).trans Hs.out)
      have HmhH := Lib.hid (hmhA.below hBH)
      have HmsH := Lib.hid (hmsA.below hBH)
      have HwH := Lib.hid (HwA.out.below hBH)
      have hrowH := HcA.out.below hBH hzA
      have p1 := (hBH.cell (p := ⟨B1, 0, none⟩) (World.block_lt_of_cell? _ _ q1)).trans q1
      have p2 := (hBH.cell (p := ⟨B2, 0, none⟩) (World.block_lt_of_cell? _ _ q2)).trans q2
      clear c0 c1 c2 c3 c4 c5 c6 q1 q2 hsA hmhA hmsA
      go_upto_if 19 with (fail)
      go_cut [] (fun wc => Kept (· = rs) w wc ∧ MapIs I Rng.v wc rs (if (hl.lookup (certOf cm n).number).getD false then put sl (certOf cm n).number ((spanOf items cm ns hl sl (certOf cm n).by_ (certOf cm n).day (certOf cm n).number).plus (certOf cm n).diff) else sl))
      case first =>
        cases hh : (hl.lookup (certOf cm n).number).getD false with
        | false =>
          have Hh := Lib.hid hh
          clear hh
          go_wp2_with fail
          go_meet
          exact ⟨Kept.below hBw, by rw [Hh.out]; exact HmsH.out⟩
        | true =>
          have Hh := Lib.hid hh
          clear hh
          go_wp2_with fail
          have hsH := HsH.out
          obtain ⟨s0, s1, s2⟩ := span_cells hsH
          have hzsH : bs < wH.heap.size := heap_at hsH
          obtain ⟨c0, -, c2, c3, -, c5, c6⟩ := hrowH.seven
          rw [Hm.out] at c2
          simp only [Nat.zero_add] at c2 c3 c5 c6
          obtain ⟨o, hrun, hput⟩ := run_update (int_key Tryz.underlying3) Tryz.underlying202 HmsH.out (certOf cm n).number ((spanOf items cm ns hl sl (certOf cm n).by_ (certOf cm n).day (certOf cm n).number).plus (certOf cm n).diff)
          have Hrun := Lib.hid hrun
          have Hput := Lib.hid hput
          clear hrun hput
          have x2 := cell_regrown p2
          have xs2 := cell_regrown s2
          have y0 := cell_regrown c0
          have y2 := cell_regrown c2
          have y3 := cell_regrown c3
          have y5 := cell_regrown c5
          have y6 := cell_regrown c6
          have cS : ∀ d os, Calls Tryz.prog 50 #[.pointer (some ⟨bs, 0, none⟩), I m, I (certOf cm n).day, I (certOf cm n).number] (grow (redrawn wH d) os) fun e w'' => e = .returned (.agg #[I (spanOf items cm ns hl sl m (certOf cm n).day (certOf cm n).number).lo, I (spanOf items cm ns hl sl m (certOf cm n).day (certOf cm n).number).hi]) ∧ ∃ p : Regrown, w'' = grow (redrawn wH p.d) p.os := fun d os =>
            Calls.regrown_of (span_any L bs bw rh rs items certs cm ns hl sl m (certOf cm n).day (certOf cm n).number _ (((below_regrown wH d os).block _ hzsH).trans hsH) ((HwH.out.below (below_regrown wH d os)).mono (fun _ _ _ => trivial)) (HmhH.out.below (below_regrown wH d os)) (HmsH.out.below (below_regrown wH d os)) hmi hg.small.2)
          have cP : ∀ (a b : Rng) d os, Calls Tryz.prog 83 #[.agg #[I a.lo, I a.hi], .agg #[I b.lo, I b.hi]] (grow (redrawn wH d) os) fun e w'' => e = .returned (.agg #[I (a.plus b).lo, I (a.plus b).hi]) ∧ ∃ p : Regrown, w'' = grow (redrawn wH p.d) p.os := fun a b d os => Calls.regrown_of (plus_any a b _)
          refine (wpIn_wide (n := 5)).1 ?_
          refine region_tail (ro := none) (C := fun w' => ∃ p : Regrown, w' = grow (redrawn wH p.d) p.os) (o := _) 17 (by kernel_rfl) (by kernel_rfl) rfl (by kernel_rfl) ⟨⟨wH.drawn + 1, #[]⟩, by rw [grow_empty]; rfl⟩ ?_
          simp only [List.take_succ_cons, List.take_zero, List.drop_succ_cons, List.drop_zero]
          repeat (quiet_step (first | exact cS _ _ | exact cP (spanOf items cm ns hl sl m (certOf cm n).day (certOf cm n).number) (certOf cm n).diff _ _))
          refine wpQuiet_nil ?_
          refine ⟨by kernel_rfl, ?_⟩
          rintro W9 ⟨⟨dq, osq⟩, h9⟩
          have HB9 : Below wH.heap.size wH W9 := by rw [h9]; exact below_regrown wH dq osq
          clear h9 cS cP x2 xs2 y0 y2 y3 y5 y6
          have hrun9 := Hrun.out W9 (HB9.block _ HmsH.out.lt)
          have hput9 := Hput.out W9 (Nat.lt_of_lt_of_le HmsH.out.lt HB9.size)
          rw [Hm.out] at hrun9
          have Hput9 := Lib.hid hput9
          clear hput9
          go_simp
          go_wp2_with fail
          go_meet
          exact ⟨(Kept.below (below_from hBw HB9)).trans ((kept_putMap W9 rs o).mono (fun i hi h => h)), by rw [Hh.out, if_pos rfl]; exact Hput9.out⟩
      case rest =>
        obtain ⟨wB, rfl⟩ : ∃ x : World, x = wc := ⟨_, rfl⟩
        obtain ⟨hK, hmB⟩ := hcut
        have b1 := (hK.cell (p := ⟨B1, 0, none⟩) (World.block_lt_of_cell? _ _ Hk1.out) d3).trans Hk1.out
        have b2 := (hK.cell (p := ⟨B2, 0, none⟩) (World.block_lt_of_cell? _ _ Hk2.out) d4).trans Hk2.out
        have b3 := (hK.cell (p := ⟨B3, 0, none⟩) (World.block_lt_of_cell? _ _ Hk3.out) d5).trans Hk3.out
        have hsB := (hK.block bs (heap_at Hs.out) d2).trans Hs.out
        have hwB := Hw.out.kept hK (fun b hb h => hb h)
        have hmh0 := Hmh.out.kept hK d1
        have hrowB := fun i x hx => ((hrows (i + 1) x hx).of_block (hK.block b hb hokb))
        have hent : ∀ args w, (callFunc 81 args).run Tryz.prog w = .ok (.enter 81 args) w := enters_of Tryz.func81 (by kernel_rfl) rfl
        have hcl : l.length + 1 ≤ c := by simpa using hc
        clear hmem hby0 hby1 hr hrows hrow hB hBw hBH p1 p2 hrowH
        by_cases hc1 : c = 1
        · subst hc1
          have hl0 : l = [] := List.eq_nil_of_length_eq_zero (by omega)
          subst hl0
          go_wp2_with fail
          go_still_tail 3, (by kernel_rfl)
          change wpList _ _ _ _ _ wB.drew
          obtain ⟨W4, hW4⟩ : ∃ x : World, x = wB.drew := ⟨_, rfl⟩
          rw [← hW4]
          have HB4 : Below wB.heap.size wB W4 := by rw [hW4]; exact (Below.refl _ _).drew
          clear hW4
          go_wp2_with fail
          refine (spans1_any L bs bw rh rs B1 B2 B3 items certs cm ns hl hg [] _ _ W4 (fun _ h => by cases h) ((HB4.block _ (heap_at hsB)).trans hsB) (hwB.below HB4) (hmh0.below HB4) (hmB.below HB4) d1 d2 d3 d4 d5 ((HB4.cell (p := ⟨B1, 0, none⟩) (World.block_lt_of_cell? _ _ b1)).trans b1) ((HB4.cell (p := ⟨B2, 0, none⟩) (World.block_lt_of_cell? _ _ b2)).trans b2) ((HB4.cell (p := ⟨B3, 0, none⟩) (World.block_lt_of_cell? _ _ b3)).trans b3) ?_).mono ?_
          · exact SliceIs.nil _ _
          · rintro e w9 ⟨rfl, hK9, hm9⟩
            have Hfin : Hid (Kept (· = rs) w w9 ∧ MapIs I Rng.v w9 rs (spansFrom items cm ns hl (n :: []) sl)) := Lib.hid ⟨(hK.trans (Kept.below HB4)).trans hK9, by rw [Hsl.out]; exact hm9⟩
            clear hm9
            go_wp2_with fail
            go_end0
            exact ⟨rfl, Hfin.out⟩
        · have h1c : 1 < c := by omega
          have h1d : ¬ (1 : Int) = (c : Int) := by omega
          have h1e : ¬ (1 : Nat) = c := by omega
          have h1f : (1 : Int) ≤ ((l.length + 1 : Nat) : Int) := by omega
          have h1g : (1 : Int) ≤ (l.length : Int) + 1 := by omega
          have h1h : (0 : Int) ≤ (l.length : Int) := by omega
          go_wp2_with fail
          go_still_tail 3, (by kernel_rfl)
          change wpList _ _ _ _ _ wB.drew
          obtain ⟨W4, hW4⟩ : ∃ x : World, x = wB.drew := ⟨_, rfl⟩
          rw [← hW4]
          have hb4 : b < W4.heap.size := by rw [hW4]; exact Nat.lt_of_lt_of_le hb hK.size
          have HB4 : Below wB.heap.size wB W4 := by rw [hW4]; exact (Below.refl _ _).drew
          clear hW4
          go_wp2_with fail
          refine (spans1_any L bs bw rh rs B1 B2 B3 items certs cm ns hl hg l _ _ W4 (fun x hx => hln x (List.mem_cons_of_mem _ hx)) ((HB4.block _ (heap_at hsB)).trans hsB) (hwB.below HB4) (hmh0.below HB4) (hmB.below HB4) d1 d2 d3 d4 d5 ((HB4.cell (p := ⟨B1, 0, none⟩) (World.block_lt_of_cell? _ _ b1)).trans b1) ((HB4.cell (p := ⟨B2, 0, none⟩) (World.block_lt_of_cell? _ _ b2)).trans b2) ((HB4.cell (p := ⟨B3, 0, none⟩) (World.block_lt_of_cell? _ _ b3)).trans b3) ?_).mono ?_
          · exact ⟨_, _, rfl, by omega, fun _ => ⟨b, o + 1, rfl, hokb, hb4, fun i x hx => by have := (hrowB i x hx).below HB4 (Nat.lt_of_lt_of_le hb hK.size); rw [show o + (i + 1) * 1 = o + 1 + i * 1 from by omega] at this; exact this⟩⟩
          · rintro e w9 ⟨rfl, hK9, hm9⟩
            have Hfin : Hid (Kept (· = rs) w w9 ∧ MapIs I Rng.v w9 rs (spansFrom items cm ns hl (n :: l) sl)) := Lib.hid ⟨(hK.trans (Kept.below HB4)).trans hK9, by rw [Hsl.out]; exact hm9⟩
            clear hm9
            go_wp2_with fail
            go_end0
            exact ⟨rfl, Hfin.out⟩
end Go.Proofs.YthcolbjbafilcaaGreat
