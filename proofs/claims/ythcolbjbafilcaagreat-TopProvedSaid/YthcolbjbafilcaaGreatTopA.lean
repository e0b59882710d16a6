/-
  The statements of package hard: In, to, the readings.
-/
import Derived.Test.YthcolbjbafilcaaGreatRefE
import Derived.Test.YthcolbjbafilcaaGreatHardH
set_option linter.unusedSimpArgs false
set_option linter.unusedVariables false
namespace Go.Proofs.YthcolbjbafilcaaGreat
open Go.RowKit Go.Shelf Go.Sort
attribute [local go_sem] Oper.semAt_some

theorem hin_any (n lo hi : Int) (w : World) : Calls Tryz.prog 29 #[I n, I lo, I hi] w fun e w' => e = .returned (.bool (inB n lo hi)) ∧ w = w' := by
  by_cases h1 : lo ≤ n
  · go_enter Tryz.func29, Tryz.ntmps29
    go_wp2
    go_ret
    exact ⟨by simp [h1, inB], rfl⟩
  · have h1' : decide (lo ≤ n) = false := by simpa using h1
    have Hd := Lib.hid h1'
    go_enter Tryz.func29, Tryz.ntmps29
    go_wp2
    go_ret
    exact ⟨by unfold inB; rw [Hd.out]; rfl, rfl⟩
theorem to_any (r : Rng) (w : World) : Calls Tryz.prog 35 #[.agg #[I r.lo, I r.hi]] w fun e w' => e = .returned (.agg #[I r.lo, I r.hi]) ∧ Below w.heap.size w w' := by
  obtain ⟨lo, hi⟩ := r
  go_enter Tryz.func35, Tryz.ntmps35
  go_wp2_with fail
  refine name_post (Q := bodyPost _ _ _) ?_
  intro W9 h9
  have q0 : W9.cell? ⟨w.heap.size + 1, 0, none⟩ = some (I lo) := by rw [h9]; simp [go_sem]
  have q1 : W9.cell? ⟨w.heap.size + 1, 1, none⟩ = some (I hi) := by rw [h9]; simp [go_sem]
  have hB : Below w.heap.size w W9 := by rw [h9]; exact below_alloc2 _ _ _
  exact bodyPost_ret (v := .agg #[I lo, I hi]) (by simp [results, Tryz.results35, go_sem, q0, q1]) rfl ⟨rfl, hB⟩
theorem list_none (w : World) : Calls Tryz.prog 34 #[.slice none 0 0] w fun e w' => e = .returned (.slice none 0 0) ∧ w = w' := by
  go_enter Tryz.func34, Tryz.ntmps34
  go_wp2_with fail
  go_ret
  exact ⟨rfl, rfl⟩
theorem info_hrdg : (Tryz.prog.info? 137).map (fun i => (i.zero, i.size, i.bytes)) = some (some (.agg #[I 0, I 0]), 2, 16) := by kernel_rfl
def ReadingsPost (l : List Rdg) (w : World) (e : Ending) (w' : World) : Prop := ∃ v, e = .returned v ∧ RdgsIs (w.heap.size ≤ ·) w' v l ∧ Below w.heap.size w w'
set_option maxRecDepth 100000 in
set_option maxHeartbeats 4000000 in
theorem readings_any (ok : Nat → Prop) (vr : Value) (l : List Rdg) (w : World) (hl : l.length ≤ 1000) (hr : RdgsIs ok w vr l) :
    Calls Tryz.prog 14 #[vr] w (ReadingsPost l w) := by
  obtain ⟨ar, cr, rfl, hcr, hrr⟩ := hr
  go_enter Tryz.func14, Tryz.ntmps14
  go_wp2_with fail
  go_loopg [3, 4] l.length (fun g v i wr => ∃ (j : Nat) (u : Value), g = l.length - j ∧ j ≤ l.length ∧ i = I j ∧ u = v ∧ Owns Rdg.cells 2 w.heap.size 137 wr u (l.take j) ∧ Below w.heap.size w wr)
  case atStart => exact ⟨0, _, rfl, Nat.zero_le _, rfl, rfl, Owns.nil _, Below.refl _ _⟩
  case round =>
    obtain ⟨j, s3, rfl, hj, rfl, rfl, hown, HBr⟩ := hrel
    by_cases hlt : j < l.length
    · obtain ⟨b, o, rfl, -, hb, hrows⟩ := hrr (by omega)
      have hrow := (hrows j l[j] (List.getElem?_eq_getElem hlt)).below HBr hb
      obtain ⟨e0, e1⟩ := hrow.two
      have Htk : Hid (l.take (j + 1) = l.take j ++ [l[j]]) := Lib.hid (List.take_succ_eq_append_getElem hlt)
      have hlen : (l.take j).length ≤ 1000 := by simp; omega
      have Hown := Lib.hid hown
      have hlt' : (j : Int) < (l.length : Int) := by omega
      have hzb : b < wr.heap.size := by have := HBr.size; omega
      clear hrows hrr hrow hown
      generalize l[j] = x at *
      generalize l.take j = L at *
      obtain ⟨m, rd⟩ := x
      obtain ⟨i0, hi, hz0, hz1, hz2⟩ := info_parts info_hrdg
      have hszr := HBr.size
      have hbv : ∀ k, s3.ownBlock = some k → w.heap.size ≤ k := fun k hk => (Hown.out.lt k hk).1
      go_upto_region 11 with fail
      go_region_law (
        (refine step_append_lies _ (by rfl) _ _ _ (by rfl) w.heap.size 137 i0 _ 2 16 Tryz.underlying62 hi hz0 hz1 hz2 rfl (by omega) s3 L.length (L.flatMap Rdg.cells) (by rfl) ((World.ownsRow.alloc Hown.out _).drew) ⟨wr.heap.size, 0, none⟩ 1 1 [I m, I rd] (by rfl) (by rfl) (World.news_of_block (cs := #[I m, I rd]) (t := 137) (fr := (0, 0)) (heap_new wr _ rfl)) (by simp [Value.oneCell']) (by omega) (by unfold maxLen; omega) (by omega) (by simp; omega) (wr.heap.size + 1) (by simp) ?_
         intro gg cap w1 hown1 hgrow hat hlt1))
      all_goals
        go_wp2_with fail
        go_roundg (l.length - (j + 1))
        case measure => omega
        case rel =>
          have hk1 : Kept (fun i => some i = s3.ownBlock) wr w1 := (((Kept.refl _ wr).alloc _).drew).trans (grown_kept hgrow)
          refine ⟨j + 1, .slice (some ⟨gg, 0, none⟩) (L.length + 1) cap, rfl, by omega, by go_num, rfl, ?_, ?_⟩
          · rw [Htk.out]
            exact Owns.of_snoc hown1 (by simp) rfl
          · exact HBr.trans ⟨hk1.os, hk1.tape, hk1.output, hk1.size, fun i hi => hk1.block i (by have := HBr.size; omega) (fun h => by have := hbv _ h.symm; omega)⟩
    · obtain rfl : j = l.length := by omega
      rw [List.take_length] at hown
      have Hown := Lib.hid hown
      clear hown
      go_wp2_with fail
      go_ret
      exact ⟨_, rfl, (Hown.out.read (fun _ => rfl) (by decide)).mono (fun b h _ => h), HBr⟩
end Go.Proofs.YthcolbjbafilcaaGreat
