/-
  Package hard: CheckBook and Bias, of a book that has no table and is right.
-/
import Derived.Test.YthcolbjbafilcaaGreatHardB
import Derived.Test.YthcolbjbafilcaaGreatSpanF
set_option linter.unusedSimpArgs false
set_option linter.unusedVariables false
namespace Go.Proofs.YthcolbjbafilcaaGreat
open Go.RowKit Go.Shelf Go.Sort
attribute [local go_sem] Oper.semAt_some

theorem hx_machs {ok : Nat → Prop} {w w' : World} {l : List Mach} (h : ∀ x ∈ l, BlocksIs ok w x.vb x.blocks) (hB : Below w.heap.size w w') : ∀ x ∈ l, BlocksIs ok w' x.vb x.blocks := fun x hx => (h x hx).below hB
set_option maxRecDepth 100000 in
set_option maxHeartbeats 1000000 in
theorem hcheck_ok (ok : Nat → Prop) (sc : Int) (vt vm : Value) (l : List Mach) (w : World) (hsc : inB sc 1 4 = true) (hl : l.length ≤ 6) (ht : TabsIs ok w vt []) (hm : MachsIs ok w vm l) (hx : ∀ x ∈ l, BlocksIs ok w x.vb x.blocks)
    (h5 : ∀ x ∈ l, x.blocks.length ≤ 5) (hok : ∀ x ∈ l, x.ok sc = true) :
    Calls Tryz.prog 30 #[.agg #[I sc, vt, vm]] w fun e w' => e = .returned (I 0) ∧ Below w.heap.size w w' := by
  have HB0 := below_alloc w (.cells #[I sc, vt, vm] 57)
  have hmf : ∀ (fn : Fn) (first cap : Array Value) (w : World), (Instr.makeFunc fn first cap).run Tryz.prog w = .ok (.func fn first cap) w := fun _ _ _ _ => rfl
  have e1 : ∀ args w, (callFunc 52 args).run Tryz.prog w = .ok (.enter 52 args) w := enters_of Tryz.func52 (by kernel_rfl) rfl
  have e2 : ∀ args w, (callFunc 54 args).run Tryz.prog w = .ok (.enter 54 args) w := enters_of Tryz.func54 (by kernel_rfl) rfl
  have e3 : ∀ args w, (callFunc 55 args).run Tryz.prog w = .ok (.enter 55 args) w := enters_of Tryz.func55 (by kernel_rfl) rfl
  have e4 : ∀ args w, (callFunc 56 args).run Tryz.prog w = .ok (.enter 56 args) w := enters_of Tryz.func56 (by kernel_rfl) rfl
  have ht0 := ht
  have hm0 := hm
  obtain ⟨at_, ct, rfl, hct, -⟩ := ht
  obtain ⟨am, cm, rfl, hcm, -⟩ := hm
  simp only [List.length_nil] at ht0 ⊢
  have hl6 : decide ((6 : Int) < (l.length : Int)) = false := by simp; omega
  have HE1 := Lib.hid e1
  have HE2 := Lib.hid e2
  have HE3 := Lib.hid e3
  have HE4 := Lib.hid e4
  have A2 : l.all (fun x => decide (x.blocks.length ≤ 5)) = true := by rw [List.all_eq_true]; intro x h; simpa using h5 x h
  have A4 : l.all (Mach.ok sc) = true := by rw [List.all_eq_true]; exact hok
  have HA2 := Lib.hid A2
  have HA4 := Lib.hid A4
  clear e1 e2 e3 e4 A2 A4
  go_enter Tryz.func30, Tryz.ntmps30
  go_wp2_with fail
  refine (htab_all 52 #[] #[] HE1.out (fun _ => true) [] ok _ _ (by simp) (ht0.below HB0) (fun _ _ _ h => by cases h)).mono ?_
  rintro e w1 ⟨rfl, hB1⟩
  have HB1 := below_from HB0 hB1
  obtain ⟨hc1, hf1⟩ := bcell hB1
  have hz1 : w.heap.size < w1.heap.size := by have := hB1.size; simp at this; omega
  simp only [List.all_nil]
  go_wp2_with fail
  refine (hmach_all 54 #[] #[] HE2.out (fun x => decide (x.blocks.length ≤ 5)) l ok _ _ (by omega) (hm0.below HB1) (fun W hW x h => hlen5_any ok x W ((hx x h).below (below_from HB1 hW)))).mono ?_
  rintro e w2 ⟨rfl, hB2⟩
  have HB2 := below_from HB1 hB2
  obtain ⟨hc2, hf2⟩ := bcell hB2
  have hz2 : w.heap.size < w2.heap.size := by have := hB2.size; omega
  rw [HA2.out]
  go_wp2_with fail
  refine (hwithin_any _ _ _ _).mono ?_
  rintro e w' ⟨rfl, rfl⟩
  rw [hsc]
  go_wp2_with fail
  refine (htab_all 55 #[.agg #[I sc, .slice at_ 0 ct, .slice am l.length cm]] #[] HE3.out (fun _ => true) [] ok _ _ (by simp) (ht0.below HB2) (fun _ _ _ h => by cases h)).mono ?_
  rintro e w3 ⟨rfl, hB3⟩
  have HB3 := below_from HB2 hB3
  obtain ⟨hc3, hf3⟩ := bcell hB3
  have hz3 : w.heap.size < w3.heap.size := by have := hB3.size; omega
  simp only [List.all_nil]
  go_wp2_with fail
  refine (hmach_all 56 #[.agg #[I sc, .slice at_ 0 ct, .slice am l.length cm]] #[] HE4.out (Mach.ok sc) l ok _ _ (by omega) (hm0.below HB3) (fun W hW x h => hmachine_any ok sc _ _ x W (by have := h5 x h; omega) ((hx x h).below (below_from HB3 hW)))).mono ?_
  rintro e w4 ⟨rfl, hB4⟩
  have HB4 := below_from HB3 hB4
  rw [HA4.out]
  go_wp2_with fail
  go_ret
  exact ⟨rfl, HB4⟩
/-- A book of one scale, with no table, that has one machine. -/
structure HBookIs (ok : Nat → Prop) (w : World) (vt vm : Value) (bl : List Block) : Prop where
  tabs : TabsIs ok w vt []
  machs : ∃ vb, MachsIs ok w vm [⟨0, vb, bl⟩] ∧ BlocksIs ok w vb bl
  few : bl.length ≤ 5
  fine : bl.all Block.ok = true
theorem HBookIs.below {ok : Nat → Prop} {w w' : World} {vt vm : Value} {bl : List Block} (h : HBookIs ok w vt vm bl) (hB : Below w.heap.size w w') : HBookIs ok w' vt vm bl := by
  obtain ⟨vb, h1, h2⟩ := h.machs
  exact ⟨h.tabs.below hB, ⟨vb, h1.below hB, h2.below hB⟩, h.few, h.fine⟩
theorem HBookIs.check {ok : Nat → Prop} {w : World} {vt vm : Value} {bl : List Block} (h : HBookIs ok w vt vm bl) : Calls Tryz.prog 30 #[.agg #[I 1, vt, vm]] w fun e w' => e = .returned (I 0) ∧ Below w.heap.size w w' := by
  obtain ⟨vb, h1, h2⟩ := h.machs
  exact hcheck_ok ok 1 vt vm _ w (by decide) (by simp) h.tabs h1 (fun x hx => by rw [List.mem_singleton] at hx; subst hx; exact h2) (fun x hx => by rw [List.mem_singleton] at hx; subst hx; exact h.few) (fun x hx => by rw [List.mem_singleton] at hx; subst hx; simp only [Mach.ok, h.fine]; simp [inB, wi, Go.RowKit.wrap64])
set_option maxRecDepth 100000 in
set_option maxHeartbeats 1000000 in
theorem hBias_ok (L : LibSaid) (ok : Nat → Prop) (vt vm : Value) (bl : List Block) (w : World) (h : HBookIs ok w vt vm bl) (hne : (biasOf bl).lo ≤ (biasOf bl).hi) :
    Calls Tryz.prog 11 #[.agg #[I 1, vt, vm], I 0] w (SpanPost (biasOf bl) 0 w) := by
  have HB0 := below_alloc2 w (.cells #[I 1, vt, vm] 57) (.cells #[I 0, I 0] 50)
  have h0 := h.below HB0
  go_enter Tryz.func11, Tryz.ntmps11
  go_wp2_with fail
  refine h0.check.mono ?_
  rintro e w1 ⟨rfl, hB1⟩
  have HB1 := below_from HB0 hB1
  have h1 := h0.below hB1
  obtain ⟨vb, hm, hb⟩ := h1.machs
  obtain ⟨am, cm, rfl, hcm, hrm⟩ := hm
  obtain ⟨b, o, rfl, -, hbb, hrows⟩ := hrm (by simp)
  obtain ⟨e0, e1⟩ := (hrows 0 _ rfl).two
  simp only [Nat.zero_mul, Nat.add_zero, List.length_singleton] at e0 e1 ⊢
  have t0 : w1.cell? ⟨w.heap.size, 0, none⟩ = some (I 1) := (hB1.cell (p := ⟨w.heap.size, 0, none⟩) (by simp; omega)).trans (by simp [go_sem])
  have t2 : w1.cell? ⟨w.heap.size, 2, none⟩ = some (.slice (some ⟨b, o, none⟩) 1 cm) := (hB1.cell (p := ⟨w.heap.size, 2, none⟩) (by simp; omega)).trans (by simp [go_sem])
  have k0 : w1.cell? ⟨w.heap.size + 1, 0, none⟩ = some (I 0) := (hB1.cell (p := ⟨w.heap.size + 1, 0, none⟩) (by simp)).trans (by simp [go_sem])
  have k1 : w1.cell? ⟨w.heap.size + 1, 1, none⟩ = some (I 0) := (hB1.cell (p := ⟨w.heap.size + 1, 1, none⟩) (by simp)).trans (by simp [go_sem])
  have f0 : w1.frozen? ⟨w.heap.size + 1, 0, none⟩ = false := (hB1.frozen (p := ⟨w.heap.size + 1, 0, none⟩) (by simp)).trans (by simp [go_sem])
  have f1 : w1.frozen? ⟨w.heap.size + 1, 1, none⟩ = false := (hB1.frozen (p := ⟨w.heap.size + 1, 1, none⟩) (by simp)).trans (by simp [go_sem])
  clear hrows hrm
  go_wp2_with fail
  refine (hwithin_any _ _ _ _).mono ?_
  rintro e w' ⟨rfl, rfl⟩
  have hw0 : inB 0 0 0 = true := rfl
  rw [hw0]
  have Hne := Lib.hid (show decide ((biasOf bl).hi < (biasOf bl).lo) = false by simp; omega)
  have hz1 : w.heap.size + 1 < w1.heap.size := World.block_lt_of_cell? _ _ k0
  have hz0 : w.heap.size < w1.heap.size := by omega
  go_wp2_with fail
  refine (hbias_any L ok ⟨0, vb, bl⟩ _ (by have := h.few; simp only; omega) hb).mono ?_
  rintro e w2 ⟨rfl, hB2⟩
  have HB2 := below_from HB1 hB2
  have k0 := (hB2.cell (p := ⟨w.heap.size + 1, 0, none⟩) hz1).trans k0
  have k1 := (hB2.cell (p := ⟨w.heap.size + 1, 1, none⟩) hz1).trans k1
  have f0 := (hB2.frozen (p := ⟨w.heap.size + 1, 0, none⟩) hz1).trans f0
  have f1 := (hB2.frozen (p := ⟨w.heap.size + 1, 1, none⟩) hz1).trans f1
  clear t0 t2 e0 e1
  go_wp2_with fail
  refine (hempty_any (biasOf bl) _).mono ?_
  rintro e w3 ⟨rfl, hB3⟩
  rw [Hne.out]
  have HB3 := below_from HB2 (below_from (below_alloc _ _) hB3)
  have hz2 : w.heap.size + 1 < w2.heap.size := World.block_lt_of_cell? _ _ k0
  have b0 : w3.cell? ⟨w2.heap.size, 0, none⟩ = some (I (biasOf bl).lo) := (hB3.cell (p := ⟨w2.heap.size, 0, none⟩) (by simp)).trans (by simp [go_sem])
  have b1 : w3.cell? ⟨w2.heap.size, 1, none⟩ = some (I (biasOf bl).hi) := (hB3.cell (p := ⟨w2.heap.size, 1, none⟩) (by simp)).trans (by simp [go_sem])
  have hB23 := below_from (below_alloc _ _) hB3
  have k0 := (hB23.cell (p := ⟨w.heap.size + 1, 0, none⟩) hz2).trans k0
  have k1 := (hB23.cell (p := ⟨w.heap.size + 1, 1, none⟩) hz2).trans k1
  have f0 := (hB23.frozen (p := ⟨w.heap.size + 1, 0, none⟩) hz2).trans f0
  have f1 := (hB23.frozen (p := ⟨w.heap.size + 1, 1, none⟩) hz2).trans f1
  obtain ⟨q0, q1⟩ := two_cells (W := w3) (p := w.heap.size + 1) (x := I (biasOf bl).lo) (y := I (biasOf bl).hi) k0 k1
  go_wp2_with fail
  refine name_post (Q := bodyPost _ _ _) ?_
  intro W9 h9
  rw [← h9] at q0 q1
  refine bodyPost_ret (v := .tuple #[.agg #[I (biasOf bl).lo, I (biasOf bl).hi], I 0]) (by simp [results, Tryz.results11, go_sem, q0, q1]) rfl ⟨rfl, ?_⟩
  rw [h9]
  exact (HB3.setCell (p := ⟨w.heap.size + 1, 0, none⟩) (show _ ≤ w.heap.size + 1 by omega) _).setCell (p := ⟨w.heap.size + 1, 1, none⟩) (show _ ≤ w.heap.size + 1 by omega) _
end Go.Proofs.YthcolbjbafilcaaGreat
