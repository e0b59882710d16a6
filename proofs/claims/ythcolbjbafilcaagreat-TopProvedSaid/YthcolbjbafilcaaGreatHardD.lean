/-
  Package hard: read, bench, cut, spans and Spans, of a book of one scale and one machine, with one reading.
-/
import Derived.Test.YthcolbjbafilcaaGreatHardC
import Derived.LoopN
set_option linter.unusedSimpArgs false
set_option linter.unusedVariables false
namespace Go.Proofs.YthcolbjbafilcaaGreat
open Go.RowKit Go.Shelf Go.Sort
attribute [local go_sem] Oper.semAt_some

set_option maxHeartbeats 400000 in
theorem hread1_any (B b o cm : Nat) (x : Rdg) (w : World) (hc : w.cell? ⟨B, 2, none⟩ = some (.slice (some ⟨b, o, none⟩) 1 cm)) :
    Calls Tryz.prog 58 #[x.v, .pointer (some ⟨B, 0, none⟩)] w fun e w' => e = .returned (.bool (inB x.machine 0 0 && inB x.read 0 100000)) ∧ Below w.heap.size w w' := by
  obtain ⟨m, r⟩ := x
  have hz := World.block_lt_of_cell? _ _ hc
  go_enter Tryz.func58, Tryz.ntmps58
  go_wp2_with fail
  refine (hwithin_any _ _ _ _).mono ?_
  rintro e w' ⟨rfl, rfl⟩
  cases h1 : inB m 0 0 with
  | false =>
    go_wp2_with fail
    go_ret
    exact ⟨by simp [h1], below_alloc _ _⟩
  | true =>
  go_wp2_with fail
  refine (hvalue_any _ _).mono ?_
  rintro e w' ⟨rfl, rfl⟩
  go_wp2_with fail
  go_ret
  exact ⟨by simp [h1], below_alloc _ _⟩
set_option maxHeartbeats 400000 in
theorem hread2_ok (L : LibSaid) (ok : Nat → Prop) (B b o cm : Nat) (rd : Int) (vb : Value) (bl : List Block) (w : World) (hc : w.cell? ⟨B, 2, none⟩ = some (.slice (some ⟨b, o, none⟩) 1 cm))
    (e0 : w.cell? ⟨b, o, none⟩ = some (I 0)) (e1 : w.cell? ⟨b, o + 1, none⟩ = some vb) (hb : BlocksIs ok w vb bl) (hl : bl.length ≤ 5) :
    Calls Tryz.prog 61 #[(Rdg.mk 0 rd).v, .pointer (some ⟨B, 0, none⟩)] w fun e w' => e = .returned (.bool (!decide ((biasOf bl).hi < (biasOf bl).lo))) ∧ Below w.heap.size w w' := by
  have hz := World.block_lt_of_cell? _ _ hc
  have hz1 := World.block_lt_of_cell? _ _ e0
  go_enter Tryz.func61, Tryz.ntmps61
  go_wp2_with fail
  refine (hbias_any L ok ⟨0, vb, bl⟩ _ (by simp only; omega) (hb.below (below_alloc _ _))).mono ?_
  rintro e w1 ⟨rfl, hB1⟩
  have HB1 := below_from (below_alloc w (.cells #[I 0, I rd] 137)) hB1
  go_wp2_with fail
  refine (hempty_any (biasOf bl) _).mono ?_
  rintro e w2 ⟨rfl, hB2⟩
  have HB2 := below_from HB1 hB2
  go_wp2_with fail
  go_ret
  exact ⟨rfl, HB2⟩
abbrev benchObj (vt vm : Value) (r : Nat) : Obj := .cells #[I 1, vt, vm, .map (some r)] 183 (0, 0)
def BenchPost (vt vm : Value) (w : World) (e : Ending) (w' : World) : Prop :=
  ∃ p r, e = .returned (.pointer (some ⟨p, 0, none⟩)) ∧ w'.heap[p]? = some (benchObj vt vm r) ∧ w'.heap[r]? = some (.map #[] 0) ∧ Below w.heap.size w w'
set_option maxHeartbeats 400000 in
theorem hbench_any (a : Option Addr) (c : Nat) (vm : Value) (w : World) :
    Calls Tryz.prog 62 #[.agg #[I 1, .slice a 0 c, vm]] w (BenchPost (.slice a 0 c) vm w) := by
  have hmm := @run_makeMap Tryz.prog
  go_enter Tryz.func62, Tryz.ntmps62
  go_wp2_with fail
  refine wp_loop_rounds 1 ?_
  rw [rounds_succ]
  go_wp2_with fail
  go_ret
  exact ⟨_, _, rfl, heap_new _ _ (by simp), (heap_old _ _ (by simp)).trans (heap_new _ _ (by simp)), below_alloc3 _ _ _ _⟩
def ReadHPost (vt vm : Value) (w : World) (e : Ending) (w' : World) : Prop :=
  ∃ p r, e = .returned (.tuple #[.pointer (some ⟨p, 0, none⟩), I 0]) ∧ w'.heap[p]? = some (benchObj vt vm r) ∧ w'.heap[r]? = some (.map #[] 0) ∧ Below w.heap.size w w'
set_option maxRecDepth 100000 in
set_option maxHeartbeats 1000000 in
theorem hread_ok (L : LibSaid) (ok : Nat → Prop) (vt vm vr : Value) (bl : List Block) (rd : Int) (w : World) (h : HBookIs ok w vt vm bl) (hr : RdgsIs ok w vr [⟨0, rd⟩]) (hrd : inB rd 0 100000 = true) (hne : (biasOf bl).lo ≤ (biasOf bl).hi) :
    Calls Tryz.prog 36 #[.agg #[I 1, vt, vm], vr] w (ReadHPost vt vm w) := by
  have HB0 := below_alloc w (.cells #[I 1, vt, vm] 57)
  have hmf : ∀ (fn : Fn) (first cap : Array Value) (w : World), (Instr.makeFunc fn first cap).run Tryz.prog w = .ok (.func fn first cap) w := fun _ _ _ _ => rfl
  have E1 : Hid (∀ args w, (callFunc 58 args).run Tryz.prog w = .ok (.enter 58 args) w) := Lib.hid (enters_of Tryz.func58 (by kernel_rfl) rfl)
  have E2 : Hid (∀ args w, (callFunc 61 args).run Tryz.prog w = .ok (.enter 61 args) w) := Lib.hid (enters_of Tryz.func61 (by kernel_rfl) rfl)
  have h0 := h.below HB0
  have hr0 := hr
  obtain ⟨ar, cr, rfl, hcr, -⟩ := hr
  simp only [List.length_singleton] at hr0 ⊢
  go_enter Tryz.func36, Tryz.ntmps36
  go_wp2_with fail
  refine h0.check.mono ?_
  rintro e w1 ⟨rfl, hB1⟩
  have HB1 := below_from HB0 hB1
  have h1 := h0.below hB1
  obtain ⟨vb, hm, hb⟩ := h1.machs
  obtain ⟨ata, atc, rfl, -, -⟩ := h.tabs
  obtain ⟨am, cm, rfl, hcm, hrm⟩ := hm
  obtain ⟨b, o, rfl, -, hbb, hrows⟩ := hrm (by simp)
  obtain ⟨e0, e1⟩ := (hrows 0 _ rfl).two
  simp only [Nat.zero_mul, Nat.add_zero, List.length_singleton, List.length_nil] at e0 e1 ⊢
  have t0 : w1.cell? ⟨w.heap.size, 0, none⟩ = some (I 1) := (hB1.cell (p := ⟨w.heap.size, 0, none⟩) (by simp)).trans (by simp [go_sem])
  have t1 : w1.cell? ⟨w.heap.size, 1, none⟩ = some (.slice ata 0 atc) := (hB1.cell (p := ⟨w.heap.size, 1, none⟩) (by simp)).trans (by simp [go_sem])
  have t2 : w1.cell? ⟨w.heap.size, 2, none⟩ = some (.slice (some ⟨b, o, none⟩) 1 cm) := (hB1.cell (p := ⟨w.heap.size, 2, none⟩) (by simp)).trans (by simp [go_sem])
  have hz1 := World.block_lt_of_cell? _ _ t0
  clear hrows hrm
  go_wp2_with fail
  refine (hrdg_all 58 #[] #[.pointer (some ⟨w.heap.size, 0, none⟩)] E1.out (fun x => inB x.machine 0 0 && inB x.read 0 100000) [⟨0, rd⟩] ok _ _ (by simp) (hr0.below HB1) (fun W hW x _ => hread1_any w.heap.size b o cm x W ((hW.cell (p := ⟨w.heap.size, 2, none⟩) hz1).trans t2))).mono ?_
  rintro e w2 ⟨rfl, hB2⟩
  have HB2 := below_from HB1 hB2
  have q0 : (inB 0 0 0 && inB rd 0 100000) = true := by rw [hrd]; rfl
  simp only [List.all_cons, List.all_nil, q0, Bool.and_true]
  have t0 := (hB2.cell (p := ⟨w.heap.size, 0, none⟩) hz1).trans t0
  have t1 := (hB2.cell (p := ⟨w.heap.size, 1, none⟩) hz1).trans t1
  have t2 := (hB2.cell (p := ⟨w.heap.size, 2, none⟩) hz1).trans t2
  have e0 := (hB2.cell (p := ⟨b, o, none⟩) hbb).trans e0
  have e1 := (hB2.cell (p := ⟨b, o + 1, none⟩) hbb).trans e1
  have hb2 := hb.below hB2
  have hz2 := World.block_lt_of_cell? _ _ t0
  have hbb2 : b < w2.heap.size := World.block_lt_of_cell? _ _ e0
  clear q0
  go_wp2_with fail
  refine (hrdg_all 61 #[] #[.pointer (some ⟨w.heap.size, 0, none⟩)] E2.out (fun _ => !decide ((biasOf bl).hi < (biasOf bl).lo)) [⟨0, rd⟩] ok _ _ (by simp) (hr0.below HB2) (fun W hW x hx => by
    rw [List.mem_singleton] at hx
    subst hx
    exact hread2_ok L ok w.heap.size b o cm rd vb bl W ((hW.cell (p := ⟨w.heap.size, 2, none⟩) hz2).trans t2) ((hW.cell (p := ⟨b, o, none⟩) hbb2).trans e0) ((hW.cell (p := ⟨b, o + 1, none⟩) hbb2).trans e1) (hb2.below hW) h.few)).mono ?_
  rintro e w3 ⟨rfl, hB3⟩
  have HB3 := below_from HB2 hB3
  have q1 : (!decide ((biasOf bl).hi < (biasOf bl).lo)) = true := by simp; omega
  simp only [List.all_cons, List.all_nil, q1, Bool.and_true]
  have t0 := (hB3.cell (p := ⟨w.heap.size, 0, none⟩) hz2).trans t0
  have t1 := (hB3.cell (p := ⟨w.heap.size, 1, none⟩) hz2).trans t1
  have t2 := (hB3.cell (p := ⟨w.heap.size, 2, none⟩) hz2).trans t2
  clear q1
  go_wp2_with fail
  refine (hbench_any ata atc _ _).mono ?_
  rintro e w4 ⟨p, r, rfl, hp, hr4, hB4⟩
  have Hp := Lib.hid hp
  have Hr4 := Lib.hid hr4
  clear hp hr4
  go_wp2_with fail
  go_ret2
  exact ⟨p, r, rfl, Hp.out, Hr4.out, below_from HB3 hB4⟩
end Go.Proofs.YthcolbjbafilcaaGreat
