/-
  chain: (*work).spans; (*spanning).contradictory; Span.
-/
import Derived.Test.YthcolbjbafilcaaGreatSpanD
set_option linter.unusedSimpArgs false
set_option linter.unusedVariables false
namespace Go.Proofs.YthcolbjbafilcaaGreat
open Go.RowKit Go.Shelf Go.Sort
attribute [local go_sem] Oper.semAt_some

theorem laid {p q : Prop} (h : p) (k : p → q) : q := k h
theorem below_al {w0 w1 : World} (h : Below w0.heap.size w0 w1) (o : Obj) : Below w0.heap.size w0 (w1.alloc o) := below_from h (below_alloc _ _)
theorem heap_alloc_eq (w : World) (o : Obj) (b : Nat) : (w.alloc o).heap[b]? = if b = w.heap.size then some o else w.heap[b]? := by
  show (w.heap.push o)[b]? = _
  rw [Array.getElem?_push]
theorem size_setCellw (w : World) (a : Addr) (v : Value) : (w.setCell a v).heap.size = w.heap.size := by simp [World.setCell]
theorem size_drew (w : World) : w.drew.heap.size = w.heap.size := rfl
theorem heap_drew (w : World) : w.drew.heap = w.heap := rfl
theorem heap_setCellk (w : World) (p i : Nat) (v : Value) (k : Nat) (h : k ≠ p) : (w.setCell ⟨p, i, none⟩ v).heap[k]? = w.heap[k]? := Below.heap_setCell _ _ _ _ h
theorem heap_drewk (w : World) (k : Nat) : w.drew.heap[k]? = w.heap[k]? := rfl
theorem setCell_box' {w : World} {b : Nat} {t : TypeId} {v u : Value} (h : w.heap[b]? = some (.cells #[u] t (0, 0))) : (w.setCell ⟨b, 0, none⟩ v).heap[b]? = some (.cells #[v] t (0, 0)) := setCell_box h
theorem MapIs.of_block {κ α : Type} {kv : κ → Value} {enc : α → Value} {w w' : World} {r : Nat} {l : List (κ × α)} (h : MapIs kv enc w r l) (e : w'.heap[r]? = w.heap[r]?) : MapIs kv enc w' r l := by
  obtain ⟨es, c, h1, h2⟩ := h
  exact ⟨es, c, e.trans h1, h2⟩
theorem MapIs.empty {κ α : Type} {kv : κ → Value} {enc : α → Value} {w : World} {r : Nat} (h : w.heap[r]? = some (.map #[] 0)) : MapIs kv enc w r ([] : List (κ × α)) := ⟨#[], 0, h, rfl⟩
def SpansPost (bw : Nat) (items : List Item) (cm : List (Int × Cert)) (ns : List Int) (w : World) (e : Ending) (w' : World) : Prop :=
  ∃ bs rh rs, e = .returned (.pointer (some ⟨bs, 0, none⟩)) ∧ w'.heap[bs]? = some (spanObj bw rh rs) ∧ MapIs I Value.bool w' rh (HL items cm ns) ∧ MapIs I Rng.v w' rs (SL items cm ns) ∧ Below w.heap.size w w' ∧ w.heap.size ≤ bs ∧ w.heap.size ≤ rh ∧ w.heap.size ≤ rs
set_option maxRecDepth 100000 in
set_option maxHeartbeats 2000000 in
theorem spans_any (L : LibSaid) (bw : Nat) (items : List Item) (certs : List Cert) (cm : List (Int × Cert)) (ns : List Int) (w : World) (hw : WorkIs (fun _ => True) w bw items certs cm ns) (hg : Good items cm ns) :
    Calls Tryz.prog 48 #[.pointer (some ⟨bw, 0, none⟩)] w (SpansPost bw items cm ns w) := by
  have hmm := @run_makeMap Tryz.prog
  have hmf : ∀ (fn : Fn) (first cap : Array Value) (w : World), (Instr.makeFunc fn first cap).run Tryz.prog w = .ok (.func fn first cap) w := fun _ _ _ _ => rfl
  go_enter Tryz.func48, Tryz.ntmps48
  go_upto_region 3 with fail
  refine name_world ?_
  intro W0 hW0
  have hB0 : Below w.heap.size w W0 := by rw [hW0]; exact below_alloc _ _
  have h1 : W0.cell? ⟨w.heap.size, 0, none⟩ = some (.pointer (some ⟨bw, 0, none⟩)) := by rw [hW0]; simp [go_sem]
  have hz : w.heap.size < W0.heap.size := World.block_lt_of_cell? _ _ h1
  clear hW0
  have hw0 := hw.below hB0
  have Hw0 := Lib.hid hw0
  have HS : Hid (∀ W', Below W0.heap.size W0 W' → (Below W0.heap.size W0 W' ∧ W'.cell? ⟨w.heap.size, 0, none⟩ = some (.pointer (some ⟨bw, 0, none⟩)))) := Lib.hid (fun W' hB => ⟨hB, (hB.cell (p := ⟨w.heap.size, 0, none⟩) hz).trans h1⟩)
  clear hw0
  go_cut [3, 7, 8, 10] (fun s3 s7 s8 s10 wc => ∃ p3 p10 rh rs, s3 = .pointer (some ⟨p3, 0, none⟩) ∧ s7 = .map (some rh) ∧ s8 = .map (some rs) ∧ s10 = .pointer (some ⟨p10, 0, none⟩) ∧
    wc.heap[p3]? = some (.cells #[.pointer (some ⟨p10, 0, none⟩)] 167 (0, 0)) ∧ wc.heap[p10]? = some (spanObj bw rh rs) ∧ MapIs I Value.bool wc rh (HL items cm ns) ∧ MapIs I Rng.v wc rs ([] : List (Int × Rng)) ∧ Below W0.heap.size W0 wc ∧
    W0.heap.size ≤ p3 ∧ W0.heap.size ≤ p10 ∧ W0.heap.size ≤ rh ∧ W0.heap.size ≤ rs ∧ rh ≠ rs ∧ p10 ≠ rs ∧ p3 ≠ rs)
  case first =>
    go_region_held3 (fun W' => Below W0.heap.size W0 W' ∧ W'.cell? ⟨w.heap.size, 0, none⟩ = some (.pointer (some ⟨bw, 0, none⟩)))
      (first
        | with_reducible exact HS.out _ (Below.refl _ _).drew
        | (refine HS.out _ ?_; repeat (first | with_reducible assumption | with_reducible exact Below.refl _ _ | with_reducible refine Below.drew ?_ | with_reducible refine below_al ?_ _ | with_reducible refine below_from ?_ hB | with_reducible refine Below.setCell ?_ ?_ _ | (simp; done) | (simp; omega) | omega)))
      ((go_at_call 79; refine (held_any bw items certs cm ns _ (Hw0.out.below (by repeat (first | with_reducible assumption | with_reducible exact Below.refl _ _ | with_reducible refine Below.drew ?_ | with_reducible refine below_al ?_ _))) hg).mono ?_; rintro e wH ⟨rh, rfl, hm, hB, hrh⟩; obtain ⟨hcH, hfH⟩ := bcell hB; have hszH := hB.size; (try simp at hszH); (first | (refine laid (p := W0.heap.size < wH.heap.size) ?_ ?_; omega; intro z0) | skip); (first | (refine laid (p := W0.heap.size + 1 < wH.heap.size) ?_ ?_; omega; intro z1) | skip)))
    all_goals
      go_wp2_with fail
      go_meet
      have hH := hB.block
      simp only [size_drew, World.size_alloc] at hH hrh
      have hrl := hm.lt
      refine ⟨_, _, _, _, rfl, rfl, rfl, rfl, ?_, ?_, hm.of_block ?_, MapIs.empty ?_, ?_, ?_, ?_, ?_, ?_, ?_, ?_, ?_⟩
      all_goals (first | omega | skip)
      all_goals (first
        | (repeat (first
            | with_reducible rfl
            | with_reducible refine (heap_drewk _ _).trans ?_
            | (with_reducible refine (heap_new _ _ ?_).trans ?_; · (first | omega | (simp only [size_drew, World.size_alloc, size_setCellw]; done) | (simp only [size_drew, World.size_alloc, size_setCellw]; omega)))
            | (with_reducible refine (heap_old _ _ ?_).trans ?_; · (first | omega | (simp only [size_drew, World.size_alloc, size_setCellw]; done) | (simp only [size_drew, World.size_alloc, size_setCellw]; omega)))
            | (with_reducible refine (heap_setCellk _ _ _ _ _ ?_).trans ?_; · omega)
            | (with_reducible refine setCell_box' (u := .pointer none) ?_)
            | (with_reducible refine (hH _ ?_).trans ?_; · omega))
           done)
        | (repeat (first | with_reducible assumption | with_reducible exact Below.refl _ _ | with_reducible refine Below.drew ?_ | with_reducible refine below_al ?_ _ | with_reducible refine below_from ?_ hB | with_reducible refine Below.setCell ?_ ?_ _ | (simp; done) | (simp; omega) | omega)
           done))
  case rest =>
    obtain ⟨wA, rfl⟩ : ∃ x : World, x = wc := ⟨_, rfl⟩
    obtain ⟨p3, p10, rh, rs, rfl, rfl, rfl, rfl, e3, e10, hmh, hms, hB, l3, l10, lh, ls, n1, n2, n3⟩ := hcut
    have c3 : wA.cell? ⟨p3, 0, none⟩ = some (.pointer (some ⟨p10, 0, none⟩)) := cell_of_heap e3 0
    have z3 := heap_at e3
    have z10 := heap_at e10
    have zh := hmh.lt
    have zs := hms.lt
    have hwA := (((hw.mono (ok' := (· < w.heap.size)) (fun _ _ h => h)).below hB0).below hB).mono (ok' := fun b => b ≠ rs) (fun b h _ => by omega)
    have q1 := (hB.cell (p := ⟨w.heap.size, 0, none⟩) hz).trans h1
    obtain ⟨vi, vc, r, vn, hwo, -, -, hmap, hnum, -, -⟩ := hwA.lies
    obtain ⟨wc0, wc1, wc2, wc3, -, -⟩ := work_cells hwo
    have He10 := Lib.hid e10
    have He3 := Lib.hid e3
    clear e3 e10
    go_wp2_with fail
    refine name_world ?_
    intro W1 hW1
    have hB1 : Below wA.heap.size wA W1 := by rw [hW1]; exact below_alloc _ _
    have k3 : W1.cell? ⟨wA.heap.size, 0, none⟩ = some (.func (.func 81) #[] #[.pointer (some ⟨w.heap.size, 0, none⟩), .pointer (some ⟨p3, 0, none⟩), .pointer (some ⟨wA.heap.size, 0, none⟩)]) := by rw [hW1]; simp [go_sem]
    clear hW1
    have b1 := (hB1.cell (p := ⟨w.heap.size, 0, none⟩) (World.block_lt_of_cell? _ _ q1)).trans q1
    have b3 := (hB1.cell (p := ⟨p3, 0, none⟩) z3).trans c3
    have hwo1 := (hB1.block _ (heap_at hwo)).trans hwo
    clear wc0 wc1 wc2 wc3
    obtain ⟨-, -, -, wc3, -, -⟩ := work_cells hwo1
    go_still_tail 5, (by kernel_rfl)
    change wpList _ _ _ _ _ W1.drew
    obtain ⟨W4, hW4⟩ : ∃ x : World, x = W1.drew := ⟨_, rfl⟩
    rw [← hW4]
    have HB4 : Below wA.heap.size wA W4 := by rw [hW4]; exact hB1.drew
    have k3' : W4.cell? ⟨wA.heap.size, 0, none⟩ = some (.func (.func 81) #[] #[.pointer (some ⟨w.heap.size, 0, none⟩), .pointer (some ⟨p3, 0, none⟩), .pointer (some ⟨wA.heap.size, 0, none⟩)]) := by rw [hW4]; exact k3
    clear hW4
    go_wp2_with fail
    refine (spans1_any L p10 bw rh rs w.heap.size p3 wA.heap.size items certs cm ns (HL items cm ns) hg ns [] vn W4 (fun _ h => h) ((HB4.block _ z10).trans He10.out) (hwA.below HB4) (hmh.below HB4) (hms.below HB4) n1 n2 (by omega) n3 (by omega) ((HB4.cell (p := ⟨w.heap.size, 0, none⟩) (World.block_lt_of_cell? _ _ q1)).trans q1) ((HB4.cell (p := ⟨p3, 0, none⟩) z3).trans c3) k3' (hnum.below HB4)).mono ?_
    rintro e w9 ⟨rfl, hK9, hm9⟩
    have d3 := (hK9.cell (p := ⟨p3, 0, none⟩) (show p3 < W4.heap.size by have := HB4.size; omega) n3).trans ((HB4.cell (p := ⟨p3, 0, none⟩) z3).trans c3)
    have d10 := (hK9.block p10 (show p10 < W4.heap.size by have := HB4.size; omega) n2).trans ((HB4.block _ z10).trans He10.out)
    have hmh9 := (hmh.below HB4).kept hK9 n1
    have hBz : Below w.heap.size w w9 := by
      have h1 : Below w.heap.size w W4 := below_from hB0 (below_from hB HB4)
      exact h1.trans ⟨hK9.os, hK9.tape, hK9.output, hK9.size, fun i hi => hK9.block i (by have := h1.size; omega) (by omega)⟩
    have Hd10 := Lib.hid d10
    have Hm9 := Lib.hid hm9
    clear d10 hm9
    go_wp2_with fail
    go_ret
    exact ⟨p10, rh, rs, rfl, Hd10.out, hmh9, Hm9.out, hBz, by omega, by omega, by omega⟩
end Go.Proofs.YthcolbjbafilcaaGreat
