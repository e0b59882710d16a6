/-
  chain, spans: least, most, low, high, plus, wider, cut, everything, holding.
-/
import Derived.Test.YthcolbjbafilcaaGreatChainF
import Derived.Deep.RegionHeld3
import Derived.Laws.EntriesVeiled
import Derived.IntWalk
set_option linter.unusedSimpArgs false
set_option linter.unusedVariables false
namespace Go.Proofs.YthcolbjbafilcaaGreat
open Go.RowKit Go.Shelf
attribute [local go_sem] Oper.semAt_some

/-- What is taken from the shelf of Go's library. -/
structure LibSaid : Prop where
  sort : SortSaid
  max2 : ∀ (b c : Nat) (x y : Int) (w : World), w.cell? ⟨b, 0, none⟩ = some (I x) → w.cell? ⟨b, 1, none⟩ = some (I y) → Calls Tryz.prog 133 #[.slice (some ⟨b, 0, none⟩) 2 c] w fun e w' => e = .returned (I (max x y)) ∧ w = w'
  min2 : ∀ (b c : Nat) (x y : Int) (w : World), w.cell? ⟨b, 0, none⟩ = some (I x) → w.cell? ⟨b, 1, none⟩ = some (I y) → Calls Tryz.prog 134 #[.slice (some ⟨b, 0, none⟩) 2 c] w fun e w' => e = .returned (I (min x y)) ∧ w = w'

theorem most_two (L : LibSaid) (b c : Nat) (x y : Int) (w : World) (h0 : w.cell? ⟨b, 0, none⟩ = some (I x)) (h1 : w.cell? ⟨b, 1, none⟩ = some (I y)) :
    Calls Tryz.prog 123 #[.slice (some ⟨b, 0, none⟩) 2 c] w fun e w' => e = .returned (I (max x y)) ∧ w = w' := by
  go_enter Tryz.func123, Tryz.ntmps123
  go_wp2_with fail
  refine (L.max2 _ _ _ _ _ h0 h1).mono ?_
  rintro e w' ⟨rfl, rfl⟩
  go_wp2_with fail
  go_ret
  exact ⟨rfl, rfl⟩
theorem least_two (L : LibSaid) (b c : Nat) (x y : Int) (w : World) (h0 : w.cell? ⟨b, 0, none⟩ = some (I x)) (h1 : w.cell? ⟨b, 1, none⟩ = some (I y)) :
    Calls Tryz.prog 124 #[.slice (some ⟨b, 0, none⟩) 2 c] w fun e w' => e = .returned (I (min x y)) ∧ w = w' := by
  go_enter Tryz.func124, Tryz.ntmps124
  go_wp2_with fail
  refine (L.min2 _ _ _ _ _ h0 h1).mono ?_
  rintro e w' ⟨rfl, rfl⟩
  go_wp2_with fail
  go_ret
  exact ⟨rfl, rfl⟩
theorem low_any (lo hi : Int) (w : World) : Calls Tryz.prog 121 #[.agg #[I lo, I hi]] w fun e w' => e = .returned (I lo) ∧ w' = w.alloc (.cells #[I lo, I hi] 96) := by
  go_enter Tryz.func121, Tryz.ntmps121
  go_wp2_with fail
  go_ret
  exact ⟨rfl, rfl⟩
theorem high_any (lo hi : Int) (w : World) : Calls Tryz.prog 122 #[.agg #[I lo, I hi]] w fun e w' => e = .returned (I hi) ∧ w' = w.alloc (.cells #[I lo, I hi] 96) := by
  go_enter Tryz.func122, Tryz.ntmps122
  go_wp2_with fail
  go_ret
  exact ⟨rfl, rfl⟩
theorem low_b (lo hi : Int) (w : World) : Calls Tryz.prog 121 #[.agg #[I lo, I hi]] w fun e w' => e = .returned (I lo) ∧ Below w.heap.size w w' := (low_any lo hi w).mono fun e w' ⟨h1, h2⟩ => ⟨h1, by rw [h2]; exact below_alloc _ _⟩
theorem high_b (lo hi : Int) (w : World) : Calls Tryz.prog 122 #[.agg #[I lo, I hi]] w fun e w' => e = .returned (I hi) ∧ Below w.heap.size w w' := (high_any lo hi w).mono fun e w' ⟨h1, h2⟩ => ⟨h1, by rw [h2]; exact below_alloc _ _⟩
def RngPost (r : Rng) (w : World) (e : Ending) (w' : World) : Prop := e = .returned (.agg #[I r.lo, I r.hi]) ∧ Below w.heap.size w w'
theorem everything_any (w : World) : Calls Tryz.prog 84 #[] w (RngPost ⟨-1099511627776, 1099511627776⟩ w) := by
  go_enter Tryz.func84, Tryz.ntmps84
  go_wp2_with fail
  refine bodyPost_ret (v := .agg #[I (-1099511627776), I 1099511627776]) (by simp [results, Tryz.results84, go_sem]) rfl ⟨rfl, ?_⟩
  exact (below_alloc _ _)
/-- An int, as the machine keeps it. -/
abbrev wi (n : Int) : Int := wrap64 n
def Rng.plus (a b : Rng) : Rng := ⟨wi (a.lo + b.lo), wi (a.hi + b.hi)⟩
set_option maxHeartbeats 1000000 in
theorem plus_any (a b : Rng) (w : World) :
    Calls Tryz.prog 83 #[a.v, b.v] w (RngPost (a.plus b) w) := by
  obtain ⟨lo, hi⟩ := a
  obtain ⟨lo', hi'⟩ := b
  go_enter Tryz.func83, Tryz.ntmps83
  go_wp2_with fail
  refine name_world ?_
  intro W hW
  have hBW : Below w.heap.size w W := by rw [hW]; exact ((below_alloc3 _ _ _ _).alloc (by simp; omega) _).alloc (by simp; omega) _
  have a0 : W.cell? ⟨w.heap.size, 0, none⟩ = some (I lo) := by rw [hW]; simp [go_sem]
  have a1 : W.cell? ⟨w.heap.size, 1, none⟩ = some (I hi) := by rw [hW]; simp [go_sem]
  have b0 : W.cell? ⟨w.heap.size + 1, 0, none⟩ = some (I lo') := by rw [hW]; simp [go_sem]
  have b1 : W.cell? ⟨w.heap.size + 1, 1, none⟩ = some (I hi') := by rw [hW]; simp [go_sem]
  have f3 : W.cell? ⟨w.heap.size + 1 + 1 + 1, 0, none⟩ = some (.func (.func 121) #[] #[]) := by rw [hW]; simp [go_sem]
  have f4 : W.cell? ⟨w.heap.size + 1 + 1 + 1 + 1, 0, none⟩ = some (.func (.func 122) #[] #[]) := by rw [hW]; simp [go_sem]
  have r0 : W.cell? ⟨w.heap.size + 1 + 1, 0, none⟩ = some (peek W (w.heap.size + 1 + 1) 0) := peek_of (v := I 0) (by rw [hW]; simp [go_sem])
  have r1 : W.cell? ⟨w.heap.size + 1 + 1, 1, none⟩ = some (peek W (w.heap.size + 1 + 1) 1) := peek_of (v := I 0) (by rw [hW]; simp [go_sem])
  have r2 : W.frozen? ⟨w.heap.size + 1 + 1, 0, none⟩ = false := by rw [hW]; simp [go_sem]
  have r3 : W.frozen? ⟨w.heap.size + 1 + 1, 1, none⟩ = false := by rw [hW]; simp [go_sem]
  have hz : w.heap.size + 5 ≤ W.heap.size := by rw [hW]; simp
  have hz' : w.heap.size + 5 ≤ W.drew.heap.size := hz
  clear hW
  go_region_held3 (fun W' => W'.cell? ⟨w.heap.size, 0, none⟩ = some (I lo) ∧ W'.cell? ⟨w.heap.size, 1, none⟩ = some (I hi) ∧ W'.cell? ⟨w.heap.size + 1, 0, none⟩ = some (I lo') ∧ W'.cell? ⟨w.heap.size + 1, 1, none⟩ = some (I hi') ∧ W'.cell? ⟨w.heap.size + 1 + 1 + 1, 0, none⟩ = some (.func (.func 121) #[] #[]) ∧ W'.cell? ⟨w.heap.size + 1 + 1 + 1 + 1, 0, none⟩ = some (.func (.func 122) #[] #[]) ∧ W'.cell? ⟨w.heap.size + 1 + 1, 0, none⟩ = some (peek W' (w.heap.size + 1 + 1) 0) ∧ W'.cell? ⟨w.heap.size + 1 + 1, 1, none⟩ = some (peek W' (w.heap.size + 1 + 1) 1) ∧ W'.frozen? ⟨w.heap.size + 1 + 1, 0, none⟩ = false ∧ W'.frozen? ⟨w.heap.size + 1 + 1, 1, none⟩ = false ∧ Below w.heap.size w W')
    (first
      | (go_split_ands
         refine ⟨?_, ?_, ?_, ?_, ?_, ?_, ?_, ?_, ?_, ?_, ?_⟩
         · exact (hB.cell (show w.heap.size < _ by omega)).trans (by assumption)
         · exact (hB.cell (show w.heap.size < _ by omega)).trans (by assumption)
         · exact (hB.cell (show w.heap.size + 1 < _ by omega)).trans (by assumption)
         · exact (hB.cell (show w.heap.size + 1 < _ by omega)).trans (by assumption)
         · exact (hB.cell (show w.heap.size + 1 + 1 + 1 < _ by omega)).trans (by assumption)
         · exact (hB.cell (show w.heap.size + 1 + 1 + 1 + 1 < _ by omega)).trans (by assumption)
         · exact peek_below hB (by omega) (by assumption)
         · exact peek_below hB (by omega) (by assumption)
         · exact (hB.frozen (show w.heap.size + 1 + 1 < _ by omega)).trans (by assumption)
         · exact (hB.frozen (show w.heap.size + 1 + 1 < _ by omega)).trans (by assumption)
         · exact Below.trans (by assumption) (hB.mono (by omega)))
      | exact ⟨a0, a1, b0, b1, f3, f4, r0, r1, r2, r3, hBW.drew⟩
      | (go_split_ands
         exact ⟨sc_cell (by omega) (by assumption), sc_cell (by omega) (by assumption), sc_cell (by omega) (by assumption), sc_cell (by omega) (by assumption), sc_cell (by omega) (by assumption), sc_cell (by omega) (by assumption), sc_peek (by assumption), sc_peek (by assumption), sc_frozen (by assumption), sc_frozen (by assumption), Below.setCell (p := ⟨w.heap.size + 1 + 1, 1, none⟩) (Below.setCell (p := ⟨w.heap.size + 1 + 1, 0, none⟩) (by assumption) (show _ ≤ w.heap.size + 1 + 1 by omega) _) (show _ ≤ w.heap.size + 1 + 1 by omega) _⟩))
    (first
      | (go_at_call 121; refine (low_b _ _ _).mono ?_; rintro e w' ⟨rfl, hB⟩; have hs := hB.size)
      | (go_at_call 122; refine (high_b _ _ _).mono ?_; rintro e w' ⟨rfl, hB⟩; have hs := hB.size))
  go_wp2_with fail
  rename_i wa hBa hsa wb hBb hsb wc hBc hsc hS
  have hfin := hS.2.2.2.2.2.2.2.2.2.2
  simp only [IntWalk.i64_left] at hfin ⊢
  have q0 := (hB.cell (p := ⟨w.heap.size + 1 + 1, 0, none⟩) (show w.heap.size + 1 + 1 < _ by omega)).trans ((hBc.cell (p := ⟨w.heap.size + 1 + 1, 0, none⟩) (show w.heap.size + 1 + 1 < _ by omega)).trans ((hBb.cell (p := ⟨w.heap.size + 1 + 1, 0, none⟩) (show w.heap.size + 1 + 1 < _ by omega)).trans ((hBa.cell (p := ⟨w.heap.size + 1 + 1, 0, none⟩) (show w.heap.size + 1 + 1 < _ by omega)).trans r0)))
  have q1 := (hB.cell (p := ⟨w.heap.size + 1 + 1, 1, none⟩) (show w.heap.size + 1 + 1 < _ by omega)).trans ((hBc.cell (p := ⟨w.heap.size + 1 + 1, 1, none⟩) (show w.heap.size + 1 + 1 < _ by omega)).trans ((hBb.cell (p := ⟨w.heap.size + 1 + 1, 1, none⟩) (show w.heap.size + 1 + 1 < _ by omega)).trans ((hBa.cell (p := ⟨w.heap.size + 1 + 1, 1, none⟩) (show w.heap.size + 1 + 1 < _ by omega)).trans r1)))
  obtain ⟨k0, k1⟩ := two_cells (x := I (wi (lo + lo'))) (y := I (wi (hi + hi'))) q0 q1
  exact bodyPost_ret (v := .agg #[I (wi (lo + lo')), I (wi (hi + hi'))]) (by simp [results, Tryz.results83, go_sem, k0, k1]) rfl ⟨rfl, hfin⟩
set_option maxHeartbeats 1000000 in
set_option maxRecDepth 100000 in
theorem wider_any (a : Rng) (n : Int) (w : World) :
    Calls Tryz.prog 86 #[a.v, I n] w (RngPost (a.plus ⟨wi (-n), n⟩) w) := by
  obtain ⟨lo, hi⟩ := a
  go_enter Tryz.func86, Tryz.ntmps86
  go_wp2_with fail
  refine (plus_any ⟨lo, hi⟩ ⟨wi (-n), n⟩ _).mono ?_
  rintro e w1 ⟨rfl, hB⟩
  obtain ⟨hc, hf⟩ := bcell hB
  have hz : w.heap.size + 1 < w1.heap.size := by have := hB.size; simp at this; omega
  go_wp2_with fail
  have e0 : w1.cell? ⟨w.heap.size + 1, 0, none⟩ = some (I 0) := (hc (w.heap.size + 1) 0 (by simp)).trans (by simp [go_sem])
  have e1 : w1.cell? ⟨w.heap.size + 1, 1, none⟩ = some (I 0) := (hc (w.heap.size + 1) 1 (by simp)).trans (by simp [go_sem])
  obtain ⟨k0, k1⟩ := two_cells (x := I (Rng.plus ⟨lo, hi⟩ ⟨wi (-n), n⟩).lo) (y := I (Rng.plus ⟨lo, hi⟩ ⟨wi (-n), n⟩).hi) e0 e1
  exact bodyPost_ret (v := .agg #[I (Rng.plus ⟨lo, hi⟩ ⟨wi (-n), n⟩).lo, I (Rng.plus ⟨lo, hi⟩ ⟨wi (-n), n⟩).hi]) (by simp [results, Tryz.results86, go_sem, k0, k1]) rfl ⟨rfl, (below_from (below_alloc2 _ _ _) hB).setCell (p := ⟨w.heap.size + 1, 0, none⟩) (show _ ≤ w.heap.size + 1 by omega) _ |>.setCell (p := ⟨w.heap.size + 1, 1, none⟩) (show _ ≤ w.heap.size + 1 by omega) _⟩
def Rng.cut (a b : Rng) : Rng := ⟨max a.lo b.lo, min a.hi b.hi⟩
set_option maxHeartbeats 6000000 in
theorem cut_any (L : LibSaid) (a b : Rng) (w : World) : Calls Tryz.prog 85 #[a.v, b.v] w (RngPost (a.cut b) w) := by
  obtain ⟨lo, hi⟩ := a
  obtain ⟨lo', hi'⟩ := b
  go_enter Tryz.func85, Tryz.ntmps85
  go_wp2_with fail
  refine name_world ?_
  intro W hW
  have hBW : Below w.heap.size w W := by rw [hW]; exact below_alloc3 _ _ _ _
  have a0 : W.cell? ⟨w.heap.size, 0, none⟩ = some (I lo) := by rw [hW]; simp [go_sem]
  have a1 : W.cell? ⟨w.heap.size, 1, none⟩ = some (I hi) := by rw [hW]; simp [go_sem]
  have b0 : W.cell? ⟨w.heap.size + 1, 0, none⟩ = some (I lo') := by rw [hW]; simp [go_sem]
  have b1 : W.cell? ⟨w.heap.size + 1, 1, none⟩ = some (I hi') := by rw [hW]; simp [go_sem]
  have r0 : W.cell? ⟨w.heap.size + 1 + 1, 0, none⟩ = some (I 0) := by rw [hW]; simp [go_sem]
  have r1 : W.cell? ⟨w.heap.size + 1 + 1, 1, none⟩ = some (I 0) := by rw [hW]; simp [go_sem]
  have r2 : W.frozen? ⟨w.heap.size + 1 + 1, 0, none⟩ = false := by rw [hW]; simp [go_sem]
  have r3 : W.frozen? ⟨w.heap.size + 1 + 1, 1, none⟩ = false := by rw [hW]; simp [go_sem]
  have hz : W.heap.size = w.heap.size + 3 := by rw [hW]; simp
  clear hW
  have hz0 : w.heap.size < W.heap.size := by omega
  have hz1 : w.heap.size + 1 < W.heap.size := by omega
  have hz2 : w.heap.size + 1 + 1 < W.heap.size := by omega
  have Hz := Lib.hid hz
  clear hz
  have q0 := peek_of r0
  have q1 := peek_of r1
  have hS : ∀ W' : World, Below W.heap.size W W' → (W'.cell? ⟨w.heap.size, 0, none⟩ = some (I lo) ∧ W'.cell? ⟨w.heap.size, 1, none⟩ = some (I hi) ∧ W'.cell? ⟨w.heap.size + 1, 0, none⟩ = some (I lo') ∧ W'.cell? ⟨w.heap.size + 1, 1, none⟩ = some (I hi') ∧ W'.cell? ⟨w.heap.size + 1 + 1, 0, none⟩ = some (peek W' (w.heap.size + 1 + 1) 0) ∧ W'.cell? ⟨w.heap.size + 1 + 1, 1, none⟩ = some (peek W' (w.heap.size + 1 + 1) 1) ∧ W'.frozen? ⟨w.heap.size + 1 + 1, 0, none⟩ = false ∧ W'.frozen? ⟨w.heap.size + 1 + 1, 1, none⟩ = false ∧ Below w.heap.size w W') := fun W' hbl2 =>
    ⟨(hbl2.cell (p := ⟨w.heap.size, 0, none⟩) hz0).trans a0, (hbl2.cell (p := ⟨w.heap.size, 1, none⟩) hz0).trans a1, (hbl2.cell (p := ⟨w.heap.size + 1, 0, none⟩) hz1).trans b0, (hbl2.cell (p := ⟨w.heap.size + 1, 1, none⟩) hz1).trans b1, peek_of ((hbl2.cell (p := ⟨w.heap.size + 1 + 1, 0, none⟩) hz2).trans r0), peek_of ((hbl2.cell (p := ⟨w.heap.size + 1 + 1, 1, none⟩) hz2).trans r1), (hbl2.frozen (p := ⟨w.heap.size + 1 + 1, 0, none⟩) hz2).trans r2, (hbl2.frozen (p := ⟨w.heap.size + 1 + 1, 1, none⟩) hz2).trans r3, hBW.trans (hbl2.mono (Nat.le_of_lt hz0))⟩
  have hT : ∀ (x y : Value) (o o' : Obj) (W' : World), W' = ((((W.setCell ⟨w.heap.size + 1 + 1, 0, none⟩ x).setCell ⟨w.heap.size + 1 + 1, 1, none⟩ y).alloc o).alloc o').drew → (W'.cell? ⟨w.heap.size, 0, none⟩ = some (I lo) ∧ W'.cell? ⟨w.heap.size, 1, none⟩ = some (I hi) ∧ W'.cell? ⟨w.heap.size + 1, 0, none⟩ = some (I lo') ∧ W'.cell? ⟨w.heap.size + 1, 1, none⟩ = some (I hi') ∧ W'.cell? ⟨w.heap.size + 1 + 1, 0, none⟩ = some (peek W' (w.heap.size + 1 + 1) 0) ∧ W'.cell? ⟨w.heap.size + 1 + 1, 1, none⟩ = some (peek W' (w.heap.size + 1 + 1) 1) ∧ W'.frozen? ⟨w.heap.size + 1 + 1, 0, none⟩ = false ∧ W'.frozen? ⟨w.heap.size + 1 + 1, 1, none⟩ = false ∧ Below w.heap.size w W') := by
    intro x y o o' W' e
    obtain ⟨V, hV⟩ : ∃ V : World, V = (W.setCell ⟨w.heap.size + 1 + 1, 0, none⟩ x).setCell ⟨w.heap.size + 1 + 1, 1, none⟩ y := ⟨_, rfl⟩
    rw [← hV] at e
    have hs : V.heap.size = W.heap.size := by rw [hV]; simp
    have hbl2 : Below W.heap.size V W' := by rw [e, ← hs]; exact (below_alloc2 _ _ _).drew
    have v0 : V.cell? ⟨w.heap.size, 0, none⟩ = some (I lo) := by rw [hV]; exact sc_cell (by omega) a0
    have v1 : V.cell? ⟨w.heap.size, 1, none⟩ = some (I hi) := by rw [hV]; exact sc_cell (by omega) a1
    have v2 : V.cell? ⟨w.heap.size + 1, 0, none⟩ = some (I lo') := by rw [hV]; exact sc_cell (by omega) b0
    have v3 : V.cell? ⟨w.heap.size + 1, 1, none⟩ = some (I hi') := by rw [hV]; exact sc_cell (by omega) b1
    have v4 := by have := sc_peek (p := w.heap.size + 1 + 1) (i := 0) (j := 1) (x := x) (y := y) r0; rw [← hV] at this; exact this
    have v5 := by have := sc_peek (p := w.heap.size + 1 + 1) (i := 0) (j := 1) (x := x) (y := y) r1; rw [← hV] at this; exact this
    have v6 := by have := sc_frozen (p := w.heap.size + 1 + 1) (i := 0) (j := 1) (x := x) (y := y) r2; rw [← hV] at this; exact this
    have v7 := by have := sc_frozen (p := w.heap.size + 1 + 1) (i := 0) (j := 1) (x := x) (y := y) r3; rw [← hV] at this; exact this
    have v8 : Below w.heap.size w V := by rw [hV]; exact Below.setCell (p := ⟨w.heap.size + 1 + 1, 1, none⟩) (Below.setCell (p := ⟨w.heap.size + 1 + 1, 0, none⟩) hBW (show _ ≤ w.heap.size + 1 + 1 by omega) _) (show _ ≤ w.heap.size + 1 + 1 by omega) _
    exact ⟨(hbl2.cell (p := ⟨w.heap.size, 0, none⟩) hz0).trans v0, (hbl2.cell (p := ⟨w.heap.size, 1, none⟩) hz0).trans v1, (hbl2.cell (p := ⟨w.heap.size + 1, 0, none⟩) hz1).trans v2, (hbl2.cell (p := ⟨w.heap.size + 1, 1, none⟩) hz1).trans v3, peek_of ((hbl2.cell (p := ⟨w.heap.size + 1 + 1, 0, none⟩) hz2).trans v4), peek_of ((hbl2.cell (p := ⟨w.heap.size + 1 + 1, 1, none⟩) hz2).trans v5), (hbl2.frozen (p := ⟨w.heap.size + 1 + 1, 0, none⟩) hz2).trans v6, (hbl2.frozen (p := ⟨w.heap.size + 1 + 1, 1, none⟩) hz2).trans v7, v8.trans (hbl2.mono (Nat.le_of_lt hz0))⟩
  have hR : ∀ (x y : Value) (o o' : Obj) (W' : World), W' = ((((W.setCell ⟨w.heap.size + 1 + 1, 0, none⟩ x).setCell ⟨w.heap.size + 1 + 1, 1, none⟩ y).alloc o).alloc o').drew → W'.cell? ⟨w.heap.size + 1 + 1, 0, none⟩ = some x ∧ W'.cell? ⟨w.heap.size + 1 + 1, 1, none⟩ = some y ∧ Below w.heap.size w W' := by
    intro x y o o' W' e
    refine ⟨?_, ?_, (hT x y o o' W' e).2.2.2.2.2.2.2.2⟩
    · rw [e]
      refine ((below_alloc2 _ _ _).drew.cell (p := ⟨w.heap.size + 1 + 1, 0, none⟩) ?_).trans (two_cells r0 r1).1
      simpa using hz2
    · rw [e]
      refine ((below_alloc2 _ _ _).drew.cell (p := ⟨w.heap.size + 1 + 1, 1, none⟩) ?_).trans (two_cells r0 r1).2
      simpa using hz2
  have HR := Lib.hid hR
  clear hR
  have HS := Lib.hid hS
  have HT := Lib.hid hT
  clear hS hT
  go_region_held3 (fun W' => W'.cell? ⟨w.heap.size, 0, none⟩ = some (I lo) ∧ W'.cell? ⟨w.heap.size, 1, none⟩ = some (I hi) ∧ W'.cell? ⟨w.heap.size + 1, 0, none⟩ = some (I lo') ∧ W'.cell? ⟨w.heap.size + 1, 1, none⟩ = some (I hi') ∧ W'.cell? ⟨w.heap.size + 1 + 1, 0, none⟩ = some (peek W' (w.heap.size + 1 + 1) 0) ∧ W'.cell? ⟨w.heap.size + 1 + 1, 1, none⟩ = some (peek W' (w.heap.size + 1 + 1) 1) ∧ W'.frozen? ⟨w.heap.size + 1 + 1, 0, none⟩ = false ∧ W'.frozen? ⟨w.heap.size + 1 + 1, 1, none⟩ = false ∧ Below w.heap.size w W')
    (first
      | with_reducible exact HS.out _ (Below.refl _ _).drew
      | with_reducible exact HS.out _ (below_alloc _ _).drew
      | with_reducible exact HS.out _ (below_alloc2 _ _ _).drew
      | with_reducible exact HS.out _ (below_alloc _ _)
      | with_reducible exact HS.out _ (below_alloc2 _ _ _)
      | with_reducible exact HT.out _ _ _ _ _ rfl)
    (first
      | (go_at_call 123; refine (most_two L _ _ lo lo' _ (by simp [go_sem]) (by simp [go_sem])).mono ?_; rintro e w' ⟨rfl, rfl⟩)
      | (go_at_call 124; refine (least_two L _ _ hi hi' _ (by simp [go_sem]) (by simp [go_sem])).mono ?_; rintro e w' ⟨rfl, rfl⟩))
  all_goals go_wp2_with fail
  all_goals
    (refine name_post (Q := bodyPost _ _ _) ?_
     intro W9 h9
     obtain ⟨k0, k1, k2⟩ := HR.out _ _ _ _ _ h9
     exact bodyPost_ret (v := .agg #[I (max lo lo'), I (min hi hi')]) (by simp [results, Tryz.results85, go_sem, k0, k1]) rfl ⟨rfl, k2⟩)
end Go.Proofs.YthcolbjbafilcaaGreat
