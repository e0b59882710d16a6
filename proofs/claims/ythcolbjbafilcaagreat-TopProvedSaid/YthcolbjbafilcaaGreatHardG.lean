/-
  Package hard: slices.Clone of ranges; Spans.
-/
import Derived.Test.YthcolbjbafilcaaGreatHardF
import Derived.Lib.SliceRun
import Derived.Laws.OwnMore
set_option linter.unusedSimpArgs false
set_option linter.unusedVariables false
namespace Go.Proofs.YthcolbjbafilcaaGreat
open Go.RowKit Go.Shelf Go.Sort
attribute [local go_sem] Oper.semAt_some

theorem rows_flat {α : Type} {enc : α → List Value} {sz : Nat} (he : ∀ x, (enc x).length = sz) (hs : 0 < sz) {w : World} {b : Nat} : ∀ {l : List α} {o : Nat}, (∀ i x, l[i]? = some x → RowAt w b (o + i * sz) (enc x)) → ∀ j u, (l.flatMap enc)[j]? = some u → w.cell? ⟨b, o + j, none⟩ = some u
  | [], o, _, j, u, h => by simp at h
  | x :: l, o, hr, j, u, h => by
    rw [List.flatMap_cons] at h
    by_cases hj : j < sz
    · rw [List.getElem?_append_left (by rw [he]; exact hj)] at h
      have := hr 0 x rfl j u h
      rwa [Nat.zero_mul, Nat.add_zero] at this
    · rw [List.getElem?_append_right (by rw [he]; omega), he] at h
      have := rows_flat he hs (l := l) (o := o + sz) (fun i y hy => by have := hr (i + 1) y (by simpa using hy); rw [Nat.succ_mul] at this; rwa [show o + (i * sz + sz) = o + sz + i * sz from by omega] at this) (j - sz) u h
      rwa [show o + sz + (j - sz) = o + j from by omega] at this
theorem flat_len {α : Type} {enc : α → List Value} {sz : Nat} (he : ∀ x, (enc x).length = sz) : ∀ l : List α, (l.flatMap enc).length = l.length * sz
  | [] => by simp
  | x :: l => by rw [List.flatMap_cons, List.length_append, flat_len he l, he, List.length_cons, Nat.succ_mul]; omega

set_option maxHeartbeats 1000000 in
theorem hrng_clone (l : List Rng) (ok : Nat → Prop) (v : Value) (w : World) (hl0 : 0 < l.length) (hl : l.length ≤ 1000) (hv : SliceIs Rng.cells 2 ok w v l) :
    Calls Tryz.prog 38 #[v] w fun e w' => ∃ v', e = .returned v' ∧ w'.ownsRow w.heap.size 50 2 v' l.length (l.flatMap Rng.cells) ∧ Below w.heap.size w w' := by
  obtain ⟨a, c, rfl, hc, hr⟩ := hv
  obtain ⟨b, o, rfl, hok, hb, hrows⟩ := hr hl0
  have hi0 : (Tryz.prog.info? 50).map (fun i => (i.zero, i.size, i.bytes)) = some (some (.agg #[.int .i64 0, .int .i64 0]), 2, 16) := by kernel_rfl
  obtain ⟨i0, hi, hz0, hz1, hz2⟩ := info_parts hi0
  have hq : ∀ (w : World) (a : Option Addr) (n c n' c' : Nat), (binOp .eql 59 (.slice a n c) (.slice none n' c')).run Tryz.prog w = .ok (.bool a.isNone) w := fun w a n c n' c' => Lib.run_eql_slice_nil w _ _ a n c n' c' Tryz.underlying59
  have HF := Lib.hid (rows_flat (enc := Rng.cells) (sz := 2) (fun _ => rfl) (by decide) hrows)
  have Hlen := Lib.hid (flat_len (enc := Rng.cells) (sz := 2) (fun _ => rfl) l)
  have Hone : Hid (∀ u ∈ l.flatMap Rng.cells, u.oneCell' = true) := Lib.hid (by intro u hu; rw [List.mem_flatMap] at hu; obtain ⟨x, -, hx⟩ := hu; simp at hx; rcases hx with h | h <;> (first | (subst h; rfl) | (rcases h with h | h <;> (first | (subst h; rfl) | (rcases h with h | h <;> (first | (subst h; rfl) | (rcases h with h | h <;> (first | (subst h; rfl) | (rcases h with h | h <;> (first | (subst h; rfl) | (rcases h with h | h <;> subst h <;> rfl)))))))))))
  clear hr hrows
  go_enter Tryz.func38, Tryz.ntmps38
  go_wp2_with (at_builtin; refine wpList_append_own _ rfl _ _ 59 rfl w.heap.size 50 i0 (.agg #[.int .i64 0, .int .i64 0]) 2 16 Tryz.underlying59 hi hz0 hz1 hz2 rfl (by decide) _ _ _ rfl (World.ownsRow_made w #[] 0 (Nat.le_refl _) (Nat.zero_le _) rfl) ⟨b, o, none⟩ l.length c (l.flatMap Rng.cells) rfl ?qc1 ?qc2 ?qc3 ?qc4 ?qc5 ?qc6 ?_)
  case qc1 => exact Hlen.out
  case qc2 =>
    intro j u hj
    rw [Addr.add_lit]
    exact Lib.cell?_alloc_some _ (HF.out j u hj)
  case qc3 => exact Hone.out
  case qc4 => unfold maxLen; omega
  case qc5 => omega
  case qc6 => simp
  intro v' w1 hown hgrow hnil
  go_wp2
  go_ret
  exact ⟨v', rfl, by simpa using hown, ((Below.refl _ w).alloc (Nat.le_refl _) _).grown hgrow (by simp) (by intro k hk; simp [Value.ownBlock] at hk; omega)⟩
end Go.Proofs.YthcolbjbafilcaaGreat
