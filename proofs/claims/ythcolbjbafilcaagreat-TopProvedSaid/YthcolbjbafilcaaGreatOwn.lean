/-
  Words for lists that a call builds: what a slice owns, in a field of a struct of the call's own.
-/
import Derived.Test.YthcolbjbafilcaaGreatBase
import Derived.Deep.AppendLies
import Derived.Laws.OwnMore
set_option linter.unusedSimpArgs false
set_option linter.unusedVariables false
namespace Go.Proofs.YthcolbjbafilcaaGreat
open Go.RowKit

/-- The slice v owns l. -/
def Owns {α : Type} (enc : α → List Value) (sz : Nat) (base : Nat) (e : TypeId) (w : World) (v : Value) (l : List α) : Prop := w.ownsRow base e sz v l.length (l.flatMap enc)
section
variable {α : Type} {enc : α → List Value} {sz base : Nat} {e : TypeId} {w w' : World} {v : Value} {l : List α}
theorem Owns.nil (w : World) : Owns enc sz base e w (.slice none 0 0) ([] : List α) := World.ownsRow_nil w base e sz
theorem Owns.form (h : Owns enc sz base e w v l) : ∃ a c, v = .slice a l.length c := by
  rcases h.2 with ⟨rfl, h0⟩ | ⟨g, cap, cur, rfl, -⟩
  · exact ⟨none, 0, by rw [h0]⟩
  · exact ⟨_, _, rfl⟩
theorem Owns.lt (h : Owns enc sz base e w v l) : ∀ k, v.ownBlock = some k → base ≤ k ∧ k < w.heap.size := World.ownsRow.lt h
theorem Owns.kept {S : Nat → Prop} (h : Owns enc sz base e w v l) (hk : Kept S w w') (hs : ∀ k, v.ownBlock = some k → ¬ S k) : Owns enc sz base e w' v l := by
  unfold Owns at h ⊢
  obtain ⟨h1, h2⟩ := h
  refine ⟨h1, h2.imp id ?_⟩
  rintro ⟨g, cap, cur, rfl, hb, hg, h3⟩
  exact ⟨g, cap, cur, rfl, hb, (hk.block g (Array.getElem?_eq_some_iff.1 hg).1 (hs g rfl)).trans hg, h3⟩
theorem Owns.below (h : Owns enc sz base e w v l) (hB : Below w.heap.size w w') : Owns enc sz base e w' v l := h.kept (S := fun _ => False) (Kept.below hB) (fun _ _ x => x)
theorem Owns.read (h : Owns enc sz base e w v l) (he : ∀ x, (enc x).length = sz) (hs : 0 < sz) : SliceIs enc sz (base ≤ ·) w v l := SliceIs.owns h rfl he hs
theorem Owns.of_snoc {x : α} {n : Nat} {xs : List Value} (h : w.ownsRow base e sz v n xs) (hn : n = (l ++ [x]).length) (hx : xs = l.flatMap enc ++ enc x) : Owns enc sz base e w v (l ++ [x]) := by
  unfold Owns; subst hn hx; simpa using h
end
theorem grown_kept {w w' : World} {v : Value} (h : w.grownBy w' v.ownBlock) : Kept (fun i => some i = v.ownBlock) w w' := Kept.grown h (fun k hk _ => hk.symm)
theorem Kept.or_left {S T : Nat → Prop} {a b : World} (h : Kept S a b) : Kept (fun i => S i ∨ T i) a b := h.mono (fun _ _ x => Or.inl x)
theorem Kept.or_right {S T : Nat → Prop} {a b : World} (h : Kept T a b) : Kept (fun i => S i ∨ T i) a b := h.mono (fun _ _ x => Or.inr x)
theorem kept_append {W0 wr w1 : World} {p : Nat} {v : Value} (hK : Kept (· = p) W0 wr) (hk1 : Kept (fun i => some i = v.ownBlock) wr w1) (hb : ∀ k, v.ownBlock = some k → W0.heap.size ≤ k) (i : Nat) (u : Value) : Kept (· = p) W0 (w1.setCell ⟨p, i, none⟩ u) := by
  have h1 : Kept (fun i => i = p ∨ W0.heap.size ≤ i) W0 (w1.setCell ⟨p, i, none⟩ u) :=
    ((hK.mono (S' := fun i => i = p ∨ W0.heap.size ≤ i) (fun _ _ h => Or.inl h)).trans (hk1.mono (S' := fun i => i = p ∨ W0.heap.size ≤ i) (fun i _ h => Or.inr (hb i h.symm)))).setCell (p := ⟨p, i, none⟩) (fun _ => Or.inl rfl) u
  exact h1.mono (fun j hj h => h.elim id (fun h' => absurd h' (by omega)))
theorem Owns.setCell_below {α : Type} {enc : α → List Value} {sz base : Nat} {e : TypeId} {w : World} {v : Value} {l : List α} (h : Owns enc sz base e w v l) {p : Nat} (hp : p < base) (i : Nat) (u : Value) : Owns enc sz base e (w.setCell ⟨p, i, none⟩ u) v l :=
  ownsRow_setCell_below h (a := ⟨p, i, none⟩) hp u
end Go.Proofs.YthcolbjbafilcaaGreat
