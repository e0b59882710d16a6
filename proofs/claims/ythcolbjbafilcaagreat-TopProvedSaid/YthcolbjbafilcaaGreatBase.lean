/-
  Words of this proof: how slices of structs read, what a call keeps of the memory that it found.
-/
import Derived.WalkKit
import Derived.MapKept
import Derived.Deep.QuietTactic
import Derived.BigQuiet
import Derived.Lib.Hide
set_option linter.unusedSimpArgs false
set_option linter.unusedVariables false
namespace Go.Proofs.YthcolbjbafilcaaGreat
open Go.RowKit

abbrev I (n : Int) : Value := .int .i64 n

/-- What a call keeps: the blocks that lay there and are not in S. -/
structure Kept (S : Nat → Prop) (w w' : World) : Prop where
  os : w'.os = w.os
  tape : w'.tape = w.tape
  output : w'.output = w.output
  size : w.heap.size ≤ w'.heap.size
  block : ∀ i, i < w.heap.size → ¬ S i → w'.heap[i]? = w.heap[i]?
theorem Kept.refl (S : Nat → Prop) (w : World) : Kept S w w := ⟨rfl, rfl, rfl, Nat.le_refl _, fun _ _ _ => rfl⟩
theorem Kept.trans {S : Nat → Prop} {a b c : World} (h : Kept S a b) (k : Kept S b c) : Kept S a c :=
  ⟨k.os.trans h.os, k.tape.trans h.tape, k.output.trans h.output, Nat.le_trans h.size k.size,
   fun i hi hs => (k.block i (Nat.lt_of_lt_of_le hi h.size) hs).trans (h.block i hi hs)⟩
theorem Kept.below {S : Nat → Prop} {a b : World} (h : Below a.heap.size a b) : Kept S a b := ⟨h.os, h.tape, h.output, h.size, fun i hi _ => h.block i hi⟩
theorem Kept.to_below {a b : World} (h : Kept (fun _ => False) a b) : Below a.heap.size a b := ⟨h.os, h.tape, h.output, h.size, fun i hi => h.block i hi (fun x => x)⟩
theorem Kept.grown {S : Nat → Prop} {a b : World} {row : Option Nat} (h : a.grownBy b row) (hs : ∀ k, row = some k → k < a.heap.size → S k) : Kept S a b :=
  ⟨h.os, h.tape, h.output, h.size, fun i hi hn => h.block i hi (fun e => hn (hs i e.symm hi))⟩
theorem Kept.to_grown {a b : World} {r : Nat} (h : Kept (· = r) a b) : a.grownBy b (some r) :=
  ⟨h.os, h.tape, h.output, h.size, fun i hi hn => h.block i hi (fun e => hn (by rw [e]))⟩
theorem Kept.mono {S S' : Nat → Prop} {a b : World} (h : Kept S a b) (hs : ∀ i, i < a.heap.size → S i → S' i) : Kept S' a b :=
  ⟨h.os, h.tape, h.output, h.size, fun i hi hn => h.block i hi (fun x => hn (hs i hi x))⟩
theorem Kept.alloc {S : Nat → Prop} {a b : World} (h : Kept S a b) (o : Obj) : Kept S a (b.alloc o) :=
  h.trans (Kept.below ((Below.refl _ b).alloc (Nat.le_refl _) o))
theorem Kept.drew {S : Nat → Prop} {a b : World} (h : Kept S a b) : Kept S a b.drew := ⟨h.os, h.tape, h.output, h.size, h.block⟩
theorem Kept.setCell {S : Nat → Prop} {a b : World} (h : Kept S a b) {p : Addr} (hp : p.block < a.heap.size → S p.block) (u : Value) : Kept S a (b.setCell p u) :=
  ⟨h.os, h.tape, h.output, by simpa [World.setCell] using h.size, fun i hi hn => by
    have hne : i ≠ p.block := fun e => by subst e; exact hn (hp hi)
    rw [Below.heap_setCell b p u i hne]; exact h.block i hi hn⟩
theorem Kept.cell {S : Nat → Prop} {a b : World} (h : Kept S a b) {p : Addr} (hp : p.block < a.heap.size) (hs : ¬ S p.block) : b.cell? p = a.cell? p := World.cell?_of_block (h.block _ hp hs)
/-- Below the size at which a call began. -/
theorem below_from {a b c : World} (h : Below a.heap.size a b) (k : Below b.heap.size b c) : Below a.heap.size a c := h.trans (k.mono h.size)

theorem _root_.Go.RowKit.Below.drewN {B : Nat} {w W : World} (h : Below B w W) (n : Nat) : Below B w (W.drewN n) := ⟨h.os, h.tape, h.output, h.size, h.block⟩
/-- All that lay there reads as before. -/
theorem bcell {W w1 : World} (hb : Below W.heap.size W w1) : (∀ b o, b < W.heap.size → w1.cell? ⟨b, o, none⟩ = W.cell? ⟨b, o, none⟩) ∧ (∀ b o, b < W.heap.size → w1.frozen? ⟨b, o, none⟩ = W.frozen? ⟨b, o, none⟩) :=
  ⟨fun b o h => hb.cell (p := ⟨b, o, none⟩) h, fun b o h => hb.frozen (p := ⟨b, o, none⟩) h⟩
theorem below_alloc (w : World) (o : Obj) : Below w.heap.size w (w.alloc o) := (Below.refl _ _).alloc (Nat.le_refl _) _
theorem below_alloc2 (w : World) (o o' : Obj) : Below w.heap.size w ((w.alloc o).alloc o') := (below_alloc w o).alloc (by simp) _
theorem below_alloc3 (w : World) (o o' o'' : Obj) : Below w.heap.size w (((w.alloc o).alloc o').alloc o'') := (below_alloc2 w o o').alloc (by simp; omega) _

theorem heap_new (w : World) (o : Obj) {b : Nat} (h : b = w.heap.size) : (w.alloc o).heap[b]? = some o := by subst h; exact (MapKept.heap_alloc w o).1
theorem heap_old (w : World) (o : Obj) {b : Nat} (h : b < w.heap.size) : (w.alloc o).heap[b]? = w.heap[b]? := Below.heap_alloc w o b h
theorem heap_at {w : World} {b : Nat} {o : Obj} (h : w.heap[b]? = some o) : b < w.heap.size := (Array.getElem?_eq_some_iff.1 h).1
theorem cell_of_heap {w : World} {b : Nat} {c : Array Value} {t : TypeId} {fr : Nat × Nat} (h : w.heap[b]? = some (.cells c t fr)) (i : Nat) : w.cell? ⟨b, i, none⟩ = c[i]? := by simp [World.cell?, h]
theorem free_of_heap {w : World} {b : Nat} {c : Array Value} {t : TypeId} (h : w.heap[b]? = some (.cells c t (0, 0))) (i : Nat) : w.frozen? ⟨b, i, none⟩ = false := by simp [World.frozen?, h]
theorem setCell_heap {w : World} {b : Nat} {c : Array Value} {t : TypeId} {fr : Nat × Nat} (h : w.heap[b]? = some (.cells c t fr)) (i : Nat) (v : Value) : (w.setCell ⟨b, i, none⟩ v).heap[b]? = some (.cells (c.setIfInBounds i v) t fr) := by
  simp [World.setCell, Array.getElem?_modify, h]

theorem name_post {Q : Exit → Act → World → Prop} {e : Exit} {a : Act} {w : World} (h : ∀ W, W = w → Q e a W) : Q e a w := h w rfl
theorem name_world {P : Program} {c : Code} {Q : Exit → Act → World → Prop} {a : Act} {w : World} (h : ∀ W, W = w → c.wp P Q a W) : c.wp P Q a w := h w rfl

/-- Whatever a cell holds. -/
def peek (w : World) (b i : Nat) : Value := (w.cell? ⟨b, i, none⟩).getD undef
theorem peek_below {W w' : World} {B b i : Nat} (hB : Below B W w') (hb : b < B) (h : W.cell? ⟨b, i, none⟩ = some (peek W b i)) : w'.cell? ⟨b, i, none⟩ = some (peek w' b i) := by
  have e := hB.cell (p := ⟨b, i, none⟩) hb
  simp only [peek, e]; exact h
theorem peek_of {w : World} {b i : Nat} {v : Value} (h : w.cell? ⟨b, i, none⟩ = some v) : w.cell? ⟨b, i, none⟩ = some (peek w b i) := by simp [peek, h]

theorem sc_cell {W : World} {p i j b k : Nat} {x y v : Value} (hb : b ≠ p) (h : W.cell? ⟨b, k, none⟩ = some v) : ((W.setCell ⟨p, i, none⟩ x).setCell ⟨p, j, none⟩ y).cell? ⟨b, k, none⟩ = some v := by
  rw [World.cell?_setCell_other, World.cell?_setCell_other]
  · exact h
  · intro e; cases e; exact hb rfl
  · intro e; cases e; exact hb rfl
theorem sc_frozen {W : World} {p i j b k : Nat} {x y : Value} (h : W.frozen? ⟨b, k, none⟩ = false) : ((W.setCell ⟨p, i, none⟩ x).setCell ⟨p, j, none⟩ y).frozen? ⟨b, k, none⟩ = false := by
  rw [World.frozen?_setCell, World.frozen?_setCell]; exact h
theorem some_setCell {W : World} {p i b k : Nat} {x v : Value} (h : W.cell? ⟨b, k, none⟩ = some v) : ∃ u, (W.setCell ⟨p, i, none⟩ x).cell? ⟨b, k, none⟩ = some u := by
  by_cases e : (⟨p, i, none⟩ : Addr) = ⟨b, k, none⟩
  · rw [e]; exact ⟨_, World.cell?_setCell_same _ _ _ h⟩
  · exact ⟨v, by rw [World.cell?_setCell_other _ _ _ _ e]; exact h⟩
theorem sc_peek {W : World} {p i j b k : Nat} {x y v : Value} (h : W.cell? ⟨b, k, none⟩ = some v) : ((W.setCell ⟨p, i, none⟩ x).setCell ⟨p, j, none⟩ y).cell? ⟨b, k, none⟩ = some (peek ((W.setCell ⟨p, i, none⟩ x).setCell ⟨p, j, none⟩ y) b k) := by
  obtain ⟨u, hu⟩ := some_setCell (p := p) (i := i) (x := x) h
  obtain ⟨u', hu'⟩ := some_setCell (p := p) (i := j) (x := y) hu
  exact peek_of hu'

theorem two_cells {W : World} {p : Nat} {x y u0 u1 : Value} (h0 : W.cell? ⟨p, 0, none⟩ = some u0) (h1 : W.cell? ⟨p, 1, none⟩ = some u1) :
    ((W.setCell ⟨p, 0, none⟩ x).setCell ⟨p, 1, none⟩ y).cell? ⟨p, 0, none⟩ = some x ∧ ((W.setCell ⟨p, 0, none⟩ x).setCell ⟨p, 1, none⟩ y).cell? ⟨p, 1, none⟩ = some y := by
  have e : (W.setCell ⟨p, 0, none⟩ x).cell? ⟨p, 1, none⟩ = some u1 := by rw [World.cell?_setCell_other _ _ _ _ (by simp)]; exact h1
  refine ⟨?_, World.cell?_setCell_same _ _ _ e⟩
  rw [World.cell?_setCell_other _ _ _ _ (by simp)]
  exact World.cell?_setCell_same _ _ _ h0

/-- A row of cells at an address. -/
def RowAt (w : World) (b o : Nat) (r : List Value) : Prop := ∀ k u, r[k]? = some u → w.cell? ⟨b, o + k, none⟩ = some u
theorem RowAt.of_block {w w' : World} {b o : Nat} {r : List Value} (h : RowAt w b o r) (e : w'.heap[b]? = w.heap[b]?) : RowAt w' b o r :=
  fun k u hu => (World.cell?_of_block (a := ⟨b, o + k, none⟩) e).trans (h k u hu)
theorem RowAt.below {B : Nat} {w w' : World} {b o : Nat} {r : List Value} (h : RowAt w b o r) (hB : Below B w w') (hb : b < B) : RowAt w' b o r := h.of_block (hB.block b hb)
theorem RowAt.c0 {w : World} {b o : Nat} {x : Value} {r : List Value} (h : RowAt w b o (x :: r)) : w.cell? ⟨b, o, none⟩ = some x := h 0 x rfl
theorem RowAt.tail {w : World} {b o : Nat} {x : Value} {r : List Value} (h : RowAt w b o (x :: r)) : RowAt w b (o + 1) r := fun k u hu => by
  have := h (k + 1) u (by simpa using hu)
  rwa [show o + (k + 1) = o + 1 + k from by omega] at this
theorem RowAt.at_ {w : World} {b o : Nat} {r : List Value} (h : RowAt w b o r) (k : Nat) (u : Value) (hu : r[k]? = some u) : w.cell? ⟨b, o + k, none⟩ = some u := h k u hu
theorem RowAt.two {w : World} {b o : Nat} {x0 x1 : Value} (h : RowAt w b o [x0, x1]) : w.cell? ⟨b, o, none⟩ = some x0 ∧ w.cell? ⟨b, o + 1, none⟩ = some x1 := ⟨h 0 _ rfl, h 1 _ rfl⟩
theorem RowAt.three {w : World} {b o : Nat} {x0 x1 x2 : Value} (h : RowAt w b o [x0, x1, x2]) : w.cell? ⟨b, o, none⟩ = some x0 ∧ w.cell? ⟨b, o + 1, none⟩ = some x1 ∧ w.cell? ⟨b, o + 2, none⟩ = some x2 := ⟨h 0 _ rfl, h 1 _ rfl, h 2 _ rfl⟩
theorem RowAt.four {w : World} {b o : Nat} {x0 x1 x2 x3 : Value} (h : RowAt w b o [x0, x1, x2, x3]) : w.cell? ⟨b, o, none⟩ = some x0 ∧ w.cell? ⟨b, o + 1, none⟩ = some x1 ∧ w.cell? ⟨b, o + 2, none⟩ = some x2 ∧ w.cell? ⟨b, o + 3, none⟩ = some x3 := ⟨h 0 _ rfl, h 1 _ rfl, h 2 _ rfl, h 3 _ rfl⟩
theorem RowAt.five {w : World} {b o : Nat} {x0 x1 x2 x3 x4 : Value} (h : RowAt w b o [x0, x1, x2, x3, x4]) : w.cell? ⟨b, o, none⟩ = some x0 ∧ w.cell? ⟨b, o + 1, none⟩ = some x1 ∧ w.cell? ⟨b, o + 2, none⟩ = some x2 ∧ w.cell? ⟨b, o + 3, none⟩ = some x3 ∧ w.cell? ⟨b, o + 4, none⟩ = some x4 := ⟨h 0 _ rfl, h 1 _ rfl, h 2 _ rfl, h 3 _ rfl, h 4 _ rfl⟩
theorem RowAt.seven {w : World} {b o : Nat} {x0 x1 x2 x3 x4 x5 x6 : Value} (h : RowAt w b o [x0, x1, x2, x3, x4, x5, x6]) : w.cell? ⟨b, o, none⟩ = some x0 ∧ w.cell? ⟨b, o + 1, none⟩ = some x1 ∧ w.cell? ⟨b, o + 2, none⟩ = some x2 ∧ w.cell? ⟨b, o + 3, none⟩ = some x3 ∧ w.cell? ⟨b, o + 4, none⟩ = some x4 ∧ w.cell? ⟨b, o + 5, none⟩ = some x5 ∧ w.cell? ⟨b, o + 6, none⟩ = some x6 := ⟨h 0 _ rfl, h 1 _ rfl, h 2 _ rfl, h 3 _ rfl, h 4 _ rfl, h 5 _ rfl, h 6 _ rfl⟩

theorem row_new (w : World) (r : List Value) (t : TypeId) {b : Nat} (h : b = w.heap.size) : RowAt (w.alloc (.cells r.toArray t)) b 0 r := fun k u hu => by
  rw [cell_of_heap (heap_new w _ h)]; simpa using hu
/-- A slice whose elements take sz cells, and read as l; it lies in a block that is ok. -/
def SliceIs {α : Type} (enc : α → List Value) (sz : Nat) (ok : Nat → Prop) (w : World) (v : Value) (l : List α) : Prop :=
  ∃ (a : Option Addr) (c : Nat), v = .slice a l.length c ∧ l.length ≤ c ∧
    (0 < l.length → ∃ b o, a = some ⟨b, o, none⟩ ∧ ok b ∧ b < w.heap.size ∧ ∀ i x, l[i]? = some x → RowAt w b (o + i * sz) (enc x))
section
variable {α : Type} {enc : α → List Value} {sz : Nat} {ok : Nat → Prop} {w w' : World} {v : Value} {l : List α}
theorem SliceIs.kept {S : Nat → Prop} (h : SliceIs enc sz ok w v l) (hk : Kept S w w') (hs : ∀ b, ok b → ¬ S b) : SliceIs enc sz ok w' v l := by
  obtain ⟨a, c, rfl, hc, hr⟩ := h
  refine ⟨a, c, rfl, hc, fun hl => ?_⟩
  obtain ⟨b, o, rfl, hok, hb, hr⟩ := hr hl
  exact ⟨b, o, rfl, hok, Nat.lt_of_lt_of_le hb hk.size, fun i x hi => (hr i x hi).of_block (hk.block b hb (hs b hok))⟩
theorem SliceIs.below (h : SliceIs enc sz ok w v l) (hB : Below w.heap.size w w') : SliceIs enc sz ok w' v l := h.kept (S := fun _ => False) (Kept.below hB) (fun _ _ x => x)
theorem SliceIs.mono {ok' : Nat → Prop} (h : SliceIs enc sz ok w v l) (hs : ∀ b, ok b → b < w.heap.size → ok' b) : SliceIs enc sz ok' w v l := by
  obtain ⟨a, c, rfl, hc, hr⟩ := h
  refine ⟨a, c, rfl, hc, fun hl => ?_⟩
  obtain ⟨b, o, rfl, hok, hb, hr⟩ := hr hl
  exact ⟨b, o, rfl, hs b hok hb, hb, hr⟩
theorem SliceIs.nil (a : Option Addr) (c : Nat) : SliceIs enc sz ok w (.slice a 0 c) ([] : List α) := ⟨a, c, rfl, Nat.zero_le _, fun h => absurd h (by simp)⟩
/-- What the call owns can be read. -/
theorem SliceIs.owns {base n : Nat} {e : TypeId} {xs : List Value} (h : w.ownsRow base e sz v n xs) (hx : xs = l.flatMap enc) (he : ∀ x, (enc x).length = sz) (hs : 0 < sz) : SliceIs enc sz (base ≤ ·) w v l := by
  subst hx
  have hlen : (l.flatMap enc).length = l.length * sz := by
    clear h
    induction l with
    | nil => simp
    | cons x l ih => simp only [List.flatMap_cons, List.length_append, List.length_cons, he, ih]; rw [Nat.succ_mul]; omega
  have hn : n = l.length := by
    have := h.1; rw [hlen] at this
    exact (Nat.eq_of_mul_eq_mul_right hs this).symm
  subst hn
  rcases h.2 with ⟨rfl, h0⟩ | ⟨g, cap, cur, rfl, hg, hh, hc, _, _, _⟩
  · exact ⟨none, 0, by rw [h0], by omega, fun hl => absurd hl (by omega)⟩
  · refine ⟨_, cap, rfl, hc, fun hl => ⟨g, 0, rfl, hg, (Array.getElem?_eq_some_iff.1 hh).1, fun i x hi k u hu => ?_⟩⟩
    have hk : k < sz := by have := (List.getElem?_eq_some_iff.1 hu).1; rw [he] at this; exact this
    have hat : (l.flatMap enc)[i * sz + k]? = some u := by
      have hgen : ∀ (m : List α) (i : Nat), m[i]? = some x → (m.flatMap enc)[i * sz + k]? = some u := by
        intro m
        induction m with
        | nil => intro i hi; simp at hi
        | cons y m ih =>
          intro i hi
          cases i with
          | zero =>
            simp at hi; subst hi
            simp only [List.flatMap_cons, Nat.zero_mul, Nat.zero_add]
            rw [List.getElem?_append_left (by rw [he]; exact hk)]; exact hu
          | succ i =>
            simp at hi
            simp only [List.flatMap_cons]
            rw [List.getElem?_append_right (by rw [he, Nat.succ_mul]; omega), he]
            rw [show (i + 1) * sz + k - sz = i * sz + k from by rw [Nat.succ_mul]; omega]
            exact ih i hi
      exact hgen l i hi
    have := h.cells (g := g) rfl _ _ hat
    rw [show (⟨g, 0, none⟩ : Addr).add (i * sz + k) = ⟨g, 0 + i * sz + k, none⟩ from by unfold Addr.add; split <;> simp_all] at this
    exact this
end

theorem map_flat {α β : Type} (f : α → β) (l : List α) : l.map f = l.flatMap fun x => [f x] := by
  induction l with
  | nil => rfl
  | cons x l ih => simp [List.flatMap_cons, ih]
/-! ### elements of one cell -/
abbrev IntsIs (ok : Nat → Prop) (w : World) (v : Value) (l : List Int) : Prop := SliceIs (fun x => [I x]) 1 ok w v l
abbrev BoolsIs (ok : Nat → Prop) (w : World) (v : Value) (l : List Bool) : Prop := SliceIs (fun x => [Value.bool x]) 1 ok w v l
abbrev StrsIs (ok : Nat → Prop) (w : World) (v : Value) (l : List ByteArray) : Prop := SliceIs (fun x => [Value.string x]) 1 ok w v l
end Go.Proofs.YthcolbjbafilcaaGreat
