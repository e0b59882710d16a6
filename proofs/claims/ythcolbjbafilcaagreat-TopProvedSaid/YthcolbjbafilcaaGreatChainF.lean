/-
  chain: (Book).asked: the error of a question for an item on a day; or the book that is worked on, and what holds.
-/
import Derived.Test.YthcolbjbafilcaaGreatChainE
set_option linter.unusedSimpArgs false
set_option linter.unusedVariables false
namespace Go.Proofs.YthcolbjbafilcaaGreat
open Go.RowKit Go.Shelf
attribute [local go_sem] Oper.semAt_some

def heldOn (items : List Item) (cm : List (Int × Cert)) (ns : List Int) (item day : Int) : Bool :=
  (itemOf items item).standard || (ofList cm ns item day 1000).any fun o => ((heldFrom items cm ns ns []).lookup o.number).getD false
def askedErr (items : List Item) (certs : List Cert) (item day : Int) : Int :=
  if bookErr items certs ≠ 0 then bookErr items certs
  else if !(inB item 0 (items.length - 1) && inB day 0 1000) then 2
  else match readLoop certs [] [] with
    | none => 0
    | some (cm, ns) => if heldOn items cm (sortI ns) item day then 0 else 10
def AskedPost (items : List Item) (certs : List Cert) (item day : Int) (w : World) (e : Ending) (w' : World) : Prop :=
  (askedErr items certs item day ≠ 0 ∧ e = .returned (.tuple #[.pointer none, .map none, I (askedErr items certs item day)]) ∧ Below w.heap.size w w') ∨
  (askedErr items certs item day = 0 ∧ bookErr items certs = 0 ∧ inB item 0 (items.length - 1) = true ∧ ∃ bw r cm ns, readLoop certs [] [] = some (cm, ns) ∧ e = .returned (.tuple #[.pointer (some ⟨bw, 0, none⟩), .map (some r), I 0]) ∧ Below w.heap.size w w' ∧ w.heap.size ≤ bw ∧ w.heap.size ≤ r ∧
    WorkIs (fun _ => True) w' bw items certs cm (sortI ns) ∧ MapIs I Value.bool w' r (heldFrom items cm (sortI ns) (sortI ns) []))
theorem AskedPost.err {items : List Item} {certs : List Cert} {item day : Int} {w w' : World} {e : Ending} {k : Int} (h : askedErr items certs item day = k) (hk : k ≠ 0) (he : e = .returned (.tuple #[.pointer none, .map none, I k])) (hB : Below w.heap.size w w') : AskedPost items certs item day w e w' :=
  .inl ⟨by rw [h]; exact hk, by rw [h]; exact he, hB⟩

set_option maxRecDepth 100000 in
set_option maxHeartbeats 2000000 in
theorem asked_any (hsort : SortSaid) (vi vc : Value) (items : List Item) (certs : List Cert) (ok : Nat → Prop) (item day : Int) (w : World) (hil : items.length ≤ 1000) (hcl : certs.length ≤ 1000) (hi : ItemsIs ok w vi items) (hc : CertsIs ok w vc certs) :
    Calls Tryz.prog 47 #[.agg #[vi, vc], I item, I day] w (AskedPost items certs item day w) := by
  have HB0 : Below w.heap.size w (w.alloc (.cells #[vi, vc] 104)) := below_alloc _ _
  have hi0 := hi.below HB0
  have hc0 := hc.below HB0
  obtain ⟨ai, ci, rfl, hci, hri⟩ := hi
  obtain ⟨ac, cc, rfl, hcc, hrc⟩ := hc
  clear hri hrc
  refine calls_of_wp_marks 5 Tryz.func47 rfl ?_
  simp only [Tryz.ntmps47, List.size_toArray, List.length_cons, List.length_nil, Nat.reduceAdd, Nat.reduceSub, Array.replicate_succ, Array.replicate_zero, List.push_toArray, List.append_toArray, List.nil_append, List.cons_append]
  go_wp2_with fail
  refine (read_any hsort _ _ items certs ok _ hil hcl hi0 hc0).mono ?_
  rintro e w1 (⟨hne, rfl, hB1⟩ | ⟨hz, bw, cm, ns0, hrl, rfl, hB1, hbw, hw1⟩)
  · have hne' : (bookErr items certs != 0) = true := by simpa using hne
    go_wp2_with fail
    exact ⟨_, results_tmp3 rfl _ _ _, AskedPost.err (k := bookErr items certs) (by unfold askedErr; rw [if_pos hne]) hne rfl (below_from HB0 hB1)⟩
  have HB1 := below_from HB0 hB1
  have hg := good_of_read hz hrl
  have Hrl := Lib.hid hrl
  have Hz := Lib.hid hz
  clear hrl hz
  generalize hns : sortI ns0 = ns at *
  have Hns := Lib.hid hns
  clear hns
  obtain ⟨vi, vc, r, vn, hwo, hit, -, hmap, -, -, -⟩ := hw1.lies
  obtain ⟨wc0, wc1, -, -, -, -⟩ := work_cells hwo
  go_wp2_with fail
  refine (bitem_any vi vc items _ item _ hil hit).mono ?_
  rintro e w2 ⟨rfl, hB2⟩
  have HB2 := below_from HB1 hB2
  cases h1 : inB item 0 (items.length - 1) with
  | false =>
    go_wp2_with fail
    exact ⟨_, results_tmp3 rfl _ _ _, AskedPost.err (k := 2) (by simp [askedErr, Hz.out, h1]) (by decide) rfl HB2⟩
  | true =>
  go_wp2_with fail
  refine (day_any _ _).mono ?_
  rintro e w3 ⟨rfl, rfl⟩
  cases h2 : inB day 0 1000 with
  | false =>
    go_wp2_with fail
    exact ⟨_, results_tmp3 rfl _ _ _, AskedPost.err (k := 2) (by simp [askedErr, Hz.out, h2]) (by decide) rfl HB2⟩
  | true =>
  go_wp2_with fail
  have hw2 := hw1.below hB2
  refine (held_any bw items certs cm ns _ hw2 hg).mono ?_
  rintro e w4 ⟨rh, rfl, hmh, hB4, hrh⟩
  have HB4 := below_from HB2 hB4
  have hw4 := hw2.below hB4
  obtain ⟨vi, vc, r, vn, hwo4, ⟨ai4, ci4, rfl, hci4, hri4⟩, -, -, -, -, -⟩ := hw4.lies
  obtain ⟨wc0, wc1, -, -, -, -⟩ := work_cells hwo4
  have hit' : 0 ≤ item ∧ item ≤ items.length - 1 := by simpa [inB] using h1
  obtain ⟨m, rfl⟩ := Int.eq_ofNat_of_zero_le hit'.1
  have hmi : m < items.length := by omega
  obtain ⟨bi, oi, rfl, -, hbi, hrowi⟩ := hri4 (by omega)
  obtain ⟨-, hstd, -⟩ := (hrowi m items[m] (List.getElem?_eq_getElem hmi)).four
  have hzb : bw < w4.heap.size := heap_at hwo4
  have hmi' : (m : Int) < (items.length : Int) := by omega
  clear hrowi
  go_wp2_with fail
  refine (of_any bw _ _ _ _).mono ?_
  rintro e wB ⟨B1, B2, B3, B4, rfl, hBB, hB1', hB2', hB3', hB4', k1, k2, k3, k4⟩
  simp only [World.size_alloc] at hB1' hB2' hB3' hB4'
  have HBA : Below w4.heap.size w4 ((w4.alloc (.cells #[.map (some rh)] 164)).alloc (.cells #[.bool items[m].standard] 4)) := below_alloc2 _ _ _
  have HBB : Below w4.heap.size w4 wB := below_from HBA hBB
  have hszB := hBB.size
  simp only [World.size_alloc] at hszB
  have hbox0 : Boxed wB (w4.heap.size + 1) 4 (.bool items[m].standard) := (hBB.block _ (by simp)).trans (heap_new _ _ (by simp))
  have hhB : wB.heap[w4.heap.size]? = some (.cells #[.map (some rh)] 164 (0, 0)) := (hBB.block _ (by simp; omega)).trans ((heap_old _ _ (by simp)).trans (heap_new _ _ rfl))
  have hmB := hmh.below HBB
  have hwB := hw4.below HBB
  have hrh4 := hmh.lt
  have hzw4 := hw4.mono (ok' := (· < w4.heap.size)) (fun _ _ h => h)
  clear hstd wc0 wc1
  go_wp2_with fail
  refine name_tmps ?_
  intro A hA
  have hz1 : B1 < wB.heap.size := World.block_lt_of_cell? _ _ k1
  have hz2 : B2 < wB.heap.size := World.block_lt_of_cell? _ _ k2
  have hz3 : B3 < wB.heap.size := World.block_lt_of_cell? _ _ k3
  have hz4 : B4 < wB.heap.size := World.block_lt_of_cell? _ _ k4
  obtain ⟨p7, hp7⟩ : ∃ p7, p7 = w4.heap.size + 1 := ⟨_, rfl⟩
  rw [← hp7] at hbox0
  have hSN : ∀ i, wB.heap.size ≤ i → (i = p7 ∨ wB.heap.size ≤ i) := fun i h => Or.inr h
  refine (wpIn_wide (n := 9)).1 ?_
  refine wpIn_rangeFunc_ownH (F := Fence.wide) (n := 9) (Kp := Kept (fun i => i = p7 ∨ wB.heap.size ≤ i)) (gf := 119) (lb := #[.pointer (some ⟨B1, 0, none⟩), .pointer (some ⟨B2, 0, none⟩), .pointer (some ⟨B3, 0, none⟩), .pointer (some ⟨B4, 0, none⟩)]) (w0 := wB) rfl (by decide) (by rw [hA]; rfl) trivial (enters_of Tryz.func119 (by kernel_rfl) rfl)
    (of_stops 8 (fun i => i = p7 ∨ wB.heap.size ≤ i) B1 B2 B3 B4 bw m day 1000 items certs cm ns (by omega) (by omega) (by omega) (by omega) wB k1 k2 k3 k4
      ((hzw4.below HBB).mono (fun i h _ => by omega)) (by have := hg.small.2; omega))
    Kept.trans (fun W l o o' hl _ _ _ => kept_putObj hSN W l o' hl) (Below.refl _ _) (fun _ => rfl)
    (fun pre W => Boxed W p7 4 (.bool (items[m].standard || pre.any fun o => ((heldFrom items cm ns ns []).lookup o.number).getD false)) ∧ Kept (fun i => i = p7 ∨ wB.heap.size ≤ i) wB W) (fun _ _ _ => False)
    (fun pre W W' row h hg' hr => ⟨boxed_grown h.1 hg' (fun k hk => (hr k hk).2), kept_grown h.2 hSN hg' (fun k hk => (hr k hk).1)⟩) (fun _ _ _ _ _ h _ _ => h) ⟨by simpa using hbox0, Kept.refl _ _⟩
    (fun x a' W => ∃ Bx, wB.heap.size ≤ Bx ∧ RowAt W Bx 0 x.cells ∧ a' = { tmps := (A.setIfInBounds 49 x.v).setIfInBounds 13 (.pointer (some ⟨Bx, 0, none⟩)), defers := [] })
    (fun x a' _ W W' row h hg' hr => by obtain ⟨Bx, h1, h2, h3⟩ := h; exact ⟨Bx, h1, rowAt_grown h2 hg' (fun k hk => (hr k hk).2), h3⟩) ?assign ?body ?done ?stop
  case assign =>
    subst hA
    intro l pre x W K hI hK
    gi_wp2
    exact hK _ _ ((KeepsOthers.alloc _ _).from _) (Kept.below (below_alloc _ _)) ⟨Boxed.alloc hI.1 _, hI.2.alloc _⟩ ⟨_, by have := hI.2.size; omega, row_new W x.cells 171 rfl, rfl⟩
  case body =>
    subst hA hp7
    rintro l pre x a' W hl - ⟨hbox, hK⟩ ⟨Bx, hBx, hrow, rfl⟩ -
    have e0 := hrow.c0
    have g0 := hbox.cell
    have gf := hbox.frozen
    have hh := cell_of_heap ((hK.block _ (show w4.heap.size < wB.heap.size by omega) (show ¬ (w4.heap.size = w4.heap.size + 1 ∨ wB.heap.size ≤ w4.heap.size) by omega)).trans hhB) 0
    have hlkb := lookup_bool (hmB.kept hK (show ¬ (rh = w4.heap.size + 1 ∨ wB.heap.size ≤ rh) by omega)) x.number W rfl
    have hpost : ∀ q, (items[m].standard || (pre ++ [x]).any fun o => ((heldFrom items cm ns ns []).lookup o.number).getD false) = q → Boxed (W.setCell ⟨w4.heap.size + 1, 0, none⟩ (.bool q)) (w4.heap.size + 1) 4 (.bool (items[m].standard || (pre ++ [x]).any fun o => ((heldFrom items cm ns ns []).lookup o.number).getD false)) := fun q h => by rw [h]; exact setCell_box hbox
    have Hpost := Lib.hid hpost
    clear hpost hbox
    cases hv : (items[m].standard || pre.any fun o => ((heldFrom items cm ns ns []).lookup o.number).getD false) with
    | true =>
      rw [hv] at g0
      have Hv := Lib.hid hv
      clear hv hlkb
      gi_wp2
      exact ⟨(KeepsOthers.setCell _ _ _).from _, Kept.setCell (S := fun i => i = w4.heap.size + 1 ∨ wB.heap.size ≤ i) (p := ⟨w4.heap.size + 1, 0, none⟩) (Kept.refl _ _) (fun _ => Or.inl rfl) _, Hpost.out true (by rw [List.any_append, ← Bool.or_assoc, Hv.out]; rfl), Kept.setCell (S := fun i => i = w4.heap.size + 1 ∨ wB.heap.size ≤ i) (p := ⟨w4.heap.size + 1, 0, none⟩) hK (fun _ => Or.inl rfl) _⟩
    | false =>
      rw [hv] at g0
      have Hv := Lib.hid hv
      clear hv
      gi_wp2
      exact ⟨(KeepsOthers.setCell _ _ _).from _, Kept.setCell (S := fun i => i = w4.heap.size + 1 ∨ wB.heap.size ≤ i) (p := ⟨w4.heap.size + 1, 0, none⟩) (Kept.refl _ _) (fun _ => Or.inl rfl) _, Hpost.out _ (by rw [List.any_append, ← Bool.or_assoc, Hv.out]; simp), Kept.setCell (S := fun i => i = w4.heap.size + 1 ∨ wB.heap.size ≤ i) (p := ⟨w4.heap.size + 1, 0, none⟩) hK (fun _ => Or.inl rfl) _⟩
  case done =>
    subst hA hp7
    rintro D xs W hDl rfl ⟨hbox, hK⟩ hDo
    have hzD := heap_at hDo
    have g0 := hbox.cell
    have hh := cell_of_heap ((hK.block _ (show w4.heap.size < wB.heap.size by omega) (show ¬ (w4.heap.size = w4.heap.size + 1 ∨ wB.heap.size ≤ w4.heap.size) by omega)).trans hhB) 0
    have HB5 : Below w.heap.size w W := (below_from HB4 HBB).trans ⟨hK.os, hK.tape, hK.output, hK.size, fun i hi => hK.block i (by have := HB4.size; omega) (by have := HB4.size; omega)⟩
    have hmk : Marks W [{ target := .collected D, args := #[] }] := ⟨D, rfl, hDo, fun _ h => (by cases h), trivial⟩
    have hDS : ∀ i, (∃ d ∈ [({ target := .collected D, args := #[] } : Deferred)], d.target = .collected i) → i = D := fun i ⟨d, hd, e⟩ => by
      rw [List.mem_singleton] at hd; subst hd; cases e; rfl
    have Hho : Hid (heldOn items cm ns m day = (items[m].standard || (ofList cm ns m day 1000).any fun o => ((heldFrom items cm ns ns []).lookup o.number).getD false)) := Lib.hid (by unfold heldOn itemOf; simp [hmi])
    have hHB6 : ∀ w', Kept (fun i => i = D) W w' → Below w.heap.size w w' := fun w' hk => HB5.trans ⟨hk.os, hk.tape, hk.output, hk.size, fun i hi => hk.block i (by have := HB5.size; omega) (by have := HB4.size; omega)⟩
    clear hbox
    cases hv : (items[m].standard || (ofList cm ns m day 1000).any fun o => ((heldFrom items cm ns ns []).lookup o.number).getD false) with
    | false =>
      rw [hv] at g0
      have Hv := Lib.hid hv
      clear hv
      go_wp2_with fail
      refine leaves_marks hmk (fun w' hk => ?_)
      exact ⟨_, results_tmp3 rfl _ _ _, AskedPost.err (k := 10) (by simp [askedErr, Hz.out, h1, h2, Hrl.out, Hns.out, Hho.out, Hv.out]) (by decide) rfl (hHB6 w' (hk.mono (fun i _ h => hDS i h)))⟩
    | true =>
      rw [hv] at g0
      have Hv := Lib.hid hv
      clear hv
      go_wp2_with fail
      go_quiet (fail)
      go_wp2_with fail
      refine leaves_marks (n := 5) (ds := [{ target := .collected D, args := #[] }]) (hmk.of_heap (fun _ _ h => h)) (fun w' hk => ?_)
      have hk' := hk.mono (S' := fun i => i = D) (fun i _ h => hDS i h)
      have hKD : Kept (fun i => i = w4.heap.size + 1 ∨ wB.heap.size ≤ i) wB w' := (hK.trans ⟨hk'.os, hk'.tape, hk'.output, hk'.size, fun i hi h => hk'.block i hi (fun e => h (by subst e; exact Or.inr hDl))⟩)
      refine ⟨_, results_tmp3 rfl _ _ _, .inr ⟨by simp [askedErr, Hz.out, h1, h2, Hrl.out, Hns.out, Hho.out, Hv.out], Hz.out, h1, bw, rh, cm, ns0, Hrl.out, rfl, hHB6 w' ⟨hk'.os, hk'.tape, hk'.output, hk'.size, hk'.block⟩, by have := HB0.size; simp at hbw; omega, by have := HB2.size; omega, ?_, ?_⟩⟩
      · rw [Hns.out]; exact ((hzw4.below HBB).kept hKD (fun i hi => by omega)).mono (fun _ _ _ => trivial)
      · rw [Hns.out]; exact hmB.kept hKD (by omega)
  case stop =>
    intro D c pre W _ _ h _
    exact h.elim
end Go.Proofs.YthcolbjbafilcaaGreat
