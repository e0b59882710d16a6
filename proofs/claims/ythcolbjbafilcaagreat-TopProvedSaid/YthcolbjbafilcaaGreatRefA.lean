/-
  The reference's and the statements' small functions on books: In, Span, Thin, word, True.
-/
import Derived.Test.YthcolbjbafilcaaGreatSpanE
import Derived.Deep.DeepCutAuto
set_option linter.unusedSimpArgs false
set_option linter.unusedVariables false
namespace Go.Proofs.YthcolbjbafilcaaGreat
open Go.RowKit Go.Shelf Go.Sort
attribute [local go_sem] Oper.semAt_some

theorem rin_any (n lo hi : Int) (w : World) : Calls Tryz.prog 23 #[I n, I lo, I hi] w fun e w' => e = .returned (.bool (inB n lo hi)) ∧ w = w' := by
  by_cases h1 : lo ≤ n
  · go_enter Tryz.func23, Tryz.ntmps23
    go_wp2
    go_ret
    exact ⟨by simp [h1, inB], rfl⟩
  · have h1' : decide (lo ≤ n) = false := by simpa using h1
    have Hd := Lib.hid h1'
    go_enter Tryz.func23, Tryz.ntmps23
    go_wp2
    go_ret
    exact ⟨by unfold inB; rw [Hd.out]; rfl, rfl⟩
theorem Rng.ok_eq (r : Rng) : r.ok = (inB r.lo (-100000) r.hi && decide (r.hi ≤ 100000)) := by
  unfold Rng.ok inB
  rw [Bool.eq_iff_iff]
  simp
  omega
theorem rspan_any (r : Rng) (w : World) : Calls Tryz.prog 24 #[r.v] w fun e w' => e = .returned (.bool r.ok) ∧ Below w.heap.size w w' := by
  obtain ⟨lo, hi⟩ := r
  have Hq := Lib.hid (Rng.ok_eq ⟨lo, hi⟩)
  go_enter Tryz.func24, Tryz.ntmps24
  go_wp2_with fail
  refine (rin_any _ _ _ _).mono ?_
  rintro e w' ⟨rfl, rfl⟩
  cases h1 : inB lo (-100000) hi with
  | false =>
    go_wp2_with fail
    go_ret
    exact ⟨ret_bool (by rw [Hq.out, h1]; rfl), below_alloc _ _⟩
  | true =>
    go_wp2_with fail
    go_ret
    exact ⟨ret_bool (by rw [Hq.out, h1]; rfl), below_alloc _ _⟩
def thinB (items : List Item) (certs : List Cert) : Bool := decide (items.length ≤ 10) && decide (certs.length ≤ 28)
theorem thin_any (ok : Nat → Prop) (vi vc : Value) (items : List Item) (certs : List Cert) (w : World) (hi : ItemsIs ok w vi items) (hc : CertsIs ok w vc certs) :
    Calls Tryz.prog 5 #[.agg #[vi, vc]] w fun e w' => e = .returned (.bool (thinB items certs)) ∧ Below w.heap.size w w' := by
  obtain ⟨ai, ci, rfl, hci, -⟩ := hi
  obtain ⟨ac, cc, rfl, hcc, -⟩ := hc
  by_cases h1 : items.length ≤ 10
  · have h1' : (items.length : Int) ≤ 10 := by omega
    go_enter Tryz.func5, Tryz.ntmps5
    go_wp2
    go_ret
    refine ⟨ret_bool ?_, below_alloc _ _⟩
    rw [Bool.eq_iff_iff]; simp [thinB, h1]; omega
  · have h1' : decide ((items.length : Int) ≤ 10) = false := by simp; omega
    go_enter Tryz.func5, Tryz.ntmps5
    go_wp2
    go_ret
    refine ⟨ret_bool ?_, below_alloc _ _⟩
    rw [Bool.eq_iff_iff]; simp [thinB, h1]
abbrev WordsIs (ok : Nat → Prop) (w : World) (v : Value) (l : List Int) : Prop := SliceIs (fun x => [Value.int .u16 x]) 1 ok w v l
def U16 (l : List Int) : Prop := ∀ x ∈ l, 0 ≤ x ∧ x ≤ 65535
def wordOf (l : List Int) (k : Nat) : Int := if l = [] then 0 else l.getD (k % l.length) 0
theorem wordOf_bd {l : List Int} (h : U16 l) (k : Nat) : 0 ≤ wordOf l k ∧ wordOf l k ≤ 65535 := by
  unfold wordOf
  split
  · omega
  · rename_i hl
    have hlt : k % l.length < l.length := Nat.mod_lt _ (List.length_pos_iff.2 hl)
    rw [List.getD_eq_getElem?_getD, List.getElem?_eq_getElem hlt]
    exact h _ (List.getElem_mem hlt)
set_option maxHeartbeats 400000 in
theorem word_any (ok : Nat → Prop) (v : Value) (l : List Int) (k : Nat) (w : World) (hk : k ≤ 100000) (hu : U16 l) (hv : WordsIs ok w v l) (hl : l.length ≤ 9223372036854775807) :
    Calls Tryz.prog 27 #[v, I k] w fun e w' => e = .returned (I (wordOf l k)) ∧ w = w' := by
  obtain ⟨a, c, rfl, hc, hr⟩ := hv
  by_cases h0 : l = []
  · subst h0
    simp only [List.length_nil]
    go_enter Tryz.func27, Tryz.ntmps27
    go_wp2
    go_ret
    exact ⟨rfl, rfl⟩
  · have hpos : 0 < l.length := List.length_pos_iff.2 h0
    obtain ⟨b, o, rfl, hok, hb, hrows⟩ := hr hpos
    have hlt : k % l.length < l.length := Nat.mod_lt _ hpos
    have e0 := (hrows (k % l.length) l[k % l.length] (List.getElem?_eq_getElem hlt)).c0
    rw [Nat.mul_one] at e0
    have hx := hu l[k % l.length] (List.getElem_mem hlt)
    have hne : ((l.length : Int) == 0) = false := by simp; exact h0
    have hne2 : ((l.length : Int) != 0) = true := by simp; exact h0
    have Hw : Hid (wordOf l k = l[k % l.length]) := Lib.hid (by unfold wordOf; rw [if_neg h0, List.getD_eq_getElem?_getD, List.getElem?_eq_getElem hlt]; rfl)
    have hp : (0 : Int) < (l.length : Int) := by omega
    have hm : (k : Int) % (l.length : Int) = ((k % l.length : Nat) : Int) := by simp
    have hm2 : Int.tmod (k : Int) (l.length : Int) = ((k % l.length : Nat) : Int) := by rw [Int.tmod_eq_emod_of_nonneg (by omega)]; simp
    have hm3 : ((k % l.length : Nat) : Int) < (l.length : Int) := by omega
    have hm4 : (0 : Int) ≤ ((k % l.length : Nat) : Int) := by omega
    have hw1 : IntKind.i64.wrap l[k % l.length] = l[k % l.length] := IntWalk.i64_in _ (by omega)
    clear hr hrows
    generalize l[k % l.length] = x at *
    generalize k % l.length = q at *
    go_enter Tryz.func27, Tryz.ntmps27
    go_wp2
    go_ret
    exact ⟨ret_int Hw.out.symm, rfl⟩
theorem wrapT {d a v : Int} (hd : 0 ≤ d ∧ d ≤ 100) (ha : -200 ≤ a ∧ a ≤ 200) (hv : 0 ≤ v ∧ v ≤ 899) : wrap64 (v + wrap64 (d * a)) = v + d * a := by
  have h1 : d * a ≤ 100 * 200 := by
    by_cases h : 0 ≤ a
    · exact Int.mul_le_mul hd.2 ha.2 h (by omega)
    · have := Int.mul_nonneg hd.1 (show 0 ≤ -a by omega)
      rw [Int.mul_neg] at this; omega
  have h2 : -(100 * 200) ≤ d * a := by
    by_cases h : 0 ≤ a
    · have := Int.mul_nonneg hd.1 h; omega
    · have := Int.mul_le_mul hd.2 (show -a ≤ 200 by omega) (show 0 ≤ -a by omega) (by omega)
      rw [Int.mul_neg] at this; omega
  generalize d * a = z at *
  rw [show wrap64 z = z from by unfold wrap64; omega]
  unfold wrap64; omega
def trueAt (x : Item) (w day : Int) : Int :=
  if (day + w % 7) % (2 * (1 + w % 60)) > 1 + w % 60 then 2 * (1 + w % 60) - (day + w % 7) % (2 * (1 + w % 60)) else (day + w % 7) % (2 * (1 + w % 60))
def trueOf (x : Item) (w day : Int) : Int :=
  if x.standard then x.value.lo + w % (x.value.hi - x.value.lo + 1)
  else w % 900 + x.drift * (if w % 2 = 0 then -(trueAt x w day) else trueAt x w day)
set_option maxRecDepth 100000 in
set_option maxHeartbeats 1000000 in
theorem true_any (ok : Nat → Prop) (vi vc vw : Value) (items : List Item) (words : List Int) (m : Nat) (day : Int) (w : World) (hm : m < items.length) (hl : items.length ≤ 1000) (hd : 0 ≤ day ∧ day ≤ 1000) (hok : items[m].ok = true)
    (hu : U16 words) (hwl : words.length ≤ 9223372036854775807) (hi : ItemsIs ok w vi items) (hw : WordsIs ok w vw words) :
    Calls Tryz.prog 26 #[.agg #[vi, vc], I m, I day, vw] w fun e w' => e = .returned (I (trueOf items[m] (wordOf words m) day)) ∧ Below w.heap.size w w' := by
  obtain ⟨ai, ci, rfl, hci, hri⟩ := hi
  obtain ⟨b, o, rfl, -, hb, hrows⟩ := hri (by omega)
  have hrow := hrows m items[m] (List.getElem?_eq_getElem hm)
  have hbd := wordOf_bd hu m
  have hx : 0 ≤ items[m].drift ∧ items[m].drift ≤ 100 ∧ -100000 ≤ items[m].value.lo ∧ items[m].value.lo ≤ 100000 ∧ -100000 ≤ items[m].value.hi ∧ items[m].value.hi ≤ 100000 ∧ items[m].value.lo ≤ items[m].value.hi := by
    simp only [Item.ok, inB, Rng.ok, Bool.and_eq_true, decide_eq_true_eq] at hok; omega
  have Hword : Hid (∀ W, WordsIs ok W vw words → Calls Tryz.prog 27 #[vw, I m] W fun e w' => e = .returned (I (wordOf words m)) ∧ W = w') := Lib.hid (fun W h => word_any ok vw words m W (by omega) hu h hwl)
  have hm' : (m : Int) < (items.length : Int) := by omega
  generalize items[m] = x at *
  generalize wordOf words m = u at *
  clear hrows hri hok
  go_enter Tryz.func26, Tryz.ntmps26
  go_upto_region 9 with fail
  refine name_world ?_
  intro W0 hW0
  have hB0 : Below w.heap.size w W0 := by rw [hW0]; exact below_alloc _ _
  have c0 : W0.cell? ⟨w.heap.size, 0, none⟩ = some (.slice (some ⟨b, o, none⟩) items.length ci) := by rw [hW0]; simp [go_sem]
  have hz0 : w.heap.size < W0.heap.size := World.block_lt_of_cell? _ _ c0
  clear hW0
  have HW0 := Lib.hid (hw.below hB0)
  obtain ⟨r0, r1, r2, r3⟩ := (hrow.below hB0 hb).four
  have hzb : b < W0.heap.size := by have := hB0.size; omega
  have HS : Hid (∀ W' : World, Below W0.heap.size W0 W' → (W'.cell? ⟨w.heap.size, 0, none⟩ = some (.slice (some ⟨b, o, none⟩) items.length ci) ∧ W'.cell? ⟨b, o + m * 4, none⟩ = some (I x.drift) ∧ W'.cell? ⟨b, o + m * 4 + 1, none⟩ = some (.bool x.standard) ∧ W'.cell? ⟨b, o + m * 4 + 2, none⟩ = some (I x.value.lo) ∧ W'.cell? ⟨b, o + m * 4 + 3, none⟩ = some (I x.value.hi) ∧ Below W0.heap.size W0 W')) := Lib.hid (fun W' hB =>
    ⟨(hB.cell (p := ⟨w.heap.size, 0, none⟩) hz0).trans c0, (hB.cell (p := ⟨b, o + m * 4, none⟩) hzb).trans r0, (hB.cell (p := ⟨b, o + m * 4 + 1, none⟩) hzb).trans r1, (hB.cell (p := ⟨b, o + m * 4 + 2, none⟩) hzb).trans r2, (hB.cell (p := ⟨b, o + m * 4 + 3, none⟩) hzb).trans r3, hB⟩)
  go_cut [9, 10] (fun s9 s10 wc => ∃ p9, s9 = .pointer (some ⟨p9, 0, none⟩) ∧ s10 = I u ∧ RowAt wc p9 0 x.cells ∧ Below W0.heap.size W0 wc)
  case first =>
    clear c0 r0 r1 r2 r3
    go_region_held3 (fun W' => W'.cell? ⟨w.heap.size, 0, none⟩ = some (.slice (some ⟨b, o, none⟩) items.length ci) ∧ W'.cell? ⟨b, o + m * 4, none⟩ = some (I x.drift) ∧ W'.cell? ⟨b, o + m * 4 + 1, none⟩ = some (.bool x.standard) ∧ W'.cell? ⟨b, o + m * 4 + 2, none⟩ = some (I x.value.lo) ∧ W'.cell? ⟨b, o + m * 4 + 3, none⟩ = some (I x.value.hi) ∧ Below W0.heap.size W0 W')
      (first
        | with_reducible exact HS.out _ (Below.refl _ _).drew
        | with_reducible exact HS.out _ (below_alloc _ _).drew
        | with_reducible exact HS.out _ (below_alloc _ _)
        | (go_split_ands; (refine HS.out _ ?_); assumption))
      ((go_at_call 27; refine (Hword.out _ (HW0.out.below (by repeat (first | with_reducible assumption | with_reducible exact Below.refl _ _ | with_reducible refine Below.drew ?_ | with_reducible refine below_al ?_ _)))).mono ?_; rintro e w' ⟨rfl, rfl⟩))
    all_goals
      go_wp2_with fail
      go_meet
      exact ⟨_, rfl, rfl, (row_new W0 x.cells 91 rfl).of_block rfl, (below_alloc _ _).drew⟩
  case rest =>
    obtain ⟨wA, rfl⟩ : ∃ y : World, y = wc := ⟨_, rfl⟩
    obtain ⟨p9, rfl, rfl, hr9, hBA⟩ := hcut
    have HB := below_from hB0 hBA
    obtain ⟨q0, q1, q2, q3⟩ := hr9.four
    simp only [Nat.zero_add] at q1 q2 q3
    clear c0 r0 r1 r2 r3
    obtain ⟨d0, d1, v0, v1, v2, v3, v4⟩ := hx
    cases hs : x.standard with
    | true =>
      have Ht : Hid (trueOf x u day = x.value.lo + u % (x.value.hi - x.value.lo + 1)) := Lib.hid (by unfold trueOf; rw [if_pos hs])
      rw [hs] at q1
      have Hs := Lib.hid hs
      clear hs
      have z1 : x.value.hi - x.value.lo + 1 ≠ 0 := by omega
      have z2 : 0 < x.value.hi - x.value.lo + 1 := by omega
      have z3 := Int.emod_nonneg u z1
      have z4 := Int.emod_lt_of_pos u z2
      have e1 : IntKind.i64.wrap (x.value.hi - x.value.lo) = x.value.hi - x.value.lo := IntWalk.i64_in _ (by omega)
      have e2 : IntKind.i64.wrap (x.value.hi - x.value.lo + 1) = x.value.hi - x.value.lo + 1 := IntWalk.i64_in _ (by omega)
      have e3 : Int.tmod u (x.value.hi - x.value.lo + 1) = u % (x.value.hi - x.value.lo + 1) := Int.tmod_eq_emod_of_nonneg (by omega)
      have e4 : IntKind.i64.wrap (x.value.lo + u % (x.value.hi - x.value.lo + 1)) = x.value.lo + u % (x.value.hi - x.value.lo + 1) := IntWalk.i64_in _ (by omega)
      go_wp2_with fail
      go_quiet (fail)
      go_wp2_with fail
      go_ret
      exact ⟨ret_int Ht.out.symm, HB.drewN _⟩
    | false =>
      have Ht : Hid (trueOf x u day = u % 900 + x.drift * (if u % 2 = 0 then -(trueAt x u day) else trueAt x u day)) := Lib.hid (by unfold trueOf; rw [if_neg (by simp [hs])])
      rw [hs] at q1
      have Hs := Lib.hid hs
      clear hs
      have y7 : 0 ≤ u % 7 ∧ u % 7 ≤ 6 := by omega
      have y60 : 0 ≤ u % 60 ∧ u % 60 ≤ 59 := by omega
      have y2 : 0 ≤ u % 2 ∧ u % 2 ≤ 1 := by omega
      have y900 : 0 ≤ u % 900 ∧ u % 900 ≤ 899 := by omega
      go_wp2_with fail
      all_goals
        go_ret
        refine ⟨ret_int ?_, HB⟩
        have A0 := Int.emod_nonneg (day + u % 7) (show 2 * (1 + u % 60) ≠ 0 by omega)
        have A1 := Int.emod_lt_of_pos (day + u % 7) (show 0 < 2 * (1 + u % 60) by omega)
        have k1 : wrap64 (2 * (1 + u % 60) - (day + u % 7) % (2 * (1 + u % 60))) = 2 * (1 + u % 60) - (day + u % 7) % (2 * (1 + u % 60)) := by unfold wrap64; omega
        have k2 : wrap64 (-(2 * (1 + u % 60) - (day + u % 7) % (2 * (1 + u % 60)))) = -(2 * (1 + u % 60) - (day + u % 7) % (2 * (1 + u % 60))) := by unfold wrap64; omega
        have k3 : wrap64 (-((day + u % 7) % (2 * (1 + u % 60)))) = -((day + u % 7) % (2 * (1 + u % 60))) := by unfold wrap64; omega
        rw [Ht.out]
        try simp only [k1, k2, k3]
        rw [wrapT ⟨d0, d1⟩ (by omega) y900]
        unfold trueAt
        clear k1 k2 k3
        (repeat' split)
        all_goals first | rfl | omega | (simp_all; done) | (simp_all; omega)
end Go.Proofs.YthcolbjbafilcaaGreat
