/-
  The statement TopProved is proved: for every input the law returns true, and each argument reads behind the call as it read before.
  It has no condition.
-/
import Derived.Test.YthcolbjbafilcaaGreatRows
import Derived.Test.YthcolbjbafilcaaGreatLawTopD
import Derived.WalkKit
import Derived.ProofKit
import Derived.OpenShut
import Derived.ChangeOld
import Derived.Below
import Derived.Deep.Slices
import Derived.Deep.Fields
import Derived.ChangeSame
import Derived.Lib.SmallJoins
set_option linter.unusedSimpArgs false
set_option linter.unusedVariables false
namespace Go.Proofs.YthcolbjbafilcaaGreat
open Go.ChangeShapes Go.WideShapes Go.ChangeAt Go.RowKit Go.Deep
set_option linter.unusedVariables false

theorem top_own : ownKnob Tryz.prog.godebug = none := by kernel_rfl
theorem top_laidOut : laidOutB Tryz.prog = true := by kernel_rfl
theorem spot_none {w : World} {a : Addr} {v : Value} (h : w.cell? a = some v) : a.spot = none := by
  unfold World.cell? at h
  split at h
  · split at h
    · cases h
    · rename_i hs; simpa using hs
  · cases h
theorem add_none {a : Addr} (h : a.spot = none) (n : Nat) : a.add n = ⟨a.block, a.off + n, none⟩ := by
  obtain ⟨b, o, s⟩ := a
  simp only at h
  subst h
  unfold Addr.add
  split
  · rename_i h0; subst h0; rfl
  · rfl
section
variable {H : Type} {enc : TypeId × Value → H} {P : Program} {w : World} {base : Nat} {spare : Nat → Bool} {held : Bool}
/-- A slice of flat elements that came in. -/
theorem slice_is {α : Type} [Inhabited α] (en : α → List Value) (sz : Nat) {t e : TypeId} {fuel : Nat} {cs : List Value} {x : DataW H × List MemPlace} (ht : P.underlying t = some (.slice e)) (hC : P.cellsOf e = sz) (hsz : 0 < sz)
    (hlen : ∀ a : α, (en a).length = sz) {Q : α → Prop} (dec : ∀ (n : Nat) (cs : List Value) (y : DataW H × List MemPlace), DataW.trod enc P w base spare held n e cs = some y → ∃ a, cs = en a ∧ Q a)
    (h : DataW.trod enc P w base spare held fuel t cs = some x) : ∃ a c l, cs = [.slice a (List.length l) c] ∧ SliceIs en sz (fun _ => True) w (.slice a (List.length l) c) l ∧ (∀ y ∈ l, Q y) ∧ l.length ≤ 9223372036854775807 := by
  rcases open_slice ht h with ⟨rfl, -⟩ | ⟨a, len, cap, m, n, D, Pl, rfl, hb, hl, hm, hmm, hx, hi⟩
  · exact ⟨none, 0, [], rfl, SliceIs.nil _ _, by simp, by simp⟩
  · have hlm : len ≤ m := by rw [hmm]; split <;> omega
    have H : ∀ i, ∃ y : α, i < len → (∀ k u, (en y)[k]? = some u → w.cell? ((a.add (i * sz)).add k) = some u) ∧ Q y := fun i => by
      by_cases hil : i < len
      · obtain ⟨cs', hc, ht'⟩ := hi i (by omega)
        rw [hC] at hc
        obtain ⟨-, hcl, hat⟩ := World.cells?_some hc
        obtain ⟨y, rfl, hq⟩ := dec _ _ _ ht'
        refine ⟨y, fun _ => ⟨fun k u hu => ?_, hq⟩⟩
        have hk : k < sz := by rw [← hcl]; exact (List.getElem?_eq_some_iff.1 hu).1
        rw [hat k hk]; exact hu
      · exact ⟨default, fun hc => absurd hc hil⟩
    have hm' : maxLen ≤ 9223372036854775807 := by unfold maxLen; omega
    refine ⟨some a, cap, (List.range len).map (fun i => Classical.choose (H i)), by simp, ⟨some a, cap, by simp, by simpa using hl, fun h0 => ?_⟩, fun y hy => ?_, by simp; omega⟩
    · have h0' : 0 < len := by simpa using h0
      have hf := (Classical.choose_spec (H 0) h0').1
      obtain ⟨u, hu⟩ : ∃ u, (en (Classical.choose (H 0)))[0]? = some u := ⟨_, List.getElem?_eq_getElem (by rw [hlen]; exact hsz)⟩
      have hcell := hf 0 u hu
      have hs : a.spot = none := by
        have h1 := spot_none (w := w) (a := a) (v := u) (by simpa [Addr.add] using hcell)
        exact h1
      have hblk : a.block < w.heap.size := World.block_lt_of_cell? _ _ (by simpa [Addr.add] using hcell : w.cell? a = some u)
      refine ⟨a.block, a.off, by obtain ⟨b, o, s⟩ := a; simp only at hs; subst hs; rfl, trivial, hblk, fun i y hy => ?_⟩
      have hil : i < len := by simpa using (List.getElem?_eq_some_iff.1 hy).1
      rw [List.getElem?_map, List.getElem?_range hil] at hy
      simp only [Option.map_some, Option.some.injEq] at hy
      subst hy
      intro k u hu
      have h2 := (Classical.choose_spec (H i) hil).1 k u hu
      rw [add_none hs, add_none rfl] at h2
      exact h2
    · obtain ⟨i, hi', rfl⟩ := List.mem_map.1 hy
      exact (Classical.choose_spec (H i) (by simpa using hi')).2
end
set_option maxRecDepth 100000
section
variable {H : Type} {enc : TypeId × Value → H} {w : World} {base : Nat} {spare : Nat → Bool} {held : Bool}
theorem cells3 : Tryz.prog.cellsOf 3 = 1 := by kernel_rfl
theorem cells4 : Tryz.prog.cellsOf 4 = 1 := by kernel_rfl
theorem cells_rrange : Tryz.prog.cellsOf 89 = 2 := by kernel_rfl
theorem cells_ritem : Tryz.prog.cellsOf 91 = 4 := by kernel_rfl
theorem cells_rcert : Tryz.prog.cellsOf 95 = 7 := by kernel_rfl
theorem list_two {l : List Value} (h : l.length = 2) : ∃ a b, l = [a, b] := by
  match l, h with
  | [a, b], _ => exact ⟨a, b, rfl⟩
theorem list_four {l : List Value} (h : l.length = 4) : ∃ a b c d, l = [a, b, c, d] := by
  match l, h with
  | [a, b, c, d], _ => exact ⟨a, b, c, d, rfl⟩
theorem list_seven {l : List Value} (h : l.length = 7) : ∃ a b c d e f g, l = [a, b, c, d, e, f, g] := by
  match l, h with
  | [a, b, c, d, e, f, g], _ => exact ⟨a, b, c, d, e, f, g, rfl⟩
theorem int_dec {n : Nat} {c : Value} {y : DataW H × List MemPlace} (h : DataW.trod enc Tryz.prog w base spare held n 3 [c] = some y) : ∃ a, c = I a := by
  obtain ⟨a, ha, -⟩ := DataW.trod_int Tryz.underlying3 h
  exact ⟨a, by simpa using ha⟩
theorem bool_dec {n : Nat} {c : Value} {y : DataW H × List MemPlace} (h : DataW.trod enc Tryz.prog w base spare held n 4 [c] = some y) : ∃ a, c = .bool a := by
  obtain ⟨a, ha, -⟩ := DataW.trod_bool Tryz.underlying4 h
  exact ⟨a, by simpa using ha⟩
theorem some_at {α : Type} {xs : List α} {k j : Nat} (h : xs.length = k) (hj : j < k) {o : Option α} (e : o = xs[j]?) : ∃ y, o = some y := ⟨xs[j], by rw [e]; exact List.getElem?_eq_getElem (by omega)⟩
theorem fld {fs : Array Field} {m : Nat} {cs : List Value} {xs : List (DataW H × List MemPlace)} (hf : ∀ (i : Nat) (f : Field), fs[i]? = some f → DataW.trod enc Tryz.prog w base spare held m f.type ((cs.drop f.offset).take (Tryz.prog.cellsOf f.type)) = xs[i]?)
    (i : Nat) {f : Field} (hi : fs[i]? = some f) (t : TypeId) (o k : Nat) (ht : f.type = t) (ho : f.offset = o) (hk : Tryz.prog.cellsOf t = k) : DataW.trod enc Tryz.prog w base spare held m t ((cs.drop o).take k) = xs[i]? := by
  subst ht ho hk
  exact hf i f hi
theorem span_dec {n : Nat} {cs : List Value} {y : DataW H × List MemPlace} (h : DataW.trod enc Tryz.prog w base spare held n 89 cs = some y) : ∃ r : Rng, cs = [I r.lo, I r.hi] := by
  obtain ⟨xs, m, -, -, hl, hxl, hf⟩ := DataW.trod_struct Tryz.underlying89 h
  rw [cells_rrange] at hl
  obtain ⟨c0, c1, rfl⟩ := list_two hl
  have g0 := fld hf 0 rfl 3 0 1 rfl rfl cells3
  have g1 := fld hf 1 rfl 3 1 1 rfl rfl cells3
  obtain ⟨y0, h0⟩ := some_at hxl (by decide) g0
  obtain ⟨y1, h1⟩ := some_at hxl (by decide) g1
  obtain ⟨a, rfl⟩ := int_dec h0
  obtain ⟨b, rfl⟩ := int_dec h1
  exact ⟨⟨a, b⟩, rfl⟩
theorem item_dec (n : Nat) (cs : List Value) (y : DataW H × List MemPlace) (h : DataW.trod enc Tryz.prog w base spare held n 91 cs = some y) : ∃ x : Item, cs = x.cells ∧ True := by
  obtain ⟨xs, m, -, -, hl, hxl, hf⟩ := DataW.trod_struct Tryz.underlying91 h
  rw [cells_ritem] at hl
  obtain ⟨c0, c1, c2, c3, rfl⟩ := list_four hl
  have g0 := fld hf 0 rfl 3 0 1 rfl rfl cells3
  have g1 := fld hf 1 rfl 4 1 1 rfl rfl cells4
  have g2 := fld hf 2 rfl 89 2 2 rfl rfl cells_rrange
  obtain ⟨y0, h0⟩ := some_at hxl (by decide) g0
  obtain ⟨y1, h1⟩ := some_at hxl (by decide) g1
  obtain ⟨y2, h2⟩ := some_at hxl (by decide) g2
  obtain ⟨a, rfl⟩ := int_dec h0
  obtain ⟨b, rfl⟩ := bool_dec h1
  obtain ⟨r, hr⟩ := span_dec h2
  have hr' : [c2, c3] = [I r.lo, I r.hi] := hr
  simp only [List.cons.injEq, and_true] at hr'
  obtain ⟨rfl, rfl⟩ := hr'
  exact ⟨⟨a, b, r⟩, rfl, trivial⟩
theorem cert_dec (n : Nat) (cs : List Value) (y : DataW H × List MemPlace) (h : DataW.trod enc Tryz.prog w base spare held n 95 cs = some y) : ∃ x : Cert, cs = x.cells ∧ True := by
  obtain ⟨xs, m, -, -, hl, hxl, hf⟩ := DataW.trod_struct Tryz.underlying95 h
  rw [cells_rcert] at hl
  obtain ⟨c0, c1, c2, c3, c4, c5, c6, rfl⟩ := list_seven hl
  have g0 := fld hf 0 rfl 3 0 1 rfl rfl cells3
  have g1 := fld hf 1 rfl 3 1 1 rfl rfl cells3
  have g2 := fld hf 2 rfl 3 2 1 rfl rfl cells3
  have g3 := fld hf 3 rfl 3 3 1 rfl rfl cells3
  have g4 := fld hf 4 rfl 3 4 1 rfl rfl cells3
  have g5 := fld hf 5 rfl 89 5 2 rfl rfl cells_rrange
  obtain ⟨y0, h0⟩ := some_at hxl (by decide) g0
  obtain ⟨y1, h1⟩ := some_at hxl (by decide) g1
  obtain ⟨y2, h2⟩ := some_at hxl (by decide) g2
  obtain ⟨y3, h3⟩ := some_at hxl (by decide) g3
  obtain ⟨y4, h4⟩ := some_at hxl (by decide) g4
  obtain ⟨y5, h5⟩ := some_at hxl (by decide) g5
  obtain ⟨a0, rfl⟩ := int_dec h0
  obtain ⟨a1, rfl⟩ := int_dec h1
  obtain ⟨a2, rfl⟩ := int_dec h2
  obtain ⟨a3, rfl⟩ := int_dec h3
  obtain ⟨a4, rfl⟩ := int_dec h4
  obtain ⟨r, hr⟩ := span_dec h5
  have hr' : [c5, c6] = [I r.lo, I r.hi] := hr
  simp only [List.cons.injEq, and_true] at hr'
  obtain ⟨rfl, rfl⟩ := hr'
  exact ⟨⟨a0, a1, a2, a3, a4, r⟩, rfl, trivial⟩
theorem word_dec (n : Nat) (cs : List Value) (y : DataW H × List MemPlace) (h : DataW.trod enc Tryz.prog w base spare held n 27 cs = some y) : ∃ x : Int, cs = [.int .u16 x] ∧ (0 ≤ x ∧ x ≤ 65535) := by
  obtain ⟨a, rfl, -, hw⟩ := DataW.trod_int Tryz.underlying27 h
  refine ⟨a, rfl, ?_⟩
  simp [Lit.wf, IntKind.min, IntKind.max, IntKind.signed, IntKind.bits] at hw
  omega
end
theorem top_walk (ok : Nat → Prop) (vi vc vw : Value) (items : List Item) (certs : List Cert) (words : List Int) (day bits n x : Int) (w : World) (hi : ItemsIs ok w vi items) (hc : CertsIs ok w vc certs) (hw : WordsIs ok w vw words) (hu : U16 words)
    (hwl : words.length ≤ 9223372036854775807) (hday : 0 ≤ day ∧ day ≤ 65535) (hn : -128 ≤ n ∧ n ≤ 127) (hx : 0 ≤ x ∧ x ≤ 65535) :
    Calls Tryz.prog 3 #[.agg #[vi, vc], vw, .int .u16 day, .int .u32 bits, .int .i8 n, .int .u16 x] w fun e w' => e = .returned (.bool true) ∧ Below w.heap.size w w' :=
  top_any lib_said ok vi vc vw items certs words day bits n x w hi hc hw hu hwl hday hn hx (fun _ hf _ hfm => top_law (fault_zero hf).1 hu hfm (by omega) hn (by omega))
theorem top_lifted (os : Os) (started : os.Started) (H : Type) (enc : TypeId × Value → H) :
    ReturnsInHanded {} Tryz.checked os 3 .any (Rows.topProvedSpec.pre6 enc Tryz.prog Tryz.f3 Rows.topProvedRow.domain false) (Rows.topProvedSpec.post enc Tryz.prog Tryz.f3 false true false false) := by
  refine returnsInHanded_of_change (C := Tryz.checked) top_own started (by kernel_rfl) Tryz.func3
    (ChangeSpec.witness6 (enc := enc) (C := Tryz.checked) false ⟨#[], #[.agg #[.slice none 0 0, .slice none 0 0], .slice none 0 0, .int .u16 0, .int .u32 0, .int .i8 0, .int .u16 0], []⟩ 8 (by kernel_rfl) (by kernel_rfl) (by kernel_rfl) (by kernel_rfl)) ?_
  intro W base args ds gs before hval0 hW hcnd _
  have hval : ∀ (j : Nat) t v, Tryz.f3.params[j]? = some t → args[j]? = some v → Value.okWide Tryz.prog W .any base t v := hval0
  have hW' := hW
  obtain ⟨p, q, hA0, hV, rfl, hfz, hnd⟩ := hW
  have hA : DataW.TrodAll enc Tryz.prog W 0 (fun _ => true) true Tryz.f3.params.toList args.toList ds p := hA0
  rw [Tryz.params3] at hA hval
  obtain ⟨v0, vs0, d0, ds0, p0, q0, hargs, rfl, rfl, h0, r0⟩ := trodAll_cons hA
  obtain ⟨v1, vs1, d1, ds1, p1, q1, rfl, rfl, rfl, h1, r1⟩ := trodAll_cons r0
  obtain ⟨v2, vs2, d2, ds2, p2, q2, rfl, rfl, rfl, h2, r2⟩ := trodAll_cons r1
  obtain ⟨v3, vs3, d3, ds3, p3, q3, rfl, rfl, rfl, h3, r3⟩ := trodAll_cons r2
  obtain ⟨v4, vs4, d4, ds4, p4, q4, rfl, rfl, rfl, h4, r4⟩ := trodAll_cons r3
  obtain ⟨v5, vs5, d5, ds5, p5, q5, rfl, rfl, rfl, h5, r5⟩ := trodAll_cons r4
  obtain ⟨rfl, rfl, rfl⟩ := trodAll_nil r5
  obtain rfl : args = #[v0, v1, v2, v3, v4, v5] := by cases args; simp_all
  obtain ⟨rfl, rfl⟩ := trodVars_none hV
  have k0 := h0
  have lt0 : ∀ x ∈ p0, x.block < W.heap.size := by obtain ⟨m, hm⟩ := k0; exact DataW.trod_lt m _ _ _ hm
  have k1 := h1
  have lt1 : ∀ x ∈ p1, x.block < W.heap.size := by obtain ⟨m, hm⟩ := k1; exact DataW.trod_lt m _ _ _ hm
  obtain ⟨x0, x1, y0, y1, nf, rfl, hd0, hp0, t0, t1⟩ := Go.Joins.open_agg2 Tryz.underlying25 (by kernel_rfl) (by kernel_rfl) (hval 0 25 v0 rfl rfl) h0
  obtain ⟨ai, ci, items, hi0, hI, -, -⟩ := slice_is Item.cells 4 Tryz.underlying22 cells_ritem (by decide) (fun _ => rfl) item_dec t0
  obtain ⟨ac, cc, certs, hc0, hC, -, -⟩ := slice_is Cert.cells 7 Tryz.underlying23 cells_rcert (by decide) (fun _ => rfl) cert_dec t1
  obtain ⟨a1, len1, cap1, rfl⟩ := okWide_slice Tryz.underlying26 (hval 1 26 v1 rfl rfl)
  obtain ⟨fu, hf1⟩ := h1
  obtain ⟨aw, cw, words, hw0, hWd, hU, hwl⟩ := slice_is (fun x : Int => [Value.int .u16 x]) 1 Tryz.underlying26 (by kernel_rfl) (by decide) (fun _ => rfl) word_dec hf1
  simp only [List.cons.injEq, and_true] at hi0 hc0
  subst hi0 hc0
  have hw1 : Value.slice a1 len1 cap1 = .slice aw words.length cw := by simpa [Value.cells] using hw0
  rw [← hw1] at hWd
  obtain ⟨a2, rfl, rfl, rfl, w2⟩ := open_int Tryz.underlying27 (hval 2 27 v2 rfl rfl) h2
  obtain ⟨a3, rfl, rfl, rfl, w3⟩ := open_int Tryz.underlying28 (hval 3 28 v3 rfl rfl) h3
  obtain ⟨a4, rfl, rfl, rfl, w4⟩ := open_int Tryz.underlying29 (hval 4 29 v4 rfl rfl) h4
  obtain ⟨a5, rfl, rfl, rfl, w5⟩ := open_int Tryz.underlying27 (hval 5 27 v5 rfl rfl) h5
  clear hA0 hval0
  have e2 : 0 ≤ a2 ∧ a2 ≤ 65535 := by have h := w2; simp [Lit.wf, IntKind.min, IntKind.max, IntKind.signed, IntKind.bits] at h; omega
  have e4 : -128 ≤ a4 ∧ a4 ≤ 127 := by have h := w4; simp [Lit.wf, IntKind.min, IntKind.max, IntKind.signed, IntKind.bits] at h; omega
  have e5 : 0 ≤ a5 ∧ a5 ≤ 65535 := by have h := w5; simp [Lit.wf, IntKind.min, IntKind.max, IntKind.signed, IntKind.bits] at h; omega
  refine (top_walk (fun _ => True) _ _ _ items certs words a2 a3 a4 a5 W hI hC hWd hU hwl e2 e4 e5).mono fun e W' ⟨he, bel⟩ => ?_
  subst he
  exact ⟨_, rfl, _, _, _, [], _, [], hW', trodAll_mk1 (shut_bool Tryz.underlying4 _), (trodAll_cons_mk (Below.trod top_laidOut (by kernel_rfl) (of_decide_eq_true (by kernel_rfl)) k0 bel lt0) (trodAll_cons_mk (Below.trod top_laidOut (by kernel_rfl) (of_decide_eq_true (by kernel_rfl)) k1 bel lt1) (trodAll_cons_mk (shut_int Tryz.underlying27 w2) (trodAll_cons_mk (shut_int Tryz.underlying28 w3) (trodAll_cons_mk (shut_int Tryz.underlying29 w4) (trodAll_cons_mk (shut_int Tryz.underlying27 w5) trodAll_mk0)))))), rfl, bel.frame _, fun h => by cases h⟩

/-- Whatever the input, TopProved returns true, and its arguments read as they did. -/
theorem topProved_holds : Rows.TopProvedSaid :=
  OpenClaim.holds_of_wide 3 Tryz.f3 rfl rfl rfl rfl rfl rfl rfl ⟨rfl, rfl, rfl, rfl, rfl⟩ rfl rfl rfl rfl rfl (by kernel_rfl) Tryz.func3 (by kernel_rfl)
    (of_decide_eq_true (by kernel_rfl)) (by unfold Func.isWrapper; first | (rw [if_pos (by decide +kernel)]; kernel_rfl) | (rw [if_neg (by decide +kernel)]; exact ⟨rfl, rfl⟩))
    (fun os started H enc _ => top_lifted os started H enc)
end Go.Proofs.YthcolbjbafilcaaGreat
