/-
  The reference's Fault of a book.
-/
import Derived.Test.YthcolbjbafilcaaGreatRefA
set_option linter.unusedSimpArgs false
set_option linter.unusedVariables false
namespace Go.Proofs.YthcolbjbafilcaaGreat
open Go.RowKit Go.Shelf Go.Sort
attribute [local go_sem] Oper.semAt_some

theorem eqlIn_rcert (a0 a1 a2 a3 a4 a5 a6 b0 b1 b2 b3 b4 b5 b6 : Int) (w : World) : (Op.equalIn 10000 95 (.agg #[I a0, I a1, I a2, I a3, I a4, I a5, I a6]) (.agg #[I b0, I b1, I b2, I b3, I b4, I b5, I b6])).run Tryz.prog w = .ok (a0 == b0 && a1 == b1 && a2 == b2 && a3 == b3 && a4 == b4 && a5 == b5 && a6 == b6) w := by
  simp [go_sem]
  by_cases h0 : a0 = b0 <;> simp [h0]
  by_cases h1 : a1 = b1 <;> simp [h1]
  by_cases h2 : a2 = b2 <;> simp [h2]
  by_cases h3 : a3 = b3 <;> simp [h3]
  by_cases h4 : a4 = b4 <;> simp [h4]
  by_cases h5 : a5 = b5 <;> simp [h5]
  by_cases h6 : a6 = b6 <;> simp [h6]
theorem neq_rcert (a0 a1 a2 a3 a4 a5 a6 b0 b1 b2 b3 b4 b5 b6 : Int) (w : World) : (binOp .neq 95 (.agg #[I a0, I a1, I a2, I a3, I a4, I a5, I a6]) (.agg #[I b0, I b1, I b2, I b3, I b4, I b5, I b6])).run Tryz.prog w = .ok (.bool (!(a0 == b0 && a1 == b1 && a2 == b2 && a3 == b3 && a4 == b4 && a5 == b5 && a6 == b6))) w := by
  rw [run_neq_struct, eqlIn_rcert]; rfl
theorem neq_rcerts (a b : Cert) (W : World) : (binOp .neq 95 a.v b.v).run Tryz.prog W = .ok (.bool (!decide (a = b))) W := by
  rw [neq_rcert]
  obtain ⟨a0, a1, a2, a3, a4, ⟨a5, a6⟩⟩ := a
  obtain ⟨b0, b1, b2, b3, b4, ⟨b5, b6⟩⟩ := b
  have : (a0 == b0 && a1 == b1 && a2 == b2 && a3 == b3 && a4 == b4 && a5 == b5 && a6 == b6) = decide (Cert.mk a0 a1 a2 a3 a4 ⟨a5, a6⟩ = Cert.mk b0 b1 b2 b3 b4 ⟨b5, b6⟩) := by
    rw [Bool.eq_iff_iff]; simp [and_assoc]
  simp only [this]
def pairBad (x y : Cert) : Bool := (x.number == y.number && !decide (x = y)) || (decide (y.number < x.number) && decide (x.day < y.day))
def refFault (items : List Item) (certs : List Cert) : Int :=
  if 8 < items.length ∨ 24 < certs.length then 3
  else if !(items.all Item.ok && certs.all (certOk items)) then 1
  else if certs.any (fun x => certs.any (pairBad x)) then 6 else 0
section
variable {items : List Item} {certs : List Cert}
theorem fault_item (h : ¬ (8 < items.length ∨ 24 < certs.length)) {j : Nat} (hj : j < items.length) (hx : items[j].ok = false) : refFault items certs = 1 := by
  have : items.all Item.ok = false := by rw [List.all_eq_false]; exact ⟨_, List.getElem_mem hj, by simp [hx]⟩
  simp [refFault, h, this]
theorem fault_cert (h : ¬ (8 < items.length ∨ 24 < certs.length)) {j : Nat} (hj : j < certs.length) (hx : certOk items certs[j] = false) : refFault items certs = 1 := by
  have : certs.all (certOk items) = false := by rw [List.all_eq_false]; exact ⟨_, List.getElem_mem hj, by simp [hx]⟩
  simp [refFault, h, this]
theorem fault_pair (h : ¬ (8 < items.length ∨ 24 < certs.length)) (hi : ∀ x ∈ items, x.ok = true) (hc : ∀ c ∈ certs, certOk items c = true) {j k : Nat} (hj : j < certs.length) (hk : k < certs.length) (hx : pairBad certs[j] certs[k] = true) : refFault items certs = 6 := by
  have h1 : items.all Item.ok = true := by rw [List.all_eq_true]; exact hi
  have h2 : certs.all (certOk items) = true := by rw [List.all_eq_true]; exact hc
  have h3 : certs.any (fun x => certs.any (pairBad x)) = true := by
    rw [List.any_eq_true]; exact ⟨_, List.getElem_mem hj, by rw [List.any_eq_true]; exact ⟨_, List.getElem_mem hk, hx⟩⟩
  simp [refFault, h, h1, h2, h3]
theorem fault_none (h : ¬ (8 < items.length ∨ 24 < certs.length)) (hi : ∀ x ∈ items, x.ok = true) (hc : ∀ c ∈ certs, certOk items c = true) (hp : ∀ x ∈ certs, ∀ y ∈ certs, pairBad x y = false) : refFault items certs = 0 := by
  have h1 : items.all Item.ok = true := by rw [List.all_eq_true]; exact hi
  have h2 : certs.all (certOk items) = true := by rw [List.all_eq_true]; exact hc
  have h3 : certs.any (fun x => certs.any (pairBad x)) = false := by
    rw [List.any_eq_false]; intro x hx; rw [Bool.not_eq_true, List.any_eq_false]; intro y hy; rw [hp x hx y hy]; decide
  simp [refFault, h, h1, h2, h3]
theorem take_all {α : Type} {p : α → Bool} {l : List α} {j : Nat} (hlt : j < l.length) (h : ∀ x ∈ l.take j, p x = true) (hx : p l[j] = true) : ∀ x ∈ l.take (j + 1), p x = true := by
  intro x hm
  rw [List.take_succ_eq_append_getElem hlt, List.mem_append] at hm
  rcases hm with hm | hm
  · exact h x hm
  · simp at hm; subst hm; exact hx
end
set_option maxRecDepth 100000 in
set_option maxHeartbeats 4000000 in
theorem fault_any (ok : Nat → Prop) (vi vc : Value) (items : List Item) (certs : List Cert) (w : World) (hil : items.length ≤ 1000) (hcl : certs.length ≤ 1000) (hi : ItemsIs ok w vi items) (hc : CertsIs ok w vc certs) :
    Calls Tryz.prog 6 #[.agg #[vi, vc]] w fun e w' => e = .returned (I (refFault items certs)) ∧ Below w.heap.size w w' := by
  obtain ⟨ai, ci, rfl, hci, hri⟩ := hi
  obtain ⟨ac, cc, rfl, hcc, hrc⟩ := hc
  by_cases h8 : 8 < items.length
  · have h8' : (8 : Int) < (items.length : Int) := by omega
    have Hf := Lib.hid (show refFault items certs = 3 by simp [refFault, h8])
    go_enter Tryz.func6, Tryz.ntmps6
    go_wp2_with fail
    go_ret
    exact ⟨ret_int Hf.out.symm, below_alloc _ _⟩
  by_cases h24 : 24 < certs.length
  · have h8' : decide ((8 : Int) < (items.length : Int)) = false := by simp; omega
    have h24' : (24 : Int) < (certs.length : Int) := by omega
    have Hf := Lib.hid (show refFault items certs = 3 by simp [refFault, h24])
    go_enter Tryz.func6, Tryz.ntmps6
    go_wp2_with fail
    go_ret
    exact ⟨ret_int Hf.out.symm, below_alloc _ _⟩
  have hnot : ¬ (8 < items.length ∨ 24 < certs.length) := by omega
  have h8' : decide ((8 : Int) < (items.length : Int)) = false := by simp; omega
  have h24' : decide ((24 : Int) < (certs.length : Int)) = false := by simp; omega
  have Hnot := Lib.hid hnot
  clear hnot
  go_enter Tryz.func6, Tryz.ntmps6
  go_wp2_with fail
  refine name_world ?_
  intro W0 hW0
  have hB0 : Below w.heap.size w W0 := by rw [hW0]; exact below_alloc _ _
  have hH : W0.heap[w.heap.size]? = some (.cells #[.slice ai items.length ci, .slice ac certs.length cc] 25 (0, 0)) := by rw [hW0]; exact heap_new _ _ rfl
  clear hW0 h8' h24'
  have hzH := heap_at hH
  go_loopg [3] items.length (fun g i wr => ∃ j : Nat, g = items.length - j ∧ j ≤ items.length ∧ i = I j ∧ (∀ x ∈ items.take j, x.ok = true) ∧ Below W0.heap.size W0 wr)
  case atStart => exact ⟨0, rfl, Nat.zero_le _, rfl, by simp, Below.refl _ _⟩
  case round =>
    obtain ⟨j, rfl, hj, rfl, hpre, hB⟩ := hrel
    have HBw := below_from hB0 hB
    have hHr := (hB.block _ hzH).trans hH
    have c0 : wr.cell? ⟨w.heap.size, 0, none⟩ = some (.slice ai items.length ci) := cell_of_heap hHr 0
    have c1 : wr.cell? ⟨w.heap.size, 1, none⟩ = some (.slice ac certs.length cc) := cell_of_heap hHr 1
    have Hpre := Lib.hid hpre
    have HH := Lib.hid hH
    clear hHr hpre
    by_cases hlt : j < items.length
    · obtain ⟨b, o, rfl, -, hb, hrows⟩ := hri (by omega)
      have hrow := (hrows j items[j] (List.getElem?_eq_getElem hlt)).below HBw hb
      obtain ⟨e0, e1, e2, e3⟩ := hrow.four
      have Hx := Lib.hid (show items[j].ok = (inB items[j].drift 0 100 && items[j].value.ok && (items[j].standard || (items[j].value.lo == 0 && items[j].value.hi == 0))) from rfl)
      have Hbad : Hid (items[j].ok = false → refFault items certs = 1) := Lib.hid (fun h => fault_item Hnot.out hlt h)
      have Hgood : Hid (items[j].ok = true → ∀ x ∈ items.take (j + 1), x.ok = true) := Lib.hid (fun h => take_all hlt Hpre.out h)
      clear hrows hri hrc hrow hH
      generalize items[j] = x at *
      go_wp2_with fail
      refine (rin_any _ _ _ _).mono ?_
      rintro e w' ⟨rfl, rfl⟩
      have HBa := below_al hB (.cells x.cells.toArray 91)
      cases h1 : inB x.drift 0 100 with
      | false =>
        go_wp2_with fail
        go_ret
        exact ⟨ret_int (Hbad.out (by rw [Hx.out, h1]; rfl)).symm, below_from hB0 HBa⟩
      | true =>
      go_wp2_with fail
      refine (rspan_any x.value _).mono ?_
      rintro e w1 ⟨rfl, hB1⟩
      have HB1 := below_from HBa hB1
      have hz1 : wr.heap.size < w1.heap.size := by have := hB1.size; simp at this; omega
      have q0 : w1.cell? ⟨wr.heap.size, 1, none⟩ = some (.bool x.standard) := (hB1.cell (p := ⟨wr.heap.size, 1, none⟩) (by simp)).trans (by simp [go_sem])
      have q2 : w1.cell? ⟨wr.heap.size, 2, none⟩ = some (I x.value.lo) := (hB1.cell (p := ⟨wr.heap.size, 2, none⟩) (by simp)).trans (by simp [go_sem])
      have q3 : w1.cell? ⟨wr.heap.size, 3, none⟩ = some (I x.value.hi) := (hB1.cell (p := ⟨wr.heap.size, 3, none⟩) (by simp)).trans (by simp [go_sem])
      clear e0 e1 e2 e3 c0 c1
      cases h2 : x.value.ok with
      | false =>
        go_wp2_with fail
        go_ret
        exact ⟨ret_int (Hbad.out (by rw [Hx.out, h1, h2]; rfl)).symm, below_from hB0 HB1⟩
      | true =>
      cases h3 : x.standard with
      | true =>
        rw [h3] at q0
        go_wp2_with fail
        go_roundg (items.length - (j + 1))
        case measure => omega
        case rel => exact ⟨j + 1, rfl, by omega, by go_num, Hgood.out (by rw [Hx.out, h1, h2, h3]; rfl), HB1⟩
      | false =>
      rw [h3] at q0
      cases h4 : (x.value.lo == 0) with
      | false =>
        have h4' : (x.value.lo != 0) = true := by simp [bne, h4]
        go_wp2_with fail
        go_ret
        exact ⟨ret_int (Hbad.out (by rw [Hx.out, h1, h2, h3, h4]; rfl)).symm, below_from hB0 HB1⟩
      | true =>
      have h4' : (x.value.lo != 0) = false := by simp [bne, h4]
      cases h5 : (x.value.hi == 0) with
      | false =>
        have h5' : (x.value.hi != 0) = true := by simp [bne, h5]
        go_wp2_with fail
        go_ret
        exact ⟨ret_int (Hbad.out (by rw [Hx.out, h1, h2, h3, h4, h5]; rfl)).symm, below_from hB0 HB1⟩
      | true =>
        have h5' : (x.value.hi != 0) = false := by simp [bne, h5]
        go_wp2_with fail
        go_roundg (items.length - (j + 1))
        case measure => omega
        case rel => exact ⟨j + 1, rfl, by omega, by go_num, Hgood.out (by rw [Hx.out, h1, h2, h3, h4, h5]; rfl), HB1⟩
    · obtain rfl : j = items.length := by omega
      have Hall : Hid (∀ x ∈ items, x.ok = true) := Lib.hid (by have := Hpre.out; rwa [List.take_length] at this)
      clear hH
      go_wp2_with fail
      obtain ⟨wL, rfl⟩ : ∃ x : World, x = wr := ⟨_, rfl⟩
      have hHL := (hB.block _ hzH).trans HH.out
      have HHL := Lib.hid hHL
      have hzL := heap_at hHL
      clear hHL c0 c1
      go_loopg [5] certs.length (fun g i wr => ∃ j : Nat, g = certs.length - j ∧ j ≤ certs.length ∧ i = I j ∧ (∀ x ∈ certs.take j, certOk items x = true) ∧ Below wL.heap.size wL wr)
      case atStart => exact ⟨0, rfl, Nat.zero_le _, rfl, by simp, Below.refl _ _⟩
      case round =>
        obtain ⟨j, rfl, hj, rfl, hpre, hB2⟩ := hrel
        have HB2 := below_from HBw hB2
        have hHr := (hB2.block _ hzL).trans HHL.out
        have c0 : wr.cell? ⟨w.heap.size, 0, none⟩ = some (.slice ai items.length ci) := cell_of_heap hHr 0
        have c1 : wr.cell? ⟨w.heap.size, 1, none⟩ = some (.slice ac certs.length cc) := cell_of_heap hHr 1
        have Hpre2 := Lib.hid hpre
        have hzr := World.block_lt_of_cell? _ _ c0
        clear hHr hpre
        by_cases hlt2 : j < certs.length
        · obtain ⟨b, o, rfl, -, hb, hrows⟩ := hrc (by omega)
          have hrow := (hrows j certs[j] (List.getElem?_eq_getElem hlt2)).below HB2 hb
          obtain ⟨e0, e1, e2, e3, e4, e5, e6⟩ := hrow.seven
          have Hx := Lib.hid (show certOk items certs[j] = (inB certs[j].number 1 999 && inB certs[j].item 0 (items.length - 1) && !(items.getD certs[j].item.toNat default).standard && inB certs[j].by_ 0 (items.length - 1) && !(certs[j].by_ == certs[j].item) && inB certs[j].day 0 1000 && inB certs[j].valid 0 1000 && certs[j].diff.ok) from rfl)
          have Hbad : Hid (certOk items certs[j] = false → refFault items certs = 1) := Lib.hid (fun h => fault_cert Hnot.out hlt2 h)
          have Hgood : Hid (certOk items certs[j] = true → ∀ x ∈ certs.take (j + 1), certOk items x = true) := Lib.hid (fun h => take_all hlt2 Hpre2.out h)
          clear hrows hrc hrow
          generalize certs[j] = cx at *
          obtain ⟨n, it, by_, d, va, ⟨lo, hi'⟩⟩ := cx
          have HBa := below_al hB2 (.cells #[I n, I it, I by_, I d, I va, I lo, I hi'] 95)
          have HBc := below_from HBw HBa
          have Hri := Lib.hid hri
          clear hri
          go_wp2_with fail
          refine (rin_any _ _ _ _).mono ?_
          rintro e w' ⟨rfl, rfl⟩
          cases h1 : inB n 1 999 with
          | false =>
            go_wp2_with fail
            go_ret
            exact ⟨ret_int (Hbad.out (by rw [Hx.out]; simp [h1])).symm, HBc⟩
          | true =>
          go_wp2_with fail
          refine (rin_any _ _ _ _).mono ?_
          rintro e w' ⟨rfl, rfl⟩
          cases h2 : inB it 0 (items.length - 1) with
          | false =>
            go_wp2_with fail
            go_ret
            exact ⟨ret_int (Hbad.out (by rw [Hx.out]; simp [h2])).symm, HBc⟩
          | true =>
          go_wp2_with fail
          refine (rin_any _ _ _ _).mono ?_
          rintro e w' ⟨rfl, rfl⟩
          cases h3 : inB by_ 0 (items.length - 1) with
          | false =>
            go_wp2_with fail
            go_ret
            exact ⟨ret_int (Hbad.out (by rw [Hx.out]; simp [h3])).symm, HBc⟩
          | true =>
          cases h4 : (by_ == it) with
          | true =>
            go_wp2_with fail
            go_ret
            exact ⟨ret_int (Hbad.out (by rw [Hx.out]; simp [h4])).symm, HBc⟩
          | false =>
          have hit : 0 ≤ it ∧ it ≤ items.length - 1 := by simpa [inB] using h2
          obtain ⟨m, rfl⟩ := Int.eq_ofNat_of_zero_le hit.1
          have hm : m < items.length := by omega
          have hm' : (m : Int) < (items.length : Int) := by omega
          obtain ⟨bi, oi, rfl, -, hbi, hrowi⟩ := Hri.out (by omega)
          obtain ⟨-, s1, -, -⟩ := ((hrowi m items[m] (List.getElem?_eq_getElem hm)).below HB2 hbi).four
          have hgd : (items.getD m default).standard = items[m].standard := by simp [hm]
          have Hgd := Lib.hid hgd
          have hzbi := World.block_lt_of_cell? _ _ s1
          clear hgd hrowi hit
          cases h5 : items[m].standard with
          | true =>
            rw [h5] at s1
            go_wp2_with fail
            go_ret
            exact ⟨ret_int (Hbad.out (by rw [Hx.out]; simp only [Int.toNat_natCast]; rw [Hgd.out, h5]; simp)).symm, HBc⟩
          | false =>
          rw [h5] at s1
          go_wp2_with fail
          refine (rin_any _ _ _ _).mono ?_
          rintro e w' ⟨rfl, rfl⟩
          cases h6 : inB d 0 1000 with
          | false =>
            go_wp2_with fail
            go_ret
            exact ⟨ret_int (Hbad.out (by rw [Hx.out]; simp [h6])).symm, HBc⟩
          | true =>
          go_wp2_with fail
          refine (rin_any _ _ _ _).mono ?_
          rintro e w' ⟨rfl, rfl⟩
          cases h7 : inB va 0 1000 with
          | false =>
            go_wp2_with fail
            go_ret
            exact ⟨ret_int (Hbad.out (by rw [Hx.out]; simp [h7])).symm, HBc⟩
          | true =>
          go_wp2_with fail
          refine (rspan_any ⟨lo, hi'⟩ _).mono ?_
          rintro e w1 ⟨rfl, hB1⟩
          have HB1 := below_from HBa hB1
          cases h8 : Rng.ok ⟨lo, hi'⟩ with
          | false =>
            go_wp2_with fail
            go_ret
            exact ⟨ret_int (Hbad.out (by rw [Hx.out]; simp [h8])).symm, below_from HBw HB1⟩
          | true =>
            have Hok : Hid (certOk items ⟨n, m, by_, d, va, ⟨lo, hi'⟩⟩ = true) := Lib.hid (by rw [Hx.out]; simp only [Int.toNat_natCast]; rw [Hgd.out, h1, h2, h3, h4, h5, h6, h7, h8]; rfl)
            go_wp2_with fail
            go_roundg (certs.length - (j + 1))
            case measure => omega
            case rel => exact ⟨j + 1, rfl, by omega, by go_num, Hgood.out Hok.out, HB1⟩
        · obtain rfl : j = certs.length := by omega
          have Hallc : Hid (∀ x ∈ certs, certOk items x = true) := Lib.hid (by have := Hpre2.out; rwa [List.take_length] at this)
          go_wp2_with fail
          obtain ⟨wM, rfl⟩ : ∃ x : World, x = wr := ⟨_, rfl⟩
          have hHM := (hB2.block _ hzL).trans HHL.out
          have HHM := Lib.hid hHM
          have hzM := heap_at hHM
          clear hHM c0 c1 hri
          go_loopg [7] certs.length (fun g i wr => ∃ j : Nat, g = certs.length - j ∧ j ≤ certs.length ∧ i = I j ∧ (∀ x ∈ certs.take j, ∀ y ∈ certs, pairBad x y = false) ∧ Below wM.heap.size wM wr)
          case atStart => exact ⟨0, rfl, Nat.zero_le _, rfl, by simp, Below.refl _ _⟩
          case round =>
            obtain ⟨i, rfl, hi, rfl, hpre, hB3⟩ := hrel
            have HB3 := below_from HB2 hB3
            have hHr := (hB3.block _ hzM).trans HHM.out
            have c1 : wr.cell? ⟨w.heap.size, 1, none⟩ = some (.slice ac certs.length cc) := cell_of_heap hHr 1
            have Hpre3 := Lib.hid hpre
            clear hpre
            by_cases hlt3 : i < certs.length
            · have HHN := Lib.hid hHr
              have hzN := heap_at hHr
              clear hHr
              go_wp2_with fail
              obtain ⟨wN, rfl⟩ : ∃ x : World, x = wr := ⟨_, rfl⟩
              clear c1
              go_loopg [8] certs.length (fun g k wr => ∃ j : Nat, g = certs.length - j ∧ j ≤ certs.length ∧ k = I j ∧ (∀ y ∈ certs.take j, pairBad certs[i] y = false) ∧ Below wN.heap.size wN wr)
              case atStart => exact ⟨0, rfl, Nat.zero_le _, rfl, by simp, Below.refl _ _⟩
              case round =>
                obtain ⟨k, rfl, hk, rfl, hpre, hB4⟩ := hrel
                have HB4 := below_from HB3 hB4
                have hHr := (hB4.block _ hzN).trans HHN.out
                have c1 : wr.cell? ⟨w.heap.size, 1, none⟩ = some (.slice ac certs.length cc) := cell_of_heap hHr 1
                have hzr := World.block_lt_of_cell? _ _ c1
                have Hpre4 := Lib.hid hpre
                clear hpre hHr
                by_cases hlt4 : k < certs.length
                · obtain ⟨b, o, rfl, -, hb, hrows⟩ := hrc (by omega)
                  obtain ⟨x0, x1, x2, x3, x4, x5, x6⟩ := ((hrows i certs[i] (List.getElem?_eq_getElem hlt3)).below HB4 hb).seven
                  obtain ⟨y0, y1, y2, y3, y4, y5, y6⟩ := ((hrows k certs[k] (List.getElem?_eq_getElem hlt4)).below HB4 hb).seven
                  have hzb := World.block_lt_of_cell? _ _ x0
                  have Hx := Lib.hid (show pairBad certs[i] certs[k] = ((certs[i].number == certs[k].number && !decide (certs[i] = certs[k])) || (decide (certs[k].number < certs[i].number) && decide (certs[i].day < certs[k].day))) from rfl)
                  have Hbad : Hid (pairBad certs[i] certs[k] = true → refFault items certs = 6) := Lib.hid (fun h => fault_pair Hnot.out Hall.out Hallc.out hlt3 hlt4 h)
                  have Hgood : Hid (pairBad certs[i] certs[k] = false → ∀ y ∈ certs.take (k + 1), pairBad certs[i] y = false) := Lib.hid (fun h => take_succ_all hlt4 Hpre4.out h)
                  clear hrows hrc Hpre4
                  generalize certs[i] = x at *
                  generalize certs[k] = y at *
                  have HS : Hid (∀ W' : World, Below wr.heap.size wr W' → (W'.cell? ⟨w.heap.size, 1, none⟩ = some (.slice (some ⟨b, o, none⟩) certs.length cc) ∧ W'.cell? ⟨b, o + i * 7, none⟩ = some (I x.number) ∧ W'.cell? ⟨b, o + i * 7 + 1, none⟩ = some (I x.item) ∧ W'.cell? ⟨b, o + i * 7 + 2, none⟩ = some (I x.by_) ∧ W'.cell? ⟨b, o + i * 7 + 3, none⟩ = some (I x.day) ∧ W'.cell? ⟨b, o + i * 7 + 4, none⟩ = some (I x.valid) ∧ W'.cell? ⟨b, o + i * 7 + 5, none⟩ = some (I x.diff.lo) ∧ W'.cell? ⟨b, o + i * 7 + 6, none⟩ = some (I x.diff.hi) ∧ W'.cell? ⟨b, o + k * 7, none⟩ = some (I y.number) ∧ W'.cell? ⟨b, o + k * 7 + 1, none⟩ = some (I y.item) ∧ W'.cell? ⟨b, o + k * 7 + 2, none⟩ = some (I y.by_) ∧ W'.cell? ⟨b, o + k * 7 + 3, none⟩ = some (I y.day) ∧ W'.cell? ⟨b, o + k * 7 + 4, none⟩ = some (I y.valid) ∧ W'.cell? ⟨b, o + k * 7 + 5, none⟩ = some (I y.diff.lo) ∧ W'.cell? ⟨b, o + k * 7 + 6, none⟩ = some (I y.diff.hi) ∧ Below wr.heap.size wr W')) := Lib.hid (fun W' hB => ⟨(hB.cell (p := ⟨w.heap.size, 1, none⟩) hzr).trans c1, (hB.cell (p := ⟨b, o + i * 7, none⟩) hzb).trans x0, (hB.cell (p := ⟨b, o + i * 7 + 1, none⟩) hzb).trans x1, (hB.cell (p := ⟨b, o + i * 7 + 2, none⟩) hzb).trans x2, (hB.cell (p := ⟨b, o + i * 7 + 3, none⟩) hzb).trans x3, (hB.cell (p := ⟨b, o + i * 7 + 4, none⟩) hzb).trans x4, (hB.cell (p := ⟨b, o + i * 7 + 5, none⟩) hzb).trans x5, (hB.cell (p := ⟨b, o + i * 7 + 6, none⟩) hzb).trans x6, (hB.cell (p := ⟨b, o + k * 7, none⟩) hzb).trans y0, (hB.cell (p := ⟨b, o + k * 7 + 1, none⟩) hzb).trans y1, (hB.cell (p := ⟨b, o + k * 7 + 2, none⟩) hzb).trans y2, (hB.cell (p := ⟨b, o + k * 7 + 3, none⟩) hzb).trans y3, (hB.cell (p := ⟨b, o + k * 7 + 4, none⟩) hzb).trans y4, (hB.cell (p := ⟨b, o + k * 7 + 5, none⟩) hzb).trans y5, (hB.cell (p := ⟨b, o + k * 7 + 6, none⟩) hzb).trans y6, hB⟩)
                  have hi' : (i : Int) < (certs.length : Int) := by omega
                  have hk' : (k : Int) < (certs.length : Int) := by omega
                  go_upto_region 9 with fail
                  go_cut [9, 10] (fun s9 s10 wc => ∃ p9 p10, s9 = .pointer (some ⟨p9, 0, none⟩) ∧ s10 = .pointer (some ⟨p10, 0, none⟩) ∧ RowAt wc p9 0 x.cells ∧ RowAt wc p10 0 y.cells ∧ Below wr.heap.size wr wc)
                  case first =>
                    clear c1 x0 x1 x2 x3 x4 x5 x6 y0 y1 y2 y3 y4 y5 y6
                    go_region_held3 (fun W' => W'.cell? ⟨w.heap.size, 1, none⟩ = some (.slice (some ⟨b, o, none⟩) certs.length cc) ∧ W'.cell? ⟨b, o + i * 7, none⟩ = some (I x.number) ∧ W'.cell? ⟨b, o + i * 7 + 1, none⟩ = some (I x.item) ∧ W'.cell? ⟨b, o + i * 7 + 2, none⟩ = some (I x.by_) ∧ W'.cell? ⟨b, o + i * 7 + 3, none⟩ = some (I x.day) ∧ W'.cell? ⟨b, o + i * 7 + 4, none⟩ = some (I x.valid) ∧ W'.cell? ⟨b, o + i * 7 + 5, none⟩ = some (I x.diff.lo) ∧ W'.cell? ⟨b, o + i * 7 + 6, none⟩ = some (I x.diff.hi) ∧ W'.cell? ⟨b, o + k * 7, none⟩ = some (I y.number) ∧ W'.cell? ⟨b, o + k * 7 + 1, none⟩ = some (I y.item) ∧ W'.cell? ⟨b, o + k * 7 + 2, none⟩ = some (I y.by_) ∧ W'.cell? ⟨b, o + k * 7 + 3, none⟩ = some (I y.day) ∧ W'.cell? ⟨b, o + k * 7 + 4, none⟩ = some (I y.valid) ∧ W'.cell? ⟨b, o + k * 7 + 5, none⟩ = some (I y.diff.lo) ∧ W'.cell? ⟨b, o + k * 7 + 6, none⟩ = some (I y.diff.hi) ∧ Below wr.heap.size wr W')
                      (first
                        | with_reducible exact HS.out _ (Below.refl _ _).drew
                        | (refine HS.out _ ?_; repeat (first | with_reducible assumption | with_reducible exact Below.refl _ _ | with_reducible refine Below.drew ?_ | with_reducible refine below_al ?_ _ | with_reducible refine Below.setCell ?_ ?_ _ | (simp; done) | (simp; omega) | omega)))
                      (fail)
                    all_goals
                      go_wp2_with fail
                      go_meet
                      first
                        | exact ⟨_, _, rfl, rfl, ((row_new wr x.cells 95 rfl).below (below_alloc _ _) (by simp)).of_block rfl, (row_new (wr.alloc (.cells x.cells.toArray 95)) y.cells 95 (by simp)).of_block rfl, (below_alloc2 _ _ _).drew⟩
                        | exact ⟨_, _, rfl, rfl, (row_new (wr.alloc (.cells y.cells.toArray 95)) x.cells 95 (by simp)).of_block rfl, ((row_new wr y.cells 95 rfl).below (below_alloc _ _) (by simp)).of_block rfl, (below_alloc2 _ _ _).drew⟩
                  case rest =>
                    obtain ⟨wA, rfl⟩ : ∃ z : World, z = wc := ⟨_, rfl⟩
                    obtain ⟨p9, p10, rfl, rfl, hx9, hy10, hBA⟩ := hcut
                    have HBA := below_from hB4 hBA
                    clear c1 x0 x1 x2 x3 x4 x5 x6 y0 y1 y2 y3 y4 y5 y6
                    obtain ⟨x0, x1, x2, x3, x4, x5, x6⟩ := hx9.seven
                    obtain ⟨y0, y1, y2, y3, y4, y5, y6⟩ := hy10.seven
                    simp only [Nat.zero_add] at x1 x2 x3 x4 x5 x6 y1 y2 y3 y4 y5 y6
                    have hne : ∀ W, (binOp .neq 95 (.agg #[I x.number, I x.item, I x.by_, I x.day, I x.valid, I x.diff.lo, I x.diff.hi]) (.agg #[I y.number, I y.item, I y.by_, I y.day, I y.valid, I y.diff.lo, I y.diff.hi])).run Tryz.prog W = .ok (.bool (!decide (x = y))) W := fun W => neq_rcerts x y W
                    cases h1 : (x.number == y.number) with
                    | true =>
                      cases h2 : decide (x = y) with
                      | false =>
                        rw [h2] at hne
                        have Hb := Lib.hid (Hbad.out (by rw [Hx.out, h1, h2]; rfl))
                        clear h2
                        go_wp2_with fail
                        go_ret
                        exact ⟨ret_int Hb.out.symm, below_from HB4 hBA⟩
                      | true =>
                        rw [h2] at hne
                        have h3 : decide (y.number < x.number) = false := by simp at h1 ⊢; omega
                        have Hg := Lib.hid (Hgood.out (by rw [Hx.out, h1, h2, h3]; rfl))
                        clear h2
                        go_wp2_with fail
                        go_roundg (certs.length - (k + 1))
                        case measure => omega
                        case rel => exact ⟨k + 1, rfl, by omega, by go_num, Hg.out, HBA⟩
                    | false =>
                      cases h3 : decide (y.number < x.number) with
                      | false =>
                        have Hg := Lib.hid (Hgood.out (by rw [Hx.out, h1, h3]; rfl))
                        go_wp2_with fail
                        go_roundg (certs.length - (k + 1))
                        case measure => omega
                        case rel => exact ⟨k + 1, rfl, by omega, by go_num, Hg.out, HBA⟩
                      | true =>
                        have h3' : y.number < x.number := by simpa using h3
                        cases h4 : decide (x.day < y.day) with
                        | false =>
                          have Hg := Lib.hid (Hgood.out (by rw [Hx.out, h1, h3, h4]; rfl))
                          go_wp2_with fail
                          go_roundg (certs.length - (k + 1))
                          case measure => omega
                          case rel => exact ⟨k + 1, rfl, by omega, by go_num, Hg.out, HBA⟩
                        | true =>
                          have Hb := Lib.hid (Hbad.out (by rw [Hx.out, h1, h3, h4]; rfl))
                          have h4' : x.day < y.day := by simpa using h4
                          go_wp2_with fail
                          go_ret
                          exact ⟨ret_int Hb.out.symm, below_from HB4 hBA⟩
                · obtain rfl : k = certs.length := by omega
                  have Hrow : Hid (∀ x ∈ certs.take (i + 1), ∀ y ∈ certs, pairBad x y = false) := Lib.hid (by
                    intro x hx
                    rw [List.take_succ_eq_append_getElem hlt3, List.mem_append] at hx
                    rcases hx with hx | hx
                    · exact Hpre3.out x hx
                    · simp at hx; subst hx
                      have := Hpre4.out
                      rwa [List.take_length] at this)
                  go_wp2_with fail
                  go_roundg (certs.length - (i + 1))
                  case measure => omega
                  case rel => exact ⟨i + 1, rfl, by omega, by go_num, Hrow.out, below_from hB3 hB4⟩
            · obtain rfl : i = certs.length := by omega
              have Hz : Hid (refFault items certs = 0) := Lib.hid (fault_none Hnot.out Hall.out Hallc.out (by have := Hpre3.out; rwa [List.take_length] at this))
              go_wp2_with fail
              go_ret
              exact ⟨ret_int Hz.out.symm, HB3⟩
end Go.Proofs.YthcolbjbafilcaaGreat
