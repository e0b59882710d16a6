/-
  Plain law: a book without a fault is read; what is true of its items is a truth of it.
-/
import Derived.Test.YthcolbjbafilcaaGreatTopE
import Derived.Test.YthcolbjbafilcaaGreatLawChain
set_option linter.unusedSimpArgs false
set_option linter.unusedVariables false
namespace Go.Proofs.YthcolbjbafilcaaGreat
open Go.RowKit

structure RInv (S : List Cert) (cm : List (Int × Cert)) (ns : List Int) : Prop where
  nodup : ns.Nodup
  mem : ∀ n, n ∈ ns ↔ ∃ c ∈ S, c.number = n
  look : ∀ c ∈ S, cm.lookup c.number = some c
  back : ∀ n c, cm.lookup n = some c → c ∈ S ∧ c.number = n
theorem readLoop_rinv : ∀ (cs S : List Cert) (cm : List (Int × Cert)) (ns : List Int), RInv S cm ns → (∀ x ∈ S ++ cs, ∀ y ∈ S ++ cs, x.number = y.number → x = y) →
    ∃ cm' ns', readLoop cs cm ns = some (cm', ns') ∧ RInv (S ++ cs) cm' ns'
  | [], S, cm, ns, h, _ => ⟨cm, ns, rfl, by simpa using h⟩
  | c :: cs, S, cm, ns, h, hc => by
    have eS : S ++ c :: cs = (S ++ [c]) ++ cs := by simp
    rw [eS] at hc ⊢; clear eS
    cases hl : cm.lookup c.number with
    | some old =>
      obtain ⟨h1, h2⟩ := h.back _ _ hl
      have hoc : old = c := hc old (by simp [h1]) c (by simp) h2
      subst hoc
      have hi : RInv (S ++ [old]) cm ns := by
        refine ⟨h.nodup, fun n => ?_, fun x hx => ?_, fun n x hx => ?_⟩
        · rw [h.mem n]
          constructor
          · rintro ⟨x, hx, e⟩; exact ⟨x, by simp [hx], e⟩
          · rintro ⟨x, hx, e⟩
            rcases List.mem_append.1 hx with hx | hx
            · exact ⟨x, hx, e⟩
            · rw [List.mem_singleton] at hx; subst hx; exact ⟨x, h1, e⟩
        · rcases List.mem_append.1 hx with hx | hx
          · exact h.look x hx
          · rw [List.mem_singleton] at hx; subst hx; exact hl
        · obtain ⟨a, b⟩ := h.back n x hx
          exact ⟨by simp [a], b⟩
      obtain ⟨cm', ns', h3, h4⟩ := readLoop_rinv cs (S ++ [old]) cm ns hi hc
      exact ⟨cm', ns', by simp only [readLoop, hl, if_true]; exact h3, h4⟩
    | none =>
      have hn : c.number ∉ ns := fun hm => by
        obtain ⟨x, hx, e⟩ := (h.mem _).1 hm
        have := h.look x hx
        rw [e, hl] at this; cases this
      have hi : RInv (S ++ [c]) (cm ++ [(c.number, c)]) (ns ++ [c.number]) := by
        refine ⟨?_, fun n => ?_, fun x hx => ?_, fun n x hx => ?_⟩
        · rw [List.nodup_append]
          exact ⟨h.nodup, by simp, fun a ha b hb => by rw [List.mem_singleton] at hb; subst hb; exact fun e => hn (e ▸ ha)⟩
        · rw [List.mem_append, h.mem n, List.mem_singleton]
          constructor
          · rintro (⟨x, hx, e⟩ | e)
            · exact ⟨x, by simp [hx], e⟩
            · exact ⟨c, by simp, e.symm⟩
          · rintro ⟨x, hx, e⟩
            rcases List.mem_append.1 hx with hx | hx
            · exact .inl ⟨x, hx, e⟩
            · rw [List.mem_singleton] at hx; subst hx; exact .inr e.symm
        · rw [List.lookup_append]
          rcases List.mem_append.1 hx with hx | hx
          · rw [h.look x hx]; rfl
          · rw [List.mem_singleton] at hx; subst hx; rw [hl]; simp [List.lookup]
        · rw [List.lookup_append] at hx
          cases hk : cm.lookup n with
          | some y =>
            rw [hk] at hx
            have : y = x := by simpa using hx
            subst this
            obtain ⟨a, b⟩ := h.back n y hk
            exact ⟨by simp [a], b⟩
          | none =>
            rw [hk] at hx
            by_cases hcn : n = c.number
            · subst hcn; simp [List.lookup] at hx; subst hx; exact ⟨by simp, rfl⟩
            · have : (n == c.number) = false := by simpa using hcn
              simp [List.lookup, this] at hx
      obtain ⟨cm', ns', h3, h4⟩ := readLoop_rinv cs (S ++ [c]) _ _ hi hc
      exact ⟨cm', ns', by simp only [readLoop, hl]; exact h3, h4⟩

/-- What a book without a fault has. -/
structure Fine (items : List Item) (certs : List Cert) : Prop where
  il : items.length ≤ 8
  cl : certs.length ≤ 24
  iok : ∀ x ∈ items, x.ok = true
  cok : ∀ c ∈ certs, certOk items c = true
  pair : ∀ x ∈ certs, ∀ y ∈ certs, pairBad x y = false
theorem Fine.of_fault {items : List Item} {certs : List Cert} (h : refFault items certs = 0) : Fine items certs := by
  have h8 : ¬ (8 < items.length ∨ 24 < certs.length) := fun h8 => by simp [refFault, h8] at h
  obtain ⟨h1, h2⟩ := fault_zero h
  refine ⟨by omega, by omega, h1, h2, fun x hx y hy => ?_⟩
  by_cases hk : pairBad x y = true
  · obtain ⟨j, hj, rfl⟩ := List.getElem_of_mem hx
    obtain ⟨k, hk', rfl⟩ := List.getElem_of_mem hy
    have := fault_pair h8 h1 h2 hj hk' hk
    rw [h] at this; cases this
  · simpa using hk
theorem Fine.sub {items : List Item} {certs few : List Cert} (h : Fine items certs) (hs : ∀ c ∈ few, c ∈ certs) (hl : few.length ≤ certs.length) : Fine items few :=
  ⟨h.il, Nat.le_trans hl h.cl, h.iok, fun c hc => h.cok c (hs c hc), fun x hx y hy => h.pair x (hs x hx) y (hs y hy)⟩
theorem Fine.read {items : List Item} {certs : List Cert} (h : Fine items certs) : ∃ cm ns, readLoop certs [] [] = some (cm, ns) ∧ BookRead items certs cm (sortI ns) ∧ bookErr items certs = 0 := by
  have hcons : ∀ x ∈ [] ++ certs, ∀ y ∈ [] ++ certs, x.number = y.number → x = y := fun x hx y hy e => by
    have := h.pair x (by simpa using hx) y (by simpa using hy)
    simp only [pairBad, e, beq_self_eq_true, Bool.true_and, Bool.or_eq_false_iff, Bool.not_eq_false', decide_eq_true_eq] at this
    exact this.1
  obtain ⟨cm, ns, hr, hi⟩ := readLoop_rinv certs [] [] [] ⟨by simp, by simp, by simp, fun n c hc => by simp [List.lookup] at hc⟩ hcons
  rw [List.nil_append] at hi
  have hof : ∀ n ∈ sortI ns, certOf cm n ∈ certs ∧ (certOf cm n).number = n := fun n hn => by
    obtain ⟨c, hc, e⟩ := (hi.mem n).1 (mem_sortI.1 hn)
    subst e
    have : certOf cm c.number = c := by unfold certOf; rw [hi.look c hc]; rfl
    rw [this]; exact ⟨hc, rfl⟩
  have hsort : (sortI ns).Pairwise (· < ·) := by
    have h1 : (sortI ns).Pairwise (fun a b => decide (a ≤ b) = true) := List.pairwise_mergeSort (fun a b c h1 h2 => by simp only [decide_eq_true_eq] at *; omega) (fun a b => by simp only [Bool.or_eq_true, decide_eq_true_eq]; omega) ns
    have h2 : (sortI ns).Nodup := (List.mergeSort_perm ns _).nodup_iff.2 hi.nodup
    have h3 := h1.and h2
    exact h3.imp (fun h => by have := h.1; simp only [decide_eq_true_eq] at this; have := h.2; omega)
  have R : BookRead items certs cm (sortI ns) := ⟨hsort, hof, fun c hc => ⟨mem_sortI.2 ((hi.mem _).2 ⟨c, hc, rfl⟩), by unfold certOf; rw [hi.look c hc]; rfl⟩, h.cok⟩
  refine ⟨cm, ns, hr, R, ?_⟩
  have hdays : daysUp cm (sortI ns) = true := by
    unfold daysUp
    rw [List.all_eq_true]
    intro i hm
    rw [List.mem_range] at hm
    have h1 : i < (sortI ns).length := by omega
    have h2 : i + 1 < (sortI ns).length := by omega
    have hlt := List.pairwise_iff_getElem.1 hsort i (i + 1) h1 h2 (by omega)
    obtain ⟨a1, a2⟩ := hof _ (List.getElem_mem h1)
    obtain ⟨b1, b2⟩ := hof _ (List.getElem_mem h2)
    have := h.pair _ b1 _ a1
    simp only [pairBad, Bool.or_eq_false_iff, Bool.and_eq_false_iff, decide_eq_false_iff_not] at this
    simp only [List.getD_eq_getElem?_getD, List.getElem?_eq_getElem h1, List.getElem?_eq_getElem h2, Option.getD_some, decide_eq_true_eq]
    rcases this.2 with h | h <;> omega
  have h8 : ¬ (8 < items.length ∨ 24 < certs.length) := by have := h.il; have := h.cl; omega
  have e1 : items.all Item.ok = true := by rw [List.all_eq_true]; exact h.iok
  have e2 : certs.all (certOk items) = true := by rw [List.all_eq_true]; exact h.cok
  simp [bookErr, h8, e1, e2, hr, hdays]
end Go.Proofs.YthcolbjbafilcaaGreat
