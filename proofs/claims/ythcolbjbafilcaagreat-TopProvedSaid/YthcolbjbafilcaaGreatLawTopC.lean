/-
  Plain law: what the statement TopProved asks of the books.
-/
import Derived.Test.YthcolbjbafilcaaGreatLawTopB
set_option linter.unusedSimpArgs false
set_option linter.unusedVariables false
namespace Go.Proofs.YthcolbjbafilcaaGreat
open Go.RowKit

theorem spanErr_fine {items : List Item} {certs : List Cert} {T : Int → Int → Int} (h : Fine items certs) (hT : TruthOf items certs T) {cm : List (Int × Cert)} {ns : List Int} (hr : readLoop certs [] [] = some (cm, ns)) (R : BookRead items certs cm (sortI ns)) (hb : bookErr items certs = 0)
    {j : Nat} (hj : j < items.length) {D : Int} (hD : 0 ≤ D ∧ D ≤ 1000) : spanErr items certs j D = if heldOn items cm (sortI ns) j D then 0 else 10 := by
  have hc := contra_truth R hT
  have hin : (inB (j : Int) 0 ((items.length : Int) - 1) && inB D 0 1000) = true := by simp [inB]; omega
  have ha : askedErr items certs j D = if heldOn items cm (sortI ns) j D then 0 else 10 := by
    unfold askedErr
    rw [if_neg (by simp [hb]), hin, hr]; simp
  unfold spanErr
  rw [ha, hr]
  cases heldOn items cm (sortI ns) j D
  · simp
  · simp only [if_true, ne_eq, not_true_eq_false, if_false]
    rw [hc]; simp
theorem spanVal_fine {items : List Item} {certs : List Cert} {cm : List (Int × Cert)} {ns : List Int} (hr : readLoop certs [] [] = some (cm, ns)) {j : Nat} {D : Int} (h0 : spanErr items certs j D = 0) : spanVal items certs j D = spanOf items cm (sortI ns) (HL items cm (sortI ns)) (SL items cm (sortI ns)) j D 1000 := by
  unfold spanVal
  rw [if_neg (by simp [h0]), hr]

/-- Block against block: the same reading, a value that is no narrower, and a truth in both. -/
structure Wide (n : Int) (b b' : Block) : Prop where
  read : b'.read = b.read
  lo : b'.value.lo ≤ b.value.lo
  hi : b.value.hi ≤ b'.value.hi
structure Holds (n : Int) (b : Block) : Prop where
  rd : 0 ≤ b.read ∧ b.read ≤ 100000
  lo : 0 ≤ b.value.lo
  hi : b.value.hi ≤ 100000
  l : b.value.lo ≤ b.read - n
  h : b.read - n ≤ b.value.hi
theorem bias_iff (n : Int) : ∀ (l : List Block) (out : Rng), (∀ b ∈ l, Holds n b) →
    (∀ m, (l.foldl biasStep out).lo ≤ m ↔ out.lo ≤ m ∧ ∀ b ∈ l, b.read - b.value.hi ≤ m) ∧ (∀ m, m ≤ (l.foldl biasStep out).hi ↔ m ≤ out.hi ∧ ∀ b ∈ l, m ≤ b.read - b.value.lo)
  | [], out, _ => by simp
  | b :: l, out, h => by
    obtain ⟨h1, h2⟩ := bias_iff n l (biasStep out b) (fun x hx => h x (List.mem_cons_of_mem _ hx))
    obtain ⟨r1, l1, u1, a1, a2⟩ := h b List.mem_cons_self
    have e1 : wi (b.read - b.value.hi) = b.read - b.value.hi := by unfold wi Go.RowKit.wrap64; omega
    have e2 : wi (b.read - b.value.lo) = b.read - b.value.lo := by unfold wi Go.RowKit.wrap64; omega
    rw [List.foldl_cons]
    constructor
    · intro m
      rw [h1 m]
      simp only [biasStep, Rng.cut, e1, List.mem_cons, forall_eq_or_imp]
      constructor
      · rintro ⟨a, c⟩; exact ⟨by omega, by omega, c⟩
      · rintro ⟨a, c, d⟩; exact ⟨by omega, d⟩
    · intro m
      rw [h2 m]
      simp only [biasStep, Rng.cut, e2, List.mem_cons, forall_eq_or_imp]
      constructor
      · rintro ⟨a, c⟩; exact ⟨by omega, by omega, c⟩
      · rintro ⟨a, c, d⟩; exact ⟨by omega, d⟩
theorem blockFits_iff (b : Block) : blockFits b = true ↔ (0 ≤ b.value.lo ∧ b.value.hi ≤ 100000) ∧ 0 ≤ b.read ∧ b.read ≤ 100000 := by
  simp only [blockFits, inB, Bool.and_eq_true, decide_eq_true_eq]
section
variable {items : List Item} {certs : List Cert} {words : List Int}
theorem blocks_holds {M : List Cert} {D n : Int} (hn : -128 ≤ n ∧ n ≤ 127) (hok : ∀ j : Nat, j < items.length → spanErr items M j D = 0 → SpanIn (spanVal items M j D) (trueOf (items.getD j default) (wordOf words j) D))
    (hT : ∀ j : Nat, -1000000 ≤ trueOf (items.getD j default) (wordOf words j) D ∧ trueOf (items.getD j default) (wordOf words j) D ≤ 1000000) :
    ∀ k, k ≤ items.length → ∀ b ∈ blocksTo items M words D n k, Holds n b
  | 0, _, b, hb => by simp [blocksTo] at hb
  | k + 1, hk, b, hb => by
    simp only [blocksTo, List.mem_append] at hb
    rcases hb with hb | hb
    · exact blocks_holds hn hok hT k (by omega) b hb
    · split at hb
      · rename_i hc
        rw [List.mem_singleton] at hb; subst hb
        obtain ⟨s1, s2, s3, s4⟩ := hok k (by omega) hc.1
        have ht := hT k
        have hfit := (blockFits_iff _).1 hc.2
        simp only [blockAt] at hfit
        have e1 : wi ((spanVal items M k D).lo + 50000) = (spanVal items M k D).lo + 50000 := by unfold wi Go.RowKit.wrap64; omega
        have e2 : wi ((spanVal items M k D).hi + 50000) = (spanVal items M k D).hi + 50000 := by unfold wi Go.RowKit.wrap64; omega
        have e3 : wi (trueOf (items.getD k default) (wordOf words k) D + n) = trueOf (items.getD k default) (wordOf words k) D + n := by unfold wi Go.RowKit.wrap64; omega
        have e4 : wi (trueOf (items.getD k default) (wordOf words k) D + n + 50000) = trueOf (items.getD k default) (wordOf words k) D + n + 50000 := by unfold wi Go.RowKit.wrap64; omega
        rw [e1, e2, e3, e4] at hfit
        refine ⟨?_, ?_, ?_, ?_, ?_⟩ <;> simp only [blockAt, e1, e2, e3, e4] <;> omega
      · simp at hb
theorem blocks_fewer {M F : List Cert} {D n : Int} (herr : ∀ j : Nat, j < items.length → spanErr items F j D = 0 → spanErr items M j D = 0)
    (hin : ∀ j : Nat, j < items.length → spanErr items F j D = 0 → (spanVal items F j D).lo ≤ (spanVal items M j D).lo ∧ (spanVal items M j D).hi ≤ (spanVal items F j D).hi)
    (hF : ∀ j : Nat, j < items.length → spanErr items F j D = 0 → -1099511927776 ≤ (spanVal items F j D).lo ∧ (spanVal items F j D).hi ≤ 1099511927776 ∧ (spanVal items M j D).lo ≤ (spanVal items M j D).hi) :
    ∀ k, k ≤ items.length → (blocksTo items F words D n k).length ≤ (blocksTo items M words D n k).length ∧ ∀ b ∈ blocksTo items F words D n k, ∃ b' ∈ blocksTo items M words D n k, Wide n b' b
  | 0, _ => by simp [blocksTo]
  | k + 1, hk => by
    obtain ⟨h1, h2⟩ := blocks_fewer (n := n) herr hin hF k (by omega)
    simp only [blocksTo]
    by_cases hc : spanErr items F k D = 0 ∧ blockFits (blockAt items F words D n k) = true
    · obtain ⟨i1, i2⟩ := hin k (by omega) hc.1
      obtain ⟨f1, f2, f3⟩ := hF k (by omega) hc.1
      have e1 : wi ((spanVal items F k D).lo + 50000) = (spanVal items F k D).lo + 50000 := by unfold wi Go.RowKit.wrap64; omega
      have e2 : wi ((spanVal items F k D).hi + 50000) = (spanVal items F k D).hi + 50000 := by unfold wi Go.RowKit.wrap64; omega
      have e3 : wi ((spanVal items M k D).lo + 50000) = (spanVal items M k D).lo + 50000 := by unfold wi Go.RowKit.wrap64; omega
      have e4 : wi ((spanVal items M k D).hi + 50000) = (spanVal items M k D).hi + 50000 := by unfold wi Go.RowKit.wrap64; omega
      have hfit := (blockFits_iff _).1 hc.2
      simp only [blockAt, e1, e2] at hfit
      have hm : spanErr items M k D = 0 ∧ blockFits (blockAt items M words D n k) = true := by
        refine ⟨herr k (by omega) hc.1, ?_⟩
        rw [blockFits_iff]
        simp only [blockAt, e3, e4]
        exact ⟨⟨by omega, by omega⟩, hfit.2⟩
      rw [if_pos hc, if_pos hm]
      refine ⟨by simp only [List.length_append, List.length_singleton]; omega, fun b hb => ?_⟩
      rcases List.mem_append.1 hb with hb | hb
      · obtain ⟨b', hb', hw⟩ := h2 b hb
        exact ⟨b', List.mem_append.2 (.inl hb'), hw⟩
      · rw [List.mem_singleton] at hb; subst hb
        refine ⟨_, List.mem_append.2 (.inr (List.mem_singleton.2 rfl)), ⟨rfl, ?_, ?_⟩⟩ <;> simp only [blockAt, e1, e2, e3, e4] <;> omega
    · rw [if_neg hc, List.append_nil]
      refine ⟨by rw [List.length_append]; omega, fun b hb => ?_⟩
      obtain ⟨b', hb', hw⟩ := h2 b hb
      exact ⟨b', List.mem_append.2 (.inl hb'), hw⟩
end
theorem block_ok {n : Int} {b : Block} (h : Holds n b) : b.ok = true := by
  obtain ⟨r, l, u, a, c⟩ := h
  simp only [Block.ok, Rng.hok, inB, Bool.and_eq_true, decide_eq_true_eq]
  omega
end Go.Proofs.YthcolbjbafilcaaGreat
