/-
  Plain law: the statements' truth is a truth of the book that is made anew from it.
-/
import Derived.Test.YthcolbjbafilcaaGreatLawTopA
set_option linter.unusedSimpArgs false
set_option linter.unusedVariables false
namespace Go.Proofs.YthcolbjbafilcaaGreat
open Go.RowKit

theorem emod_succ (z q : Int) (hq : 0 < q) : (z + 1) % q = if z % q + 1 = q then 0 else z % q + 1 := by
  have h0 := Int.emod_nonneg z (show q ≠ 0 by omega)
  have h1 := Int.emod_lt_of_pos z hq
  rw [← Int.emod_add_emod]
  by_cases h : z % q + 1 = q
  · rw [if_pos h, h, Int.emod_self]
  · rw [if_neg h]; exact Int.emod_eq_of_lt (by omega) (by omega)
def tri (p z : Int) : Int := if z % (2 * p) > p then 2 * p - z % (2 * p) else z % (2 * p)
theorem tri_step (p z : Int) (hp : 0 < p) : tri p (z + 1) ≤ tri p z + 1 ∧ tri p z - 1 ≤ tri p (z + 1) := by
  have h0 := Int.emod_nonneg z (show 2 * p ≠ 0 by omega)
  have h1 := Int.emod_lt_of_pos z (show 0 < 2 * p by omega)
  unfold tri
  rw [emod_succ z (2 * p) (by omega)]
  generalize z % (2 * p) = m at *
  (repeat' split) <;> omega
theorem tri_far (p z : Int) (hp : 0 < p) : ∀ n : Nat, tri p (z + n) ≤ tri p z + n ∧ tri p z - n ≤ tri p (z + n)
  | 0 => by simp
  | n + 1 => by
    have h := tri_far p z hp n
    have h' := tri_step p (z + n) hp
    rw [show z + ((n + 1 : Nat) : Int) = z + n + 1 by omega]
    omega
theorem trueAt_tri (x : Item) (u d : Int) : trueAt x u d = tri (1 + u % 60) (d + u % 7) := rfl
theorem trueAt_far (x : Item) (u d d' : Int) (h : d ≤ d') : trueAt x u d' ≤ trueAt x u d + (d' - d) ∧ trueAt x u d - (d' - d) ≤ trueAt x u d' := by
  obtain ⟨n, hn⟩ := Int.eq_ofNat_of_zero_le (show 0 ≤ d' - d by omega)
  have := tri_far (1 + u % 60) (d + u % 7) (by omega) n
  rw [trueAt_tri, trueAt_tri, show d' + u % 7 = d + u % 7 + n by omega]
  omega
theorem trueAt_bd (x : Item) (u d : Int) : 0 ≤ trueAt x u d ∧ trueAt x u d ≤ 60 := by
  have h0 := Int.emod_nonneg (d + u % 7) (show 2 * (1 + u % 60) ≠ 0 by omega)
  have h1 := Int.emod_lt_of_pos (d + u % 7) (show 0 < 2 * (1 + u % 60) by omega)
  unfold trueAt
  split <;> omega
theorem mul_far {k a b : Int} (hk : 0 ≤ k) (h : a ≤ b) : k * a ≤ k * b := Int.mul_le_mul_of_nonneg_left h hk
theorem trueOf_far (x : Item) (u d d' : Int) (hx : 0 ≤ x.drift) (hs : x.standard = false) (h : d ≤ d') : trueOf x u d' ≤ trueOf x u d + x.drift * (d' - d) ∧ trueOf x u d - x.drift * (d' - d) ≤ trueOf x u d' := by
  have hf := trueAt_far x u d d' h
  unfold trueOf
  rw [hs]
  simp only [Bool.false_eq_true, if_false]
  split
  · have h1 := mul_far hx (show -(trueAt x u d') ≤ -(trueAt x u d) + (d' - d) by omega)
    have h2 := mul_far hx (show -(trueAt x u d) - (d' - d) ≤ -(trueAt x u d') by omega)
    rw [Int.mul_add] at h1; rw [Int.mul_sub] at h2
    omega
  · have h1 := mul_far hx (show trueAt x u d' ≤ trueAt x u d + (d' - d) by omega)
    have h2 := mul_far hx (show trueAt x u d - (d' - d) ≤ trueAt x u d' by omega)
    rw [Int.mul_add] at h1; rw [Int.mul_sub] at h2
    omega
theorem mul_bd' {a b : Int} (h1 : 0 ≤ a ∧ a ≤ 100) (h2 : 0 ≤ b ∧ b ≤ 60) : 0 ≤ a * b ∧ a * b ≤ 6000 := ⟨Int.mul_nonneg h1.1 h2.1, by have := Int.mul_le_mul h1.2 h2.2 h2.1 (by omega); omega⟩
theorem trueOf_wide (x : Item) (u d : Int) (hx : x.ok = true ∨ x = default) : -1000000 ≤ trueOf x u d ∧ trueOf x u d ≤ 1000000 := by
  have hb : 0 ≤ x.drift ∧ x.drift ≤ 100 ∧ -100000 ≤ x.value.lo ∧ x.value.lo ≤ x.value.hi ∧ x.value.hi ≤ 100000 := by
    rcases hx with hx | rfl
    · simp only [Item.ok, inB, Rng.ok, Bool.and_eq_true, decide_eq_true_eq] at hx; omega
    · refine ⟨?_, ?_, ?_, ?_, ?_⟩ <;> decide
  unfold trueOf
  split
  · have z1 := Int.emod_nonneg u (show x.value.hi - x.value.lo + 1 ≠ 0 by omega)
    have z2 := Int.emod_lt_of_pos u (show 0 < x.value.hi - x.value.lo + 1 by omega)
    omega
  · have hat := trueAt_bd x u d
    split
    · have h1 := mul_bd' (a := x.drift) (b := trueAt x u d) ⟨hb.1, hb.2.1⟩ hat
      rw [Int.mul_neg]; omega
    · have h1 := mul_bd' (a := x.drift) (b := trueAt x u d) ⟨hb.1, hb.2.1⟩ hat
      omega
theorem truth_anew {items : List Item} {certs : List Cert} {words : List Int} (hi : ∀ x ∈ items, x.ok = true) (hu : U16 words) {few : List Cert} (hs : ∀ c ∈ few, c ∈ certs.map (anew items words)) : TruthOf items few (trueBy items words) := by
  have hit : ∀ i : Int, (itemOf items i).ok = true ∨ itemOf items i = default := fun i => by
    unfold itemOf
    by_cases h : i.toNat < items.length
    · left; simp only [List.getD_eq_getElem?_getD, List.getElem?_eq_getElem h, Option.getD_some]; exact hi _ (List.getElem_mem h)
    · right; simp [List.getD_eq_getElem?_getD, List.getElem?_eq_none (Nat.le_of_not_lt h)]
  refine ⟨hi, fun i d => trueOf_wide _ _ _ (hit i), fun i h0 h1 hs d => ?_, fun i h0 h1 hs d d' _ hd _ => ?_, fun c hc => ?_⟩
  · have hv := item_ok hi h0 h1
    have e : trueBy items words i d = trueOf (itemOf items i) (wordOf words i.toNat) d := rfl
    rw [e]
    unfold trueOf
    rw [hs]
    simp only [if_true]
    have z1 := Int.emod_nonneg (wordOf words i.toNat) (show (itemOf items i).value.hi - (itemOf items i).value.lo + 1 ≠ 0 by omega)
    have z2 := Int.emod_lt_of_pos (wordOf words i.toNat) (show 0 < (itemOf items i).value.hi - (itemOf items i).value.lo + 1 by omega)
    omega
  · have hv := item_ok hi h0 h1
    exact trueOf_far (itemOf items i) (wordOf words i.toNat) d d' hv.1 hs hd
  · obtain ⟨c0, -, rfl⟩ := List.mem_map.1 (hs c hc)
    have b1 := wordOf_bd hu c0.number.toNat
    have b2 := wordOf_bd hu (c0.number.toNat + 1)
    simp only [anew]
    omega
end Go.Proofs.YthcolbjbafilcaaGreat
