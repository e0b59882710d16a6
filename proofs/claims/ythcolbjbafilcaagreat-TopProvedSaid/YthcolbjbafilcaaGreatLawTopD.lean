/-
  Plain law: TopLaw.
-/
import Derived.Test.YthcolbjbafilcaaGreatLawTopC
set_option linter.unusedSimpArgs false
set_option linter.unusedVariables false
namespace Go.Proofs.YthcolbjbafilcaaGreat
open Go.RowKit

theorem fewOf_mem (bits : Int) (M : List Cert) : ∀ k, ∀ c ∈ fewOf bits M k, c ∈ M
  | 0, _, h => h
  | k + 1, c, h => by
    unfold fewOf at h
    split at h
    · exact fewOf_mem bits M k c (List.mem_filter.1 h).1
    · exact fewOf_mem bits M k c h
theorem span_cut (l : List Block) (rd : Int) (h1 : -100000 ≤ (biasOf l).lo) (h2 : (biasOf l).lo ≤ (biasOf l).hi) (h3 : (biasOf l).hi ≤ 100000) (h4 : -1000000 ≤ rd ∧ rd ≤ 1000000) : spanH l rd = ⟨max 0 (rd - (biasOf l).hi), min 100000 (rd - (biasOf l).lo)⟩ := by
  have e1 : wi (rd - (biasOf l).hi) = rd - (biasOf l).hi := by unfold wi Go.RowKit.wrap64; omega
  have e2 : wi (rd - (biasOf l).lo) = rd - (biasOf l).lo := by unfold wi Go.RowKit.wrap64; omega
  unfold spanH
  rw [e1, e2]; rfl
theorem top_law {items : List Item} {certs : List Cert} {words : List Int} {bits D n X : Int} (hi : ∀ x ∈ items, x.ok = true) (hu : U16 words) (hfm : refFault items (certs.map (anew items words)) = 0) (hD : 0 ≤ D ∧ D ≤ 1000) (hn : -128 ≤ n ∧ n ≤ 127) (hX : 1000 ≤ X ∧ X ≤ 66535) :
    TopLaw items (certs.map (anew items words)) (fewOf bits (certs.map (anew items words)) 999) words D n X := by
  have TM := truth_anew (few := certs.map (anew items words)) hi hu (fun c h => h)
  have hsub := fewOf_mem bits (certs.map (anew items words)) 999
  have TF := truth_anew (few := fewOf bits (certs.map (anew items words)) 999) hi hu hsub
  have FM := Fine.of_fault hfm
  have FF := FM.sub hsub (fewOf_len bits _ 999)
  have hT : ∀ j : Nat, -1000000 ≤ trueOf (items.getD j default) (wordOf words j) D ∧ trueOf (items.getD j default) (wordOf words j) D ≤ 1000000 := fun j => TM.bound j D
  generalize fewOf bits (certs.map (anew items words)) 999 = F at *
  generalize certs.map (anew items words) = M at *
  obtain ⟨cmM, nsM, rM, RM, bM⟩ := FM.read
  obtain ⟨cmF, nsF, rF, RF, bF⟩ := FF.read
  have eM : ∀ j : Nat, j < items.length → spanErr items M j D = if heldOn items cmM (sortI nsM) j D then 0 else 10 := fun j hj => spanErr_fine FM TM rM RM bM hj hD
  have eF : ∀ j : Nat, j < items.length → spanErr items F j D = if heldOn items cmF (sortI nsF) j D then 0 else 10 := fun j hj => spanErr_fine FF TF rF RF bF hj hD
  have sM : ∀ j : Nat, j < items.length → spanErr items M j D = 0 → SpanIn (spanVal items M j D) (trueOf (items.getD j default) (wordOf words j) D) := fun j hj h0 => by
    rw [spanVal_fine rM h0]
    exact item_truth RM TM j D 1000 (by omega) (by omega) hD
  have sF : ∀ j : Nat, j < items.length → spanErr items F j D = 0 → SpanIn (spanVal items F j D) (trueOf (items.getD j default) (wordOf words j) D) := fun j hj h0 => by
    rw [spanVal_fine rF h0]
    exact item_truth RF TF j D 1000 (by omega) (by omega) hD
  have herr : ∀ j : Nat, j < items.length → spanErr items F j D = 0 → spanErr items M j D = 0 := fun j hj h0 => by
    rw [eF j hj] at h0
    rw [eM j hj]
    cases hh : heldOn items cmF (sortI nsF) j D with
    | false => rw [hh] at h0; simp at h0
    | true => rw [fewer_on RM RF hsub j D hh]; rfl
  have hin : ∀ j : Nat, j < items.length → spanErr items F j D = 0 → (spanVal items F j D).lo ≤ (spanVal items M j D).lo ∧ (spanVal items M j D).hi ≤ (spanVal items F j D).hi := fun j hj h0 => by
    rw [spanVal_fine rF h0, spanVal_fine rM (herr j hj h0)]
    exact fewer_item RM RF hsub TM TF j D (by omega) (by omega) hD
  have hF : ∀ j : Nat, j < items.length → spanErr items F j D = 0 → -1099511927776 ≤ (spanVal items F j D).lo ∧ (spanVal items F j D).hi ≤ 1099511927776 ∧ (spanVal items M j D).lo ≤ (spanVal items M j D).hi := fun j hj h0 => by
    obtain ⟨a1, a2, a3, a4⟩ := sF j hj h0
    obtain ⟨c1, c2, c3, c4⟩ := sM j hj (herr j hj h0)
    omega
  have HM := blocks_holds (words := words) (n := n) hn sM hT items.length (Nat.le_refl _)
  have HF := blocks_holds (words := words) (n := n) hn sF hT items.length (Nat.le_refl _)
  obtain ⟨hlen, hwide⟩ := blocks_fewer (words := words) (n := n) herr hin hF items.length (Nat.le_refl _)
  have iM := bias_iff n _ ⟨-100000, 100000⟩ HM
  have iF := bias_iff n _ ⟨-100000, 100000⟩ HF
  have errM : ∀ j : Nat, j < items.length → spanErr items M j D = 0 ∨ spanErr items M j D = 10 := fun j hj => by rw [eM j hj]; split <;> simp
  have errF : ∀ j : Nat, j < items.length → spanErr items F j D = 0 ∨ spanErr items F j D = 10 := fun j hj => by rw [eF j hj]; split <;> simp
  have fineM : (blocksTo items M words D n items.length).all Block.ok = true := by rw [List.all_eq_true]; exact fun b hb => block_ok (HM b hb)
  have fineF : (blocksTo items F words D n items.length).all Block.ok = true := by rw [List.all_eq_true]; exact fun b hb => block_ok (HF b hb)
  generalize hlM : blocksTo items M words D n items.length = lM at *
  generalize hlF : blocksTo items F words D n items.length = lF at *
  change (∀ m, (biasOf lM).lo ≤ m ↔ _) ∧ (∀ m, m ≤ (biasOf lM).hi ↔ _) at iM
  change (∀ m, (biasOf lF).lo ≤ m ↔ _) ∧ (∀ m, m ≤ (biasOf lF).hi ↔ _) at iF
  have hlo : (biasOf lM).lo ≤ n := (iM.1 n).2 ⟨by simp only; omega, fun b hb => by have := (HM b hb).h; omega⟩
  have hhi : n ≤ (biasOf lM).hi := (iM.2 n).2 ⟨by simp only; omega, fun b hb => by have := (HM b hb).l; omega⟩
  obtain ⟨m1, m2⟩ := (iM.1 _).1 (Int.le_refl _)
  obtain ⟨m3, m4⟩ := (iM.2 _).1 (Int.le_refl _)
  have f1 := ((iF.1 _).1 (Int.le_refl _)).1
  have f3 := ((iF.2 _).1 (Int.le_refl _)).1
  simp only at m1 m3 f1 f3
  have hloF : (biasOf lF).lo ≤ (biasOf lM).lo := (iF.1 _).2 ⟨m1, fun b hb => by
    obtain ⟨b', hb', w1, w2, w3⟩ := hwide b hb
    have := m2 b' hb'; omega⟩
  have hhiF : (biasOf lM).hi ≤ (biasOf lF).hi := (iF.2 _).2 ⟨m3, fun b hb => by
    obtain ⟨b', hb', w1, w2, w3⟩ := hwide b hb
    have := m4 b' hb'; omega⟩
  have cM := span_cut lM (X + n) m1 (by omega) m3 (by omega)
  have cF := span_cut lF (X + n) f1 (by omega) f3 (by omega)
  subst hlM hlF
  refine ⟨errM, errF, hlen, fineM, fineF, hlo, hhi, hloF, hhiF, ?_, ?_, ?_, ?_⟩ <;> simp only [cM, cF] <;> omega
end Go.Proofs.YthcolbjbafilcaaGreat
