/-
  Plain functions on books: what 'read' finds (no program in sight).
-/
import Derived.Test.YthcolbjbafilcaaGreatChainA
import Derived.Test.YthcolbjbafilcaaGreatMaps
set_option linter.unusedSimpArgs false
set_option linter.unusedVariables false
namespace Go.Proofs.YthcolbjbafilcaaGreat

def readLoop : List Cert → List (Int × Cert) → List Int → Option (List (Int × Cert) × List Int)
  | [], cm, ns => some (cm, ns)
  | c :: cs, cm, ns =>
    match cm.lookup c.number with
    | some old => if old = c then readLoop cs cm ns else none
    | none => readLoop cs (cm ++ [(c.number, c)]) (ns ++ [c.number])
theorem readLoop_append : ∀ (a b : List Cert) (cm : List (Int × Cert)) (ns : List Int),
    readLoop (a ++ b) cm ns = (readLoop a cm ns).bind fun p => readLoop b p.1 p.2
  | [], b, cm, ns => rfl
  | c :: a, b, cm, ns => by
    simp only [List.cons_append, readLoop]
    cases cm.lookup c.number with
    | none => exact readLoop_append a b _ _
    | some old =>
      by_cases h : old = c
      · simp only [h, if_true]; exact readLoop_append a b _ _
      · simp only [h, if_false]; rfl
def sortI (l : List Int) : List Int := l.mergeSort fun x y => decide (x ≤ y)
def certOf (cm : List (Int × Cert)) (n : Int) : Cert := (cm.lookup n).getD default
def daysUp (cm : List (Int × Cert)) (l : List Int) : Bool := (List.range (l.length - 1)).all fun i => decide ((certOf cm (l.getD i 0)).day ≤ (certOf cm (l.getD (i + 1) 0)).day)
def bookErr (items : List Item) (certs : List Cert) : Int :=
  if 8 < items.length ∨ 24 < certs.length then 3
  else if !(items.all Item.ok && certs.all (certOk items)) then 1
  else match readLoop certs [] [] with
    | none => 6
    | some (cm, ns) => if daysUp cm (sortI ns) then 0 else 6
theorem readLoop_len : ∀ (cs : List Cert) (cm : List (Int × Cert)) (ns : List Int) (cm' : List (Int × Cert)) (ns' : List Int), readLoop cs cm ns = some (cm', ns') → ns'.length ≤ ns.length + cs.length
  | [], cm, ns, cm', ns', h => by simp [readLoop] at h; simp [h.2]
  | c :: cs, cm, ns, cm', ns', h => by
    simp only [readLoop] at h
    cases hl : cm.lookup c.number with
    | none => rw [hl] at h; have := readLoop_len cs _ _ _ _ h; simp at this ⊢; omega
    | some old =>
      rw [hl] at h
      by_cases e : old = c
      · simp only [e, if_true] at h; have := readLoop_len cs _ _ _ _ h; simp at this ⊢; omega
      · simp [e] at h
theorem put_new {α : Type} : ∀ (l : List (Int × α)) (k : Int) (v : α), l.lookup k = none → put l k v = l ++ [(k, v)]
  | [], _, _, _ => rfl
  | (a, b) :: l, k, v, h => by
    simp only [List.lookup] at h
    by_cases e : k == a
    · simp [e] at h
    · have e' : (a == k) = false := by simp at e ⊢; exact fun x => e x.symm
      simp only [e] at h
      simp only [put, e', Bool.false_eq_true, if_false, List.cons_append, put_new l k v h]
theorem daysUp_false {cm : List (Int × Cert)} {l : List Int} {k : Nat} (h : k + 1 < l.length) (hd : (certOf cm (l.getD (k + 1) 0)).day < (certOf cm (l.getD k 0)).day) : daysUp cm l = false := by
  unfold daysUp
  rw [List.all_eq_false]
  exact ⟨k, by simp; omega, by simp only [decide_eq_true_eq]; omega⟩
theorem daysUp_true {cm : List (Int × Cert)} {l : List Int} (h : ∀ i, i + 1 < l.length → (certOf cm (l.getD i 0)).day ≤ (certOf cm (l.getD (i + 1) 0)).day) : daysUp cm l = true := by
  unfold daysUp
  rw [List.all_eq_true]
  intro i hi
  simp at hi
  simpa using h i (by omega)
end Go.Proofs.YthcolbjbafilcaaGreat
