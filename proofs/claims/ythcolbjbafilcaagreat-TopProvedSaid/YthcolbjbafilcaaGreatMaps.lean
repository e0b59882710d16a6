/-
  Maps that the program makes: what a lookup and a store do, over keys of any kind that can be found.
-/
import Derived.Test.YthcolbjbafilcaaGreatBase
import Derived.Maps.Own
set_option linter.unusedSimpArgs false
set_option linter.unusedVariables false
namespace Go.Proofs.YthcolbjbafilcaaGreat
open Go.RowKit

/-- How keys of a type lie, and that they can be found. -/
structure KeyOk {κ : Type} [DecidableEq κ] (P : Program) (K : TypeId) (kv : κ → Value) : Prop where
  check : ∀ e a w, (Instr.checkKey e 10000 K (kv a)).run P w = .ok () w
  find : ∀ (es : List MapEntry) (ks : List κ) a w, es.map (·.key) = ks.map kv → (Instr.findKey K (kv a) es).run P w = .ok ((ks.findIdx? (· == a)).map fun i => (i, (es.getD i default).val)) w
  same : ∀ a b, (a == b) = true → Instr.sameBits 10000 (kv a) (kv b) = true

/-- Block r is a map that reads as l. -/
def MapIs {κ α : Type} (kv : κ → Value) (enc : α → Value) (w : World) (r : Nat) (l : List (κ × α)) : Prop :=
  ∃ es clock, w.heap[r]? = some (.map es clock) ∧ es.toList.map (fun e => (e.key, e.val)) = l.map fun p => (kv p.1, enc p.2)
def put {κ α : Type} [DecidableEq κ] : List (κ × α) → κ → α → List (κ × α)
  | [], k, v => [(k, v)]
  | (k', v') :: t, k, v => if k' == k then (k, v) :: t else (k', v') :: put t k v
theorem lookup_put {κ α : Type} [DecidableEq κ] (l : List (κ × α)) (k k' : κ) (v : α) : (put l k v).lookup k' = if k' == k then some v else l.lookup k' := by
  induction l with
  | nil => simp only [put, List.lookup]; split <;> simp_all
  | cons p l ih =>
    obtain ⟨a, b⟩ := p
    unfold put
    by_cases h : a == k
    · have : a = k := by simpa using h
      subst this
      simp only [h, if_true, List.lookup]
      by_cases h2 : k' == a <;> simp [h2]
    · by_cases h2 : k' == a
      · have e : k' = a := by simpa using h2
        subst e
        simp [h]
      · have h2' : (k' == a) = false := by simpa using h2
        simp only [h, if_false, List.lookup, h2', Bool.false_eq_true, ih]
/-- The world behind a store into a map. -/
def _root_.Go.World.putMap (w : World) (r : Nat) (o : Obj) : World := { w with heap := w.heap.setIfInBounds r o }
@[go_sem, simp] theorem size_putMap (w : World) (r : Nat) (o : Obj) : (w.putMap r o).heap.size = w.heap.size := by simp [World.putMap]
theorem heap_putMap (w : World) (r : Nat) (o : Obj) (k : Nat) (h : k ≠ r) : (w.putMap r o).heap[k]? = w.heap[k]? := by simp [World.putMap, Array.getElem?_setIfInBounds, Ne.symm h]
theorem heap_putMap_same (w : World) (r : Nat) (o : Obj) (h : r < w.heap.size) : (w.putMap r o).heap[r]? = some o := by simp [World.putMap, h]
theorem kept_putMap (w : World) (r : Nat) (o : Obj) : Kept (· = r) w (w.putMap r o) := ⟨rfl, rfl, rfl, by simp, fun i _ hi => heap_putMap _ _ _ _ hi⟩
theorem below_putMap {B : Nat} {w0 w : World} (h : Below B w0 w) {r : Nat} (hr : B ≤ r) (o : Obj) : Below B w0 (w.putMap r o) :=
  ⟨h.os, h.tape, h.output, by simpa using h.size, fun k hk => by rw [heap_putMap _ _ _ _ (by omega)]; exact h.block k hk⟩
/-- the entries behind a store -/
def entsPut (es : Array MapEntry) (clock : Nat) (i : Option Nat) (k v : Value) : Obj :=
  match i with
  | some i => .map (es.modify i fun e => { e with key := k, val := v }) clock
  | none => .map (es.push { key := k, val := v, born := clock }) (clock + 1)
section
variable {κ α : Type} {P : Program} {T K E : TypeId} {kv : κ → Value} {enc : α → Value} {w : World} {r : Nat} {l : List (κ × α)}
theorem MapIs.kept {S : Nat → Prop} {w' : World} (h : MapIs kv enc w r l) (hk : Kept S w w') (hs : ¬ S r) : MapIs kv enc w' r l := by
  obtain ⟨es, clock, h1, h2⟩ := h
  exact ⟨es, clock, (hk.block r (Array.getElem?_eq_some_iff.1 h1).1 hs).trans h1, h2⟩
theorem MapIs.below {w' : World} (h : MapIs kv enc w r l) (hB : Below w.heap.size w w') : MapIs kv enc w' r l := h.kept (S := fun _ => False) (Kept.below hB) (fun x => x)
theorem MapIs.lt (h : MapIs kv enc w r l) : r < w.heap.size := by
  obtain ⟨es, clock, h1, h2⟩ := h
  exact (Array.getElem?_eq_some_iff.1 h1).1
theorem MapIs.made (w : World) : MapIs kv enc (w.alloc (.map #[] 0)) w.heap.size ([] : List (κ × α)) := ⟨#[], 0, heap_new _ _ rfl, rfl⟩
theorem lookup_findIdx [DecidableEq κ] (a : κ) : ∀ (l : List (κ × α)), l.lookup a = ((l.map (·.1)).findIdx? (fun b => a == b)).bind fun i => (l[i]?).map (·.2)
  | [] => rfl
  | (k, v) :: l => by
    simp only [List.lookup, List.map_cons, List.findIdx?_cons]
    by_cases h : a == k
    · simp [h]
    · simp only [h, lookup_findIdx a l]
      cases (l.map (·.1)).findIdx? (fun b => a == b) <;> simp
theorem ents_keys {es : Array MapEntry} (h2 : es.toList.map (fun e => (e.key, e.val)) = l.map fun p => (kv p.1, enc p.2)) : es.toList.map (·.key) = (l.map (·.1)).map kv := by
  have := congrArg (List.map (·.1)) h2
  simpa [List.map_map, Function.comp_def] using this
theorem ents_val {es : Array MapEntry} (h2 : es.toList.map (fun e => (e.key, e.val)) = l.map fun p => (kv p.1, enc p.2)) (i : Nat) (p : κ × α) (hp : l[i]? = some p) : (es.toList.getD i default).val = enc p.2 := by
  have h3 := congrArg (fun m => m[i]?) h2
  simp only [List.getElem?_map, hp, Option.map_some] at h3
  cases he : es.toList[i]? with
  | none => rw [he] at h3; simp at h3
  | some e => rw [he] at h3; simp at h3; rw [List.getD_eq_getElem?_getD, he]; exact h3.2
/-- 'm[k]', 'v, ok := m[k]', in whatever world in which the block lies as it did. -/
theorem run_lookup [DecidableEq κ] (hK : KeyOk P K kv) (hT : P.underlying T = some (.map K E)) {z : α} (hz : ∀ w, (zeroValue E).run P w = .ok (enc z) w) (h : MapIs kv enc w r l) (a : κ) (W : World) (hW : W.heap[r]? = w.heap[r]?) :
    (Instr.lookup T (.map (some r)) (kv a) false).run P W = .ok (enc ((l.lookup a).getD z)) W ∧
    (Instr.lookup T (.map (some r)) (kv a) true).run P W = .ok (.tuple #[enc ((l.lookup a).getD z), .bool (l.lookup a).isSome]) W := by
  obtain ⟨es, clock, h1, h2⟩ := h
  rw [h1] at hW
  have hf := hK.find es.toList (l.map (·.1)) a W (ents_keys h2)
  have hc := hK.check es.isEmpty a W
  have hcomm : (fun b : κ => b == a) = fun b => a == b := by funext b; exact Bool.beq_comm
  rw [hcomm] at hf
  rw [lookup_findIdx]
  cases hi : (l.map (·.1)).findIdx? (fun b => a == b) with
  | none =>
    rw [hi] at hf
    simp only [Option.map_none] at hf
    constructor <;> simp [Instr.lookup, run_underlying hT, getObj, Sem.run, hW, hc, hf, hz, Result.andThen]
  | some i =>
    rw [hi] at hf
    simp only [Option.map_some] at hf
    have hlt : i < l.length := by have := (List.findIdx?_eq_some_iff_getElem.1 hi).1; simpa using this
    have hv := ents_val h2 i l[i] (List.getElem?_eq_getElem hlt)
    rw [hv] at hf
    constructor <;> simp [Instr.lookup, run_underlying hT, getObj, Sem.run, hW, hc, hf, hlt, Result.andThen]
theorem put_idx [DecidableEq κ] (a : κ) (x : α) : ∀ (l : List (κ × α)), put l a x = match (l.map (·.1)).findIdx? (fun b => b == a) with
    | some i => l.modify i (fun _ => (a, x))
    | none => l ++ [(a, x)]
  | [] => rfl
  | (k, v) :: l => by
    simp only [put, List.map_cons, List.findIdx?_cons]
    by_cases h : k == a
    · simp [h]
    · simp only [h, put_idx a x l]
      cases (l.map (·.1)).findIdx? (fun b => b == a) <;> simp
/-- 'm[k] = v': the object that lies in the map's block then. -/
theorem run_update [DecidableEq κ] (hK : KeyOk P K kv) (hT : P.underlying T = some (.map K E)) (h : MapIs kv enc w r l) (a : κ) (x : α) :
    ∃ o, (∀ W : World, W.heap[r]? = w.heap[r]? → (Instr.mapUpdate T (.map (some r)) (kv a) (enc x)).run P W = .ok () (W.putMap r o)) ∧ (∀ W : World, r < W.heap.size → MapIs kv enc (W.putMap r o) r (put l a x)) := by
  obtain ⟨es, clock, h1, h2⟩ := h
  have hf := fun W => hK.find es.toList (l.map (·.1)) a W (ents_keys h2)
  have hc := fun W => hK.check false a W
  cases hi : (l.map (·.1)).findIdx? (fun b => b == a) with
  | none =>
    refine ⟨.map (es.push { key := kv a, val := enc x, born := clock }) (clock + 1), fun W hW => ?_, fun W hW => ?_⟩
    · have hf := hf W
      rw [hi] at hf
      simp only [Option.map_none] at hf
      rw [h1] at hW
      simp [Instr.mapUpdate, run_underlying hT, getObj, setObj, Sem.run, hW, hc, hf, Result.andThen, World.putMap]
    · refine ⟨_, _, heap_putMap_same _ _ _ hW, ?_⟩
      rw [put_idx, hi]
      simp [h2]
  | some i =>
    have hlt : i < l.length := by have := (List.findIdx?_eq_some_iff_getElem.1 hi).1; simpa using this
    have hka : (l[i].1 == a) = true := by have := (List.findIdx?_eq_some_iff_getElem.1 hi).2.1; simpa using this
    have hes : es.toList.length = l.length := by have := congrArg List.length h2; simpa using this
    have hkey : ((es[i]?).map (·.key)).getD (kv a) = kv l[i].1 := by
      have h3 := congrArg (fun m => m[i]?) (ents_keys h2)
      have hlt' : i < es.size := by simpa using (hes ▸ hlt : i < es.toList.length)
      simp [hlt, hlt'] at h3
      simp [hlt', h3]
    refine ⟨.map (es.modify i fun e => { e with key := kv a, val := enc x }) clock, fun W hW => ?_, fun W hW => ?_⟩
    · have hf := hf W
      rw [hi] at hf
      simp only [Option.map_some] at hf
      rw [h1] at hW
      have hs := hK.same _ _ hka
      simp [Instr.mapUpdate, run_underlying hT, getObj, setObj, Sem.run, hW, hc, hf, hkey, Instr.keyThatStays, hs, Result.andThen, World.putMap]
    · refine ⟨_, _, heap_putMap_same _ _ _ hW, ?_⟩
      rw [put_idx, hi]
      apply List.ext_getElem?
      intro j
      have h3 := congrArg (fun m => m[j]?) h2
      simp only [List.getElem?_map] at h3
      simp only [List.getElem?_map, Array.toList_modify, List.getElem?_modify]
      by_cases hj : i = j
      · subst hj
        have hlt' : i < es.size := by simpa using (hes ▸ hlt : i < es.toList.length)
        simp [hlt, hlt']
      · simp [hj]
        simpa using h3
end
/-! ### keys: whole numbers -/
theorem findNow_int (a : Int) : ∀ (es : List MapEntry) (ks : List Int) (i : Nat), es.map (·.key) = ks.map I →
    Instr.findNow (.int .i64) (I a) es i = some ((ks.findIdx? (· == a)).map fun j => (i + j, (es.getD j default).val))
  | [], [], i, _ => rfl
  | [], _ :: _, _, h => by simp at h
  | _ :: _, [], _, h => by simp at h
  | e :: es, k :: ks, i, h => by
    simp only [List.map_cons, List.cons.injEq] at h
    have ih := findNow_int a es ks (i + 1) h.2
    simp only [Instr.findNow, h.1, Instr.sameNow, if_true, List.findIdx?_cons]
    by_cases hk : k == a
    · have : k = a := by simpa using hk
      subst this
      simp
    · have hk' : (a == k) = false := by simp at hk ⊢; exact fun e => hk e.symm
      simp only [hk, hk', Bool.false_eq_true, if_false, ih]
      cases ks.findIdx? (· == a) with
      | none => rfl
      | some j => simp; omega
theorem int_key {P : Program} {K : TypeId} (hk : P.underlying K = some (.int .i64)) : KeyOk P K I where
  check e a w := by
    have : ∀ n, (Instr.checkKey e (n + 1) K (I a)).run P w = .ok () w := by intro n; simp [Instr.checkKey, run_underlying hk]
    exact this 9999
  find es ks a w h := by
    simp only [Instr.findKey, Sem.run_bind, run_underlying hk, Result.andThen_ok]
    rw [findNow_int a es ks 0 h]
    simp
  same a b h := by
    have : a = b := by simpa using h
    subst this
    have : ∀ n, Instr.sameBits n (I a) (I a) = true := by intro n; cases n <;> simp [Instr.sameBits]
    exact this _
end Go.Proofs.YthcolbjbafilcaaGreat
