/-
  Package chain, its data and tests: what within, valid, item, cert, and the generic functions over items and certificates return.
-/
import Derived.Test.YthcolbjbafilcaaGreatProg
import Derived.Test.YthcolbjbafilcaaGreatBase
import Derived.RangeFuncStops
import Derived.Deep.LoopGhost
import Derived.LoopTactic
import Derived.Shelf.Abstract
set_option linter.unusedSimpArgs false
set_option linter.unusedVariables false
namespace Go.Proofs.YthcolbjbafilcaaGreat
open Go.RowKit Go.Shelf

structure Rng where
  lo : Int
  hi : Int
  deriving DecidableEq, Inhabited
structure Item where
  drift : Int
  standard : Bool
  value : Rng
  deriving DecidableEq, Inhabited
structure Cert where
  number : Int
  item : Int
  by_ : Int
  day : Int
  valid : Int
  diff : Rng
  deriving DecidableEq, Inhabited
abbrev Rng.v (r : Rng) : Value := .agg #[I r.lo, I r.hi]
abbrev Rng.cells (r : Rng) : List Value := [I r.lo, I r.hi]
abbrev Item.cells (x : Item) : List Value := [I x.drift, .bool x.standard, I x.value.lo, I x.value.hi]
abbrev Item.v (x : Item) : Value := .agg #[I x.drift, .bool x.standard, I x.value.lo, I x.value.hi]
abbrev Cert.cells (c : Cert) : List Value := [I c.number, I c.item, I c.by_, I c.day, I c.valid, I c.diff.lo, I c.diff.hi]
abbrev Cert.v (c : Cert) : Value := .agg #[I c.number, I c.item, I c.by_, I c.day, I c.valid, I c.diff.lo, I c.diff.hi]
abbrev ItemsIs (ok : Nat → Prop) (w : World) (v : Value) (l : List Item) : Prop := SliceIs Item.cells 4 ok w v l
abbrev CertsIs (ok : Nat → Prop) (w : World) (v : Value) (l : List Cert) : Prop := SliceIs Cert.cells 7 ok w v l

theorem findIdx?_at {α : Type} {p : α → Bool} {l : List α} {j : Nat} (h : j < l.length) (hpre : ∀ x ∈ l.take j, p x = false) (hp : p l[j] = true) : l.findIdx? p = some j := by
  rw [List.findIdx?_eq_some_iff_getElem]
  refine ⟨h, hp, fun i hi => ?_⟩
  have := hpre l[i] (by rw [List.mem_take_iff_getElem]; exact ⟨i, by omega, rfl⟩)
  simpa using this
theorem findIdx?_none {α : Type} {p : α → Bool} {l : List α} (hpre : ∀ x ∈ l, p x = false) : l.findIdx? p = none := by
  rw [List.findIdx?_eq_none_iff]; exact hpre
theorem take_succ_all {α : Type} {p : α → Bool} {l : List α} {j : Nat} (h : j < l.length) (hpre : ∀ x ∈ l.take j, p x = false) (hp : p l[j] = false) : ∀ x ∈ l.take (j + 1), p x = false := by
  intro x hx
  rw [List.take_succ_eq_append_getElem h, List.mem_append] at hx
  rcases hx with hx | hx
  · exact hpre x hx
  · simp at hx; subst hx; exact hp
def idxI : Option Nat → Int
  | some j => j
  | none => -1
/-- What an IndexFunc returns. -/
def IdxPost (o : Option Nat) (n : Nat) (w : World) (e : Ending) (w' : World) : Prop := ∃ i : Int, e = .returned (I i) ∧ -1 ≤ i ∧ i ≤ n ∧ i = idxI o ∧ Below w.heap.size w w'
theorem any_of_findIdx {α : Type} {p : α → Bool} {l : List α} {i : Int} (h : i = idxI (l.findIdx? p)) : decide (0 ≤ i) = l.any p := by
  cases hf : l.findIdx? p with
  | none =>
    rw [hf] at h; subst h
    rw [List.findIdx?_eq_none_iff] at hf
    have : l.any p = false := by rw [List.any_eq_false]; intro x hx; simp [hf x hx]
    rw [this]; rfl
  | some j =>
    rw [hf] at h; subst h
    rw [List.findIdx?_eq_some_iff_getElem] at hf
    obtain ⟨h1, h2, _⟩ := hf
    have : l.any p = true := by rw [List.any_eq_true]; exact ⟨l[j], List.getElem_mem h1, h2⟩
    rw [this]; simp [idxI]
theorem any_not {α : Type} (l : List α) (p : α → Bool) : l.all p = !(l.any fun x => !p x) := by
  induction l with
  | nil => rfl
  | cons x l ih => simp [ih]

theorem ret_bool {a b : Bool} (h : a = b) : Ending.returned (.bool a) = .returned (.bool b) := by rw [h]
theorem ret_int {a b : Int} (h : a = b) : Ending.returned (I a) = .returned (I b) := by rw [h]

def inB (n lo hi : Int) : Bool := decide (lo ≤ n) && decide (n ≤ hi)
theorem within_any (n lo hi : Int) (w : World) :
    Calls Tryz.prog 118 #[I n, I lo, I hi] w fun e w' => e = .returned (.bool (inB n lo hi)) ∧ w = w' := by
  by_cases h1 : lo ≤ n
  · go_enter Tryz.func118, Tryz.ntmps118
    go_wp2
    go_ret
    exact ⟨by simp [h1, inB], rfl⟩
  · have h1' : decide (lo ≤ n) = false := by simpa using h1
    have Hd := Lib.hid h1'
    go_enter Tryz.func118, Tryz.ntmps118
    go_wp2
    go_ret
    exact ⟨by unfold inB; rw [Hd.out]; rfl, rfl⟩

/-! ### chain.Item -/
set_option maxHeartbeats 400000 in
theorem item_indexFunc (k : FuncId) (first cap : Array Value) (hent : ∀ args w, (callFunc k args).run Tryz.prog w = .ok (.enter k args) w) (p : Item → Bool) (l : List Item) (ok : Nat → Prop) (v : Value) (w : World)
   (hl : l.length ≤ 1000) (hv : SliceIs Item.cells 4 ok w v l)
   (hp : ∀ W, Below w.heap.size w W → ∀ x ∈ l, Calls Tryz.prog k (first.push (Item.v x) ++ cap) W fun e W' => e = .returned (.bool (p x)) ∧ Below W.heap.size W W') :
    Calls Tryz.prog 165 #[v, .func (.func k) first cap] w (IdxPost (l.findIdx? p) l.length w) := by
  obtain ⟨ad, c, rfl, hc, hr⟩ := hv
  go_enter Tryz.func165, Tryz.ntmps165
  go_wp2_with fail
  go_loopw [8] (fun i wr => ∃ j : Nat, j ≤ l.length ∧ i = I j ∧ (∀ x ∈ l.take j, p x = false) ∧ Below w.heap.size w wr) (fun i _ => l.length - (intOf i).toNat)
  case atStart => exact ⟨0, Nat.zero_le _, rfl, by simp, Below.refl _ _⟩
  case round =>
    obtain ⟨j, hj, rfl, hpre, hB⟩ := hrel
    by_cases hlt : j < l.length
    · obtain ⟨b, o, rfl, hok, hb, hrows⟩ := hr (by omega)
      have hrow := (hrows j l[j] (List.getElem?_eq_getElem hlt)).below hB hb
      clear hr hrows
      obtain ⟨e0, e1, e2, e3⟩ := hrow.four
      go_wp2_with fail
      refine (hp wr hB l[j] (List.getElem_mem hlt)).mono ?_
      rintro e w1 ⟨rfl, hB1⟩
      have hB2 : Below w.heap.size w w1 := below_from hB hB1
      have Htk := Lib.hid (List.take_succ_eq_append_getElem hlt)
      cases hpj : p l[j] with
      | true =>
        have hat : l.findIdx? p = some j := findIdx?_at hlt hpre hpj
        have Hat := Lib.hid hat
        clear hat
        go_wp2_with fail
        go_ret
        exact ⟨_, rfl, by omega, by omega, by rw [Hat.out]; rfl, hB2⟩
      | false =>
        go_wp2_with fail
        go_roundw
        case rel => exact ⟨j + 1, by omega, by go_num, take_succ_all hlt hpre hpj, hB2⟩
        case measure => simp [intOf]; omega
    · obtain rfl : j = l.length := by omega
      have Hat := Lib.hid (findIdx?_none (l := l) (by rw [List.take_length] at hpre; exact hpre))
      go_wp2
      go_ret
      exact ⟨-1, rfl, by omega, by omega, by rw [Hat.out]; rfl, hB⟩
set_option maxHeartbeats 400000 in
theorem item_containsFunc (k : FuncId) (first cap : Array Value) (hent : ∀ args w, (callFunc k args).run Tryz.prog w = .ok (.enter k args) w) (p : Item → Bool) (l : List Item) (ok : Nat → Prop) (v : Value) (w : World)
   (hl : l.length ≤ 1000) (hv : SliceIs Item.cells 4 ok w v l)
   (hp : ∀ W, Below w.heap.size w W → ∀ x ∈ l, Calls Tryz.prog k (first.push (Item.v x) ++ cap) W fun e W' => e = .returned (.bool (p x)) ∧ Below W.heap.size W W') :
    Calls Tryz.prog 150 #[v, .func (.func k) first cap] w fun e w' => e = .returned (.bool (l.any p)) ∧ Below w.heap.size w w' := by
  obtain ⟨ad, c, rfl, hc, hr⟩ := hv
  go_enter Tryz.func150, Tryz.ntmps150
  go_wp2_with fail
  refine (item_indexFunc k first cap hent p l ok _ w hl ⟨ad, c, rfl, hc, hr⟩ hp).mono ?_
  rintro e w' ⟨i, rfl, h1, h2, h3, hB⟩
  clear hr hp
  have Hx := Lib.hid (any_of_findIdx (p := p) (l := l) h3)
  clear h3
  go_wp2_with fail
  go_ret
  exact ⟨ret_bool Hx.out, hB⟩

set_option maxHeartbeats 400000 in
theorem item_all1 (k : FuncId) (first cap : Array Value) (hent : ∀ args w, (callFunc k args).run Tryz.prog w = .ok (.enter k args) w) (q : Bool) (x : Item) (bx : Nat) (w : World)
   (hbx : w.cell? ⟨bx, 0, none⟩ = some (.func (.func k) first cap))
   (hp : ∀ W, Below w.heap.size w W → Calls Tryz.prog k (first.push (Item.v x) ++ cap) W fun e W' => e = .returned (.bool q) ∧ Below W.heap.size W W') :
    Calls Tryz.prog 151 #[Item.v x, .pointer (some ⟨bx, 0, none⟩)] w fun e w' => e = .returned (.bool (!q)) ∧ Below w.heap.size w w' := by
  have hlt : bx < w.heap.size := World.block_lt_of_cell? w _ hbx
  go_enter Tryz.func151, Tryz.ntmps151
  go_wp2_with fail
  refine (hp _ ((Below.refl _ _).alloc (Nat.le_refl _) _)).mono ?_
  rintro e w1 ⟨rfl, hB⟩
  cases q <;> (go_wp2_with fail; go_ret; exact ⟨rfl, below_from ((Below.refl _ _).alloc (Nat.le_refl _) _) hB⟩)
set_option maxHeartbeats 400000 in
theorem item_all (k : FuncId) (first cap : Array Value) (hent : ∀ args w, (callFunc k args).run Tryz.prog w = .ok (.enter k args) w) (p : Item → Bool) (l : List Item) (ok : Nat → Prop) (v : Value) (w : World)
   (hl : l.length ≤ 1000) (hv : SliceIs Item.cells 4 ok w v l)
   (hp : ∀ W, Below w.heap.size w W → ∀ x ∈ l, Calls Tryz.prog k (first.push (Item.v x) ++ cap) W fun e W' => e = .returned (.bool (p x)) ∧ Below W.heap.size W W') :
    Calls Tryz.prog 113 #[v, .func (.func k) first cap] w fun e w' => e = .returned (.bool (l.all p)) ∧ Below w.heap.size w w' := by
  obtain ⟨ad, c, rfl, hc, hr⟩ := hv
  have hmf : ∀ (fn : Fn) (first cap : Array Value) (w : World), (Instr.makeFunc fn first cap).run Tryz.prog w = .ok (.func fn first cap) w := fun _ _ _ _ => rfl
  have hent1 : ∀ args w, (callFunc 151 args).run Tryz.prog w = .ok (.enter 151 args) w := enters_of Tryz.func151 (by kernel_rfl) rfl
  have hsl : SliceIs Item.cells 4 ok w (.slice ad l.length c) l := ⟨ad, c, rfl, hc, hr⟩
  have HB : Below w.heap.size w (w.alloc (.cells #[.func (.func k) first cap] 228)) := (Below.refl _ _).alloc (Nat.le_refl _) _
  have hbox : (w.alloc (.cells #[.func (.func k) first cap] 228)).cell? ⟨w.heap.size, 0, none⟩ = some (.func (.func k) first cap) := by simp
  have hcon := item_containsFunc 151 #[] #[.pointer (some ⟨w.heap.size, 0, none⟩)] hent1 (fun x => !p x) l ok _ _ hl (hsl.below HB)
    (fun W hW x hx => by
      have hW' : Below w.heap.size w W := below_from HB hW
      have hb' : W.cell? ⟨w.heap.size, 0, none⟩ = some (.func (.func k) first cap) := (hW.cell (p := ⟨w.heap.size, 0, none⟩) (by simp)).trans hbox
      exact item_all1 k first cap hent (p x) x w.heap.size W hb' (fun W2 hW2 => hp W2 (below_from hW' hW2) x hx))
  clear hp hr hsl hbox
  have Hc := Lib.hid hcon
  clear hcon
  go_enter Tryz.func113, Tryz.ntmps113
  go_wp2_with fail
  refine Hc.out.mono ?_
  rintro e w1 ⟨rfl, hB⟩
  have Hx := Lib.hid (any_not l p)
  have HBB := below_from HB hB
  clear HB hB Hc
  cases hq : l.any (fun x => !p x)
  all_goals
    go_wp2_with fail
    go_ret
    exact ⟨by rw [Hx.out, hq]; rfl, HBB⟩

/-! ### chain.Cert -/
set_option maxHeartbeats 400000 in
theorem cert_indexFunc (k : FuncId) (first cap : Array Value) (hent : ∀ args w, (callFunc k args).run Tryz.prog w = .ok (.enter k args) w) (p : Cert → Bool) (l : List Cert) (ok : Nat → Prop) (v : Value) (w : World)
   (hl : l.length ≤ 1000) (hv : SliceIs Cert.cells 7 ok w v l)
   (hp : ∀ W, Below w.heap.size w W → ∀ x ∈ l, Calls Tryz.prog k (first.push (Cert.v x) ++ cap) W fun e W' => e = .returned (.bool (p x)) ∧ Below W.heap.size W W') :
    Calls Tryz.prog 167 #[v, .func (.func k) first cap] w (IdxPost (l.findIdx? p) l.length w) := by
  obtain ⟨ad, c, rfl, hc, hr⟩ := hv
  go_enter Tryz.func167, Tryz.ntmps167
  go_wp2_with fail
  go_loopw [8] (fun i wr => ∃ j : Nat, j ≤ l.length ∧ i = I j ∧ (∀ x ∈ l.take j, p x = false) ∧ Below w.heap.size w wr) (fun i _ => l.length - (intOf i).toNat)
  case atStart => exact ⟨0, Nat.zero_le _, rfl, by simp, Below.refl _ _⟩
  case round =>
    obtain ⟨j, hj, rfl, hpre, hB⟩ := hrel
    by_cases hlt : j < l.length
    · obtain ⟨b, o, rfl, hok, hb, hrows⟩ := hr (by omega)
      have hrow := (hrows j l[j] (List.getElem?_eq_getElem hlt)).below hB hb
      clear hr hrows
      obtain ⟨e0, e1, e2, e3, e4, e5, e6⟩ := hrow.seven
      go_wp2_with fail
      refine (hp wr hB l[j] (List.getElem_mem hlt)).mono ?_
      rintro e w1 ⟨rfl, hB1⟩
      have hB2 : Below w.heap.size w w1 := below_from hB hB1
      have Htk := Lib.hid (List.take_succ_eq_append_getElem hlt)
      cases hpj : p l[j] with
      | true =>
        have hat : l.findIdx? p = some j := findIdx?_at hlt hpre hpj
        have Hat := Lib.hid hat
        clear hat
        go_wp2_with fail
        go_ret
        exact ⟨_, rfl, by omega, by omega, by rw [Hat.out]; rfl, hB2⟩
      | false =>
        go_wp2_with fail
        go_roundw
        case rel => exact ⟨j + 1, by omega, by go_num, take_succ_all hlt hpre hpj, hB2⟩
        case measure => simp [intOf]; omega
    · obtain rfl : j = l.length := by omega
      have Hat := Lib.hid (findIdx?_none (l := l) (by rw [List.take_length] at hpre; exact hpre))
      go_wp2
      go_ret
      exact ⟨-1, rfl, by omega, by omega, by rw [Hat.out]; rfl, hB⟩
set_option maxHeartbeats 400000 in
theorem cert_containsFunc (k : FuncId) (first cap : Array Value) (hent : ∀ args w, (callFunc k args).run Tryz.prog w = .ok (.enter k args) w) (p : Cert → Bool) (l : List Cert) (ok : Nat → Prop) (v : Value) (w : World)
   (hl : l.length ≤ 1000) (hv : SliceIs Cert.cells 7 ok w v l)
   (hp : ∀ W, Below w.heap.size w W → ∀ x ∈ l, Calls Tryz.prog k (first.push (Cert.v x) ++ cap) W fun e W' => e = .returned (.bool (p x)) ∧ Below W.heap.size W W') :
    Calls Tryz.prog 153 #[v, .func (.func k) first cap] w fun e w' => e = .returned (.bool (l.any p)) ∧ Below w.heap.size w w' := by
  obtain ⟨ad, c, rfl, hc, hr⟩ := hv
  go_enter Tryz.func153, Tryz.ntmps153
  go_wp2_with fail
  refine (cert_indexFunc k first cap hent p l ok _ w hl ⟨ad, c, rfl, hc, hr⟩ hp).mono ?_
  rintro e w' ⟨i, rfl, h1, h2, h3, hB⟩
  clear hr hp
  have Hx := Lib.hid (any_of_findIdx (p := p) (l := l) h3)
  clear h3
  go_wp2_with fail
  go_ret
  exact ⟨ret_bool Hx.out, hB⟩

set_option maxHeartbeats 400000 in
theorem cert_all1 (k : FuncId) (first cap : Array Value) (hent : ∀ args w, (callFunc k args).run Tryz.prog w = .ok (.enter k args) w) (q : Bool) (x : Cert) (bx : Nat) (w : World)
   (hbx : w.cell? ⟨bx, 0, none⟩ = some (.func (.func k) first cap))
   (hp : ∀ W, Below w.heap.size w W → Calls Tryz.prog k (first.push (Cert.v x) ++ cap) W fun e W' => e = .returned (.bool q) ∧ Below W.heap.size W W') :
    Calls Tryz.prog 154 #[Cert.v x, .pointer (some ⟨bx, 0, none⟩)] w fun e w' => e = .returned (.bool (!q)) ∧ Below w.heap.size w w' := by
  have hlt : bx < w.heap.size := World.block_lt_of_cell? w _ hbx
  go_enter Tryz.func154, Tryz.ntmps154
  go_wp2_with fail
  refine (hp _ ((Below.refl _ _).alloc (Nat.le_refl _) _)).mono ?_
  rintro e w1 ⟨rfl, hB⟩
  cases q <;> (go_wp2_with fail; go_ret; exact ⟨rfl, below_from ((Below.refl _ _).alloc (Nat.le_refl _) _) hB⟩)
set_option maxHeartbeats 400000 in
theorem cert_all (k : FuncId) (first cap : Array Value) (hent : ∀ args w, (callFunc k args).run Tryz.prog w = .ok (.enter k args) w) (p : Cert → Bool) (l : List Cert) (ok : Nat → Prop) (v : Value) (w : World)
   (hl : l.length ≤ 1000) (hv : SliceIs Cert.cells 7 ok w v l)
   (hp : ∀ W, Below w.heap.size w W → ∀ x ∈ l, Calls Tryz.prog k (first.push (Cert.v x) ++ cap) W fun e W' => e = .returned (.bool (p x)) ∧ Below W.heap.size W W') :
    Calls Tryz.prog 115 #[v, .func (.func k) first cap] w fun e w' => e = .returned (.bool (l.all p)) ∧ Below w.heap.size w w' := by
  obtain ⟨ad, c, rfl, hc, hr⟩ := hv
  have hmf : ∀ (fn : Fn) (first cap : Array Value) (w : World), (Instr.makeFunc fn first cap).run Tryz.prog w = .ok (.func fn first cap) w := fun _ _ _ _ => rfl
  have hent1 : ∀ args w, (callFunc 154 args).run Tryz.prog w = .ok (.enter 154 args) w := enters_of Tryz.func154 (by kernel_rfl) rfl
  have hsl : SliceIs Cert.cells 7 ok w (.slice ad l.length c) l := ⟨ad, c, rfl, hc, hr⟩
  have HB : Below w.heap.size w (w.alloc (.cells #[.func (.func k) first cap] 206)) := (Below.refl _ _).alloc (Nat.le_refl _) _
  have hbox : (w.alloc (.cells #[.func (.func k) first cap] 206)).cell? ⟨w.heap.size, 0, none⟩ = some (.func (.func k) first cap) := by simp
  have hcon := cert_containsFunc 154 #[] #[.pointer (some ⟨w.heap.size, 0, none⟩)] hent1 (fun x => !p x) l ok _ _ hl (hsl.below HB)
    (fun W hW x hx => by
      have hW' : Below w.heap.size w W := below_from HB hW
      have hb' : W.cell? ⟨w.heap.size, 0, none⟩ = some (.func (.func k) first cap) := (hW.cell (p := ⟨w.heap.size, 0, none⟩) (by simp)).trans hbox
      exact cert_all1 k first cap hent (p x) x w.heap.size W hb' (fun W2 hW2 => hp W2 (below_from hW' hW2) x hx))
  clear hp hr hsl hbox
  have Hc := Lib.hid hcon
  clear hcon
  go_enter Tryz.func115, Tryz.ntmps115
  go_wp2_with fail
  refine Hc.out.mono ?_
  rintro e w1 ⟨rfl, hB⟩
  have Hx := Lib.hid (any_not l p)
  have HBB := below_from HB hB
  clear HB hB Hc
  cases hq : l.any (fun x => !p x)
  all_goals
    go_wp2_with fail
    go_ret
    exact ⟨by rw [Hx.out, hq]; rfl, HBB⟩

theorem day_any (n : Int) (w : World) : Calls Tryz.prog 78 #[I n] w fun e w' => e = .returned (.bool (inB n 0 1000)) ∧ w = w' := by
  go_enter Tryz.func78, Tryz.ntmps78
  go_wp2_with (go_at_call 118; refine (within_any _ _ _ _).mono ?_; rintro e w' ⟨rfl, rfl⟩)
  go_ret
  exact ⟨rfl, rfl⟩
theorem number_any (n : Int) (w : World) : Calls Tryz.prog 155 #[I n] w fun e w' => e = .returned (.bool (inB n 1 999)) ∧ w = w' := by
  go_enter Tryz.func155, Tryz.ntmps155
  go_wp2_with (go_at_call 118; refine (within_any _ _ _ _).mono ?_; rintro e w' ⟨rfl, rfl⟩)
  go_ret
  exact ⟨rfl, rfl⟩
theorem value_any (n : Int) (w : World) : Calls Tryz.prog 166 #[I n] w fun e w' => e = .returned (.bool (inB n (-100000) 100000)) ∧ w = w' := by
  go_enter Tryz.func166, Tryz.ntmps166
  go_wp2_with (go_at_call 118; refine (within_any _ _ _ _).mono ?_; rintro e w' ⟨rfl, rfl⟩)
  go_ret
  exact ⟨rfl, rfl⟩
def Rng.ok (r : Rng) : Bool := inB r.lo (-100000) 100000 && inB r.hi (-100000) 100000 && decide (r.lo ≤ r.hi)
set_option maxHeartbeats 400000 in
theorem rvalid_any (r : Rng) (w : World) :
    Calls Tryz.prog 152 #[r.v] w fun e w' => e = .returned (.bool r.ok) ∧ Below w.heap.size w w' := by
  obtain ⟨lo, hi⟩ := r
  go_enter Tryz.func152, Tryz.ntmps152
  go_wp2_with (go_at_call 166; refine (value_any _ _).mono ?_; rintro e w' ⟨rfl, rfl⟩)
  all_goals
    go_ret
    exact ⟨by simp_all [Rng.ok], (Below.refl _ _).alloc (Nat.le_refl _) _⟩
theorem eql_rng (a b c d : Int) (w : World) : (binOp .eql 96 (.agg #[I a, I b]) (.agg #[I c, I d])).run Tryz.prog w = .ok (.bool (a == c && b == d)) w := by
  rw [run_eql_struct]
  simp [go_sem]
  by_cases h0 : a = c <;> by_cases h1 : b = d <;> simp [h0, h1]
theorem eqlIn_cert (a0 a1 a2 a3 a4 a5 a6 b0 b1 b2 b3 b4 b5 b6 : Int) (w : World) : (Op.equalIn 10000 171 (.agg #[I a0, I a1, I a2, I a3, I a4, I a5, I a6]) (.agg #[I b0, I b1, I b2, I b3, I b4, I b5, I b6])).run Tryz.prog w = .ok (a0 == b0 && a1 == b1 && a2 == b2 && a3 == b3 && a4 == b4 && a5 == b5 && a6 == b6) w := by
  simp [go_sem]
  by_cases h0 : a0 = b0 <;> simp [h0]
  by_cases h1 : a1 = b1 <;> simp [h1]
  by_cases h2 : a2 = b2 <;> simp [h2]
  by_cases h3 : a3 = b3 <;> simp [h3]
  by_cases h4 : a4 = b4 <;> simp [h4]
  by_cases h5 : a5 = b5 <;> simp [h5]
  by_cases h6 : a6 = b6 <;> simp [h6]
theorem neq_cert (a0 a1 a2 a3 a4 a5 a6 b0 b1 b2 b3 b4 b5 b6 : Int) (w : World) : (binOp .neq 171 (.agg #[I a0, I a1, I a2, I a3, I a4, I a5, I a6]) (.agg #[I b0, I b1, I b2, I b3, I b4, I b5, I b6])).run Tryz.prog w = .ok (.bool (!(a0 == b0 && a1 == b1 && a2 == b2 && a3 == b3 && a4 == b4 && a5 == b5 && a6 == b6))) w := by
  rw [run_neq_struct, eqlIn_cert]; rfl
theorem eql_cert (a0 a1 a2 a3 a4 a5 a6 b0 b1 b2 b3 b4 b5 b6 : Int) (w : World) : (binOp .eql 171 (.agg #[I a0, I a1, I a2, I a3, I a4, I a5, I a6]) (.agg #[I b0, I b1, I b2, I b3, I b4, I b5, I b6])).run Tryz.prog w = .ok (.bool (a0 == b0 && a1 == b1 && a2 == b2 && a3 == b3 && a4 == b4 && a5 == b5 && a6 == b6)) w := by
  rw [run_eql_struct, eqlIn_cert]; rfl
def Item.ok (x : Item) : Bool := inB x.drift 0 100 && x.value.ok && (x.standard || (x.value.lo == 0 && x.value.hi == 0))
set_option maxHeartbeats 400000 in
theorem ivalid_any (x : Item) (w : World) :
    Calls Tryz.prog 114 #[x.v] w fun e w' => e = .returned (.bool x.ok) ∧ Below w.heap.size w w' := by
  obtain ⟨d, st, ⟨lo, hi⟩⟩ := x
  have hq := eql_rng
  go_enter Tryz.func114, Tryz.ntmps114
  go_wp2_with fail
  refine (within_any _ _ _ _).mono ?_
  rintro e w' ⟨rfl, rfl⟩
  cases h1 : inB d 0 100 with
  | false =>
    go_wp2_with fail
    go_ret
    exact ⟨by simp [Item.ok, h1], (Below.refl _ _).alloc (Nat.le_refl _) _⟩
  | true =>
    go_wp2_with fail
    refine (rvalid_any ⟨lo, hi⟩ _).mono ?_
    rintro e w1 ⟨rfl, hB1⟩
    have hB : Below w.heap.size w w1 := below_from ((Below.refl _ _).alloc (Nat.le_refl _) _) hB1
    obtain ⟨hc, hf⟩ := bcell hB1
    cases h2 : (Rng.mk lo hi).ok with
    | false =>
      go_wp2_with fail
      go_ret
      exact ⟨by simp [Item.ok, h1, h2], hB⟩
    | true =>
      cases st with
      | true =>
        go_wp2_with fail
        go_ret
        exact ⟨by simp [Item.ok, h1, h2], hB⟩
      | false =>
        go_wp2_with fail
        go_ret
        exact ⟨by simp [Item.ok, h1, h2], hB⟩
set_option maxHeartbeats 400000 in
theorem bitem_any (vi vc : Value) (items : List Item) (ok : Nat → Prop) (n : Int) (w : World) (hl : items.length ≤ 1000) (hi : ItemsIs ok w vi items) :
    Calls Tryz.prog 77 #[.agg #[vi, vc], I n] w fun e w' => e = .returned (.bool (inB n 0 (items.length - 1))) ∧ Below w.heap.size w w' := by
  obtain ⟨ad, c, rfl, hc, hr⟩ := hi
  clear hr
  go_enter Tryz.func77, Tryz.ntmps77
  go_wp2_with (go_at_call 118; refine (within_any _ _ _ _).mono ?_; rintro e w' ⟨rfl, rfl⟩)
  go_ret
  exact ⟨rfl, (Below.refl _ _).alloc (Nat.le_refl _) _⟩
def certOk (items : List Item) (c : Cert) : Bool :=
  inB c.number 1 999 && inB c.item 0 (items.length - 1) && !(items.getD c.item.toNat default).standard && inB c.by_ 0 (items.length - 1) && !(c.by_ == c.item) && inB c.day 0 1000 && inB c.valid 0 1000 && c.diff.ok
set_option maxHeartbeats 1000000 in
theorem bcert_any (vi vc : Value) (items : List Item) (ok : Nat → Prop) (c : Cert) (w : World) (hl : items.length ≤ 1000) (hi : ItemsIs ok w vi items) :
    Calls Tryz.prog 116 #[.agg #[vi, vc], c.v] w fun e w' => e = .returned (.bool (certOk items c)) ∧ Below w.heap.size w w' := by
  obtain ⟨n, it, by_, d, v, ⟨lo, hi'⟩⟩ := c
  have hi0 := hi
  obtain ⟨ad, cc, rfl, hc, hr⟩ := hi
  go_enter Tryz.func116, Tryz.ntmps116
  go_wp2_with fail
  refine (number_any _ _).mono ?_
  rintro e w' ⟨rfl, rfl⟩
  have HB0 : Below w.heap.size w ((w.alloc (.cells #[.slice ad items.length cc, vc] 104)).alloc (.cells #[I n, I it, I by_, I d, I v, I lo, I hi'] 171)) := ((Below.refl _ _).alloc (Nat.le_refl _) _).alloc (by simp) _
  cases h1 : inB n 1 999 with
  | false =>
    go_wp2_with fail
    go_ret
    exact ⟨by simp [certOk, h1], HB0⟩
  | true =>
  go_wp2_with fail
  refine (bitem_any _ _ items ok _ _ hl (hi0.below HB0)).mono ?_
  rintro e w1 ⟨rfl, hB1⟩
  have HB1 := below_from HB0 hB1
  obtain ⟨hc1, hf1⟩ := bcell hB1
  have hz1 : w.heap.size + 1 < w1.heap.size := by have := hB1.size; simp at this; omega
  cases h2 : inB it 0 (items.length - 1) with
  | false =>
    go_wp2_with fail
    go_ret
    exact ⟨by simp [certOk, h1, h2], HB1⟩
  | true =>
  have hit : 0 ≤ it ∧ it ≤ items.length - 1 := by simpa [inB] using h2
  obtain ⟨b, o, rfl, hok, hb, hrows⟩ := hr (by omega)
  obtain ⟨m, rfl⟩ := Int.eq_ofNat_of_zero_le hit.1
  have hm : m < items.length := by omega
  have hrow := (hrows m items[m] (List.getElem?_eq_getElem hm)).below HB1 hb
  obtain ⟨-, e1, -⟩ := hrow.four
  have hgd : items.getD m default = items[m] := by simp [hm]
  have Hgd := Lib.hid hgd
  clear hgd hrow hrows
  cases h3 : items[m].standard with
  | true =>
    go_wp2_with fail
    go_ret
    exact ⟨by simp only [certOk, h1, h2, Int.toNat_natCast]; rw [Hgd.out, h3]; simp, HB1⟩
  | false =>
  go_wp2_with fail
  refine (bitem_any _ _ items ok _ _ hl (hi0.below HB1)).mono ?_
  rintro e w2 ⟨rfl, hB2⟩
  have HB2 := below_from HB1 hB2
  obtain ⟨hc2, hf2⟩ := bcell hB2
  have hz2 : w.heap.size + 1 < w2.heap.size := by have := hB2.size; omega
  cases h4 : inB by_ 0 (items.length - 1) with
  | false =>
    go_wp2_with fail
    go_ret
    exact ⟨by simp [certOk, h4], HB2⟩
  | true =>
  cases h5 : (by_ == (m : Int)) with
  | true =>
    have h5' : (by_ != (m : Int)) = false := by simpa using h5
    go_wp2_with fail
    go_ret
    exact ⟨by simp only [certOk, h5]; simp, HB2⟩
  | false =>
  have h5' : (by_ != (m : Int)) = true := by simpa using h5
  go_wp2_with fail
  refine (day_any _ _).mono ?_
  rintro e w3 ⟨rfl, rfl⟩
  cases h6 : inB d 0 1000 with
  | false =>
    go_wp2_with fail
    go_ret
    exact ⟨by simp [certOk, h6], HB2⟩
  | true =>
  go_wp2_with fail
  refine (day_any _ _).mono ?_
  rintro e w3 ⟨rfl, rfl⟩
  cases h7 : inB v 0 1000 with
  | false =>
    go_wp2_with fail
    go_ret
    exact ⟨by simp [certOk, h7], HB2⟩
  | true =>
  go_wp2_with fail
  refine (rvalid_any ⟨lo, hi'⟩ _).mono ?_
  rintro e w3 ⟨rfl, hB3⟩
  have HB3 := below_from HB2 hB3
  cases h8 : (Rng.mk lo hi').ok with
  | false =>
    go_wp2_with fail
    go_ret
    exact ⟨by simp [certOk, h8], HB3⟩
  | true =>
    go_wp2_with fail
    go_ret
    exact ⟨by simp only [certOk, h1, h2, h4, h5, h6, h7, h8, Int.toNat_natCast]; rw [Hgd.out, h3]; simp, HB3⟩
end Go.Proofs.YthcolbjbafilcaaGreat
