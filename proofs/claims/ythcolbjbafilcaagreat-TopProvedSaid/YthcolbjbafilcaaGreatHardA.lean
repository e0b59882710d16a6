/-
  Package hard, its data and tests, and the generic functions over tables, machines, blocks and readings.
-/
import Derived.Test.YthcolbjbafilcaaGreatSpanA
set_option linter.unusedSimpArgs false
set_option linter.unusedVariables false
namespace Go.Proofs.YthcolbjbafilcaaGreat
open Go.RowKit Go.Shelf

structure Block where
  value : Rng
  read : Int
  deriving DecidableEq, Inhabited
structure Mach where
  scale : Int
  vb : Value
  blocks : List Block
structure Tab where
  from_ : Int
  to_ : Int
  rows : Value
  breaks : Value
  err : Int
structure Rdg where
  machine : Int
  read : Int
  deriving DecidableEq, Inhabited
abbrev Block.cells (x : Block) : List Value := [I x.value.lo, I x.value.hi, I x.read]
abbrev Block.v (x : Block) : Value := .agg #[I x.value.lo, I x.value.hi, I x.read]
abbrev Mach.cells (x : Mach) : List Value := [I x.scale, x.vb]
abbrev Mach.v (x : Mach) : Value := .agg #[I x.scale, x.vb]
abbrev Tab.cells (x : Tab) : List Value := [I x.from_, I x.to_, x.rows, x.breaks, I x.err]
abbrev Tab.v (x : Tab) : Value := .agg #[I x.from_, I x.to_, x.rows, x.breaks, I x.err]
abbrev Rdg.cells (x : Rdg) : List Value := [I x.machine, I x.read]
abbrev Rdg.v (x : Rdg) : Value := .agg #[I x.machine, I x.read]
abbrev BlocksIs (ok : Nat → Prop) (w : World) (v : Value) (l : List Block) : Prop := SliceIs Block.cells 3 ok w v l
abbrev MachsIs (ok : Nat → Prop) (w : World) (v : Value) (l : List Mach) : Prop := SliceIs Mach.cells 2 ok w v l
abbrev TabsIs (ok : Nat → Prop) (w : World) (v : Value) (l : List Tab) : Prop := SliceIs Tab.cells 5 ok w v l
abbrev RdgsIs (ok : Nat → Prop) (w : World) (v : Value) (l : List Rdg) : Prop := SliceIs Rdg.cells 2 ok w v l
abbrev RngsIs (ok : Nat → Prop) (w : World) (v : Value) (l : List Rng) : Prop := SliceIs Rng.cells 2 ok w v l

/-! ### hard.Table -/
set_option maxHeartbeats 400000 in
theorem htab_indexFunc (k : FuncId) (first cap : Array Value) (hent : ∀ args w, (callFunc k args).run Tryz.prog w = .ok (.enter k args) w) (p : Tab → Bool) (l : List Tab) (ok : Nat → Prop) (v : Value) (w : World)
   (hl : l.length ≤ 1000) (hv : SliceIs Tab.cells 5 ok w v l)
   (hp : ∀ W, Below w.heap.size w W → ∀ x ∈ l, Calls Tryz.prog k (first.push (Tab.v x) ++ cap) W fun e W' => e = .returned (.bool (p x)) ∧ Below W.heap.size W W') :
    Calls Tryz.prog 125 #[v, .func (.func k) first cap] w (IdxPost (l.findIdx? p) l.length w) := by
  obtain ⟨ad, c, rfl, hc, hr⟩ := hv
  go_enter Tryz.func125, Tryz.ntmps125
  go_wp2_with fail
  go_loopw [8] (fun i wr => ∃ j : Nat, j ≤ l.length ∧ i = I j ∧ (∀ x ∈ l.take j, p x = false) ∧ Below w.heap.size w wr) (fun i _ => l.length - (intOf i).toNat)
  case atStart => exact ⟨0, Nat.zero_le _, rfl, by simp, Below.refl _ _⟩
  case round =>
    obtain ⟨j, hj, rfl, hpre, hB⟩ := hrel
    by_cases hlt : j < l.length
    · obtain ⟨b, o, rfl, hok, hb, hrows⟩ := hr (by omega)
      have hrow := (hrows j l[j] (List.getElem?_eq_getElem hlt)).below hB hb
      clear hr hrows
      obtain ⟨e0, e1, e2, e3, e4⟩ := hrow.five
      go_wp2_with fail
      refine (hp wr hB l[j] (List.getElem_mem hlt)).mono ?_
      rintro e w1 ⟨rfl, hB1⟩
      have hB2 : Below w.heap.size w w1 := below_from hB hB1
      have Htk := Lib.hid (List.take_succ_eq_append_getElem hlt)
      cases hpj : p l[j] with
      | true =>
        have hat : l.findIdx? p = some j := findIdx?_at hlt hpre hpj
        have Hat := Lib.hid hat
        clear hat
        go_wp2_with fail
        go_ret
        exact ⟨_, rfl, by omega, by omega, by rw [Hat.out]; rfl, hB2⟩
      | false =>
        go_wp2_with fail
        go_roundw
        case rel => exact ⟨j + 1, by omega, by go_num, take_succ_all hlt hpre hpj, hB2⟩
        case measure => simp [intOf]; omega
    · obtain rfl : j = l.length := by omega
      have Hat := Lib.hid (findIdx?_none (l := l) (by rw [List.take_length] at hpre; exact hpre))
      go_wp2
      go_ret
      exact ⟨-1, rfl, by omega, by omega, by rw [Hat.out]; rfl, hB⟩
set_option maxHeartbeats 400000 in
theorem htab_containsFunc (k : FuncId) (first cap : Array Value) (hent : ∀ args w, (callFunc k args).run Tryz.prog w = .ok (.enter k args) w) (p : Tab → Bool) (l : List Tab) (ok : Nat → Prop) (v : Value) (w : World)
   (hl : l.length ≤ 1000) (hv : SliceIs Tab.cells 5 ok w v l)
   (hp : ∀ W, Below w.heap.size w W → ∀ x ∈ l, Calls Tryz.prog k (first.push (Tab.v x) ++ cap) W fun e W' => e = .returned (.bool (p x)) ∧ Below W.heap.size W W') :
    Calls Tryz.prog 87 #[v, .func (.func k) first cap] w fun e w' => e = .returned (.bool (l.any p)) ∧ Below w.heap.size w w' := by
  obtain ⟨ad, c, rfl, hc, hr⟩ := hv
  go_enter Tryz.func87, Tryz.ntmps87
  go_wp2_with fail
  refine (htab_indexFunc k first cap hent p l ok _ w hl ⟨ad, c, rfl, hc, hr⟩ hp).mono ?_
  rintro e w' ⟨i, rfl, h1, h2, h3, hB⟩
  clear hr hp
  have Hx := Lib.hid (any_of_findIdx (p := p) (l := l) h3)
  clear h3
  go_wp2_with fail
  go_ret
  exact ⟨ret_bool Hx.out, hB⟩

set_option maxHeartbeats 400000 in
theorem htab_all1 (k : FuncId) (first cap : Array Value) (hent : ∀ args w, (callFunc k args).run Tryz.prog w = .ok (.enter k args) w) (q : Bool) (x : Tab) (bx : Nat) (w : World)
   (hbx : w.cell? ⟨bx, 0, none⟩ = some (.func (.func k) first cap))
   (hp : ∀ W, Below w.heap.size w W → Calls Tryz.prog k (first.push (Tab.v x) ++ cap) W fun e W' => e = .returned (.bool q) ∧ Below W.heap.size W W') :
    Calls Tryz.prog 88 #[Tab.v x, .pointer (some ⟨bx, 0, none⟩)] w fun e w' => e = .returned (.bool (!q)) ∧ Below w.heap.size w w' := by
  have hlt : bx < w.heap.size := World.block_lt_of_cell? w _ hbx
  go_enter Tryz.func88, Tryz.ntmps88
  go_wp2_with fail
  refine (hp _ ((Below.refl _ _).alloc (Nat.le_refl _) _)).mono ?_
  rintro e w1 ⟨rfl, hB⟩
  cases q <;> (go_wp2_with fail; go_ret; exact ⟨rfl, below_from ((Below.refl _ _).alloc (Nat.le_refl _) _) hB⟩)
set_option maxHeartbeats 400000 in
theorem htab_all (k : FuncId) (first cap : Array Value) (hent : ∀ args w, (callFunc k args).run Tryz.prog w = .ok (.enter k args) w) (p : Tab → Bool) (l : List Tab) (ok : Nat → Prop) (v : Value) (w : World)
   (hl : l.length ≤ 1000) (hv : SliceIs Tab.cells 5 ok w v l)
   (hp : ∀ W, Below w.heap.size w W → ∀ x ∈ l, Calls Tryz.prog k (first.push (Tab.v x) ++ cap) W fun e W' => e = .returned (.bool (p x)) ∧ Below W.heap.size W W') :
    Calls Tryz.prog 51 #[v, .func (.func k) first cap] w fun e w' => e = .returned (.bool (l.all p)) ∧ Below w.heap.size w w' := by
  obtain ⟨ad, c, rfl, hc, hr⟩ := hv
  have hmf : ∀ (fn : Fn) (first cap : Array Value) (w : World), (Instr.makeFunc fn first cap).run Tryz.prog w = .ok (.func fn first cap) w := fun _ _ _ _ => rfl
  have hent1 : ∀ args w, (callFunc 88 args).run Tryz.prog w = .ok (.enter 88 args) w := enters_of Tryz.func88 (by kernel_rfl) rfl
  have hsl : SliceIs Tab.cells 5 ok w (.slice ad l.length c) l := ⟨ad, c, rfl, hc, hr⟩
  have HB : Below w.heap.size w (w.alloc (.cells #[.func (.func k) first cap] 173)) := (Below.refl _ _).alloc (Nat.le_refl _) _
  have hbox : (w.alloc (.cells #[.func (.func k) first cap] 173)).cell? ⟨w.heap.size, 0, none⟩ = some (.func (.func k) first cap) := by simp
  have hcon := htab_containsFunc 88 #[] #[.pointer (some ⟨w.heap.size, 0, none⟩)] hent1 (fun x => !p x) l ok _ _ hl (hsl.below HB)
    (fun W hW x hx => by
      have hW' : Below w.heap.size w W := below_from HB hW
      have hb' : W.cell? ⟨w.heap.size, 0, none⟩ = some (.func (.func k) first cap) := (hW.cell (p := ⟨w.heap.size, 0, none⟩) (by simp)).trans hbox
      exact htab_all1 k first cap hent (p x) x w.heap.size W hb' (fun W2 hW2 => hp W2 (below_from hW' hW2) x hx))
  clear hp hr hsl hbox
  have Hc := Lib.hid hcon
  clear hcon
  go_enter Tryz.func51, Tryz.ntmps51
  go_wp2_with fail
  refine Hc.out.mono ?_
  rintro e w1 ⟨rfl, hB⟩
  have Hx := Lib.hid (any_not l p)
  have HBB := below_from HB hB
  clear HB hB Hc
  cases hq : l.any (fun x => !p x)
  all_goals
    go_wp2_with fail
    go_ret
    exact ⟨by rw [Hx.out, hq]; rfl, HBB⟩

/-! ### hard.Machine -/
set_option maxHeartbeats 400000 in
theorem hmach_indexFunc (k : FuncId) (first cap : Array Value) (hent : ∀ args w, (callFunc k args).run Tryz.prog w = .ok (.enter k args) w) (p : Mach → Bool) (l : List Mach) (ok : Nat → Prop) (v : Value) (w : World)
   (hl : l.length ≤ 1000) (hv : SliceIs Mach.cells 2 ok w v l)
   (hp : ∀ W, Below w.heap.size w W → ∀ x ∈ l, Calls Tryz.prog k (first.push (Mach.v x) ++ cap) W fun e W' => e = .returned (.bool (p x)) ∧ Below W.heap.size W W') :
    Calls Tryz.prog 126 #[v, .func (.func k) first cap] w (IdxPost (l.findIdx? p) l.length w) := by
  obtain ⟨ad, c, rfl, hc, hr⟩ := hv
  go_enter Tryz.func126, Tryz.ntmps126
  go_wp2_with fail
  go_loopw [8] (fun i wr => ∃ j : Nat, j ≤ l.length ∧ i = I j ∧ (∀ x ∈ l.take j, p x = false) ∧ Below w.heap.size w wr) (fun i _ => l.length - (intOf i).toNat)
  case atStart => exact ⟨0, Nat.zero_le _, rfl, by simp, Below.refl _ _⟩
  case round =>
    obtain ⟨j, hj, rfl, hpre, hB⟩ := hrel
    by_cases hlt : j < l.length
    · obtain ⟨b, o, rfl, hok, hb, hrows⟩ := hr (by omega)
      have hrow := (hrows j l[j] (List.getElem?_eq_getElem hlt)).below hB hb
      clear hr hrows
      obtain ⟨e0, e1⟩ := hrow.two
      go_wp2_with fail
      refine (hp wr hB l[j] (List.getElem_mem hlt)).mono ?_
      rintro e w1 ⟨rfl, hB1⟩
      have hB2 : Below w.heap.size w w1 := below_from hB hB1
      have Htk := Lib.hid (List.take_succ_eq_append_getElem hlt)
      cases hpj : p l[j] with
      | true =>
        have hat : l.findIdx? p = some j := findIdx?_at hlt hpre hpj
        have Hat := Lib.hid hat
        clear hat
        go_wp2_with fail
        go_ret
        exact ⟨_, rfl, by omega, by omega, by rw [Hat.out]; rfl, hB2⟩
      | false =>
        go_wp2_with fail
        go_roundw
        case rel => exact ⟨j + 1, by omega, by go_num, take_succ_all hlt hpre hpj, hB2⟩
        case measure => simp [intOf]; omega
    · obtain rfl : j = l.length := by omega
      have Hat := Lib.hid (findIdx?_none (l := l) (by rw [List.take_length] at hpre; exact hpre))
      go_wp2
      go_ret
      exact ⟨-1, rfl, by omega, by omega, by rw [Hat.out]; rfl, hB⟩
set_option maxHeartbeats 400000 in
theorem hmach_containsFunc (k : FuncId) (first cap : Array Value) (hent : ∀ args w, (callFunc k args).run Tryz.prog w = .ok (.enter k args) w) (p : Mach → Bool) (l : List Mach) (ok : Nat → Prop) (v : Value) (w : World)
   (hl : l.length ≤ 1000) (hv : SliceIs Mach.cells 2 ok w v l)
   (hp : ∀ W, Below w.heap.size w W → ∀ x ∈ l, Calls Tryz.prog k (first.push (Mach.v x) ++ cap) W fun e W' => e = .returned (.bool (p x)) ∧ Below W.heap.size W W') :
    Calls Tryz.prog 89 #[v, .func (.func k) first cap] w fun e w' => e = .returned (.bool (l.any p)) ∧ Below w.heap.size w w' := by
  obtain ⟨ad, c, rfl, hc, hr⟩ := hv
  go_enter Tryz.func89, Tryz.ntmps89
  go_wp2_with fail
  refine (hmach_indexFunc k first cap hent p l ok _ w hl ⟨ad, c, rfl, hc, hr⟩ hp).mono ?_
  rintro e w' ⟨i, rfl, h1, h2, h3, hB⟩
  clear hr hp
  have Hx := Lib.hid (any_of_findIdx (p := p) (l := l) h3)
  clear h3
  go_wp2_with fail
  go_ret
  exact ⟨ret_bool Hx.out, hB⟩

set_option maxHeartbeats 400000 in
theorem hmach_all1 (k : FuncId) (first cap : Array Value) (hent : ∀ args w, (callFunc k args).run Tryz.prog w = .ok (.enter k args) w) (q : Bool) (x : Mach) (bx : Nat) (w : World)
   (hbx : w.cell? ⟨bx, 0, none⟩ = some (.func (.func k) first cap))
   (hp : ∀ W, Below w.heap.size w W → Calls Tryz.prog k (first.push (Mach.v x) ++ cap) W fun e W' => e = .returned (.bool q) ∧ Below W.heap.size W W') :
    Calls Tryz.prog 90 #[Mach.v x, .pointer (some ⟨bx, 0, none⟩)] w fun e w' => e = .returned (.bool (!q)) ∧ Below w.heap.size w w' := by
  have hlt : bx < w.heap.size := World.block_lt_of_cell? w _ hbx
  go_enter Tryz.func90, Tryz.ntmps90
  go_wp2_with fail
  refine (hp _ ((Below.refl _ _).alloc (Nat.le_refl _) _)).mono ?_
  rintro e w1 ⟨rfl, hB⟩
  cases q <;> (go_wp2_with fail; go_ret; exact ⟨rfl, below_from ((Below.refl _ _).alloc (Nat.le_refl _) _) hB⟩)
set_option maxHeartbeats 400000 in
theorem hmach_all (k : FuncId) (first cap : Array Value) (hent : ∀ args w, (callFunc k args).run Tryz.prog w = .ok (.enter k args) w) (p : Mach → Bool) (l : List Mach) (ok : Nat → Prop) (v : Value) (w : World)
   (hl : l.length ≤ 1000) (hv : SliceIs Mach.cells 2 ok w v l)
   (hp : ∀ W, Below w.heap.size w W → ∀ x ∈ l, Calls Tryz.prog k (first.push (Mach.v x) ++ cap) W fun e W' => e = .returned (.bool (p x)) ∧ Below W.heap.size W W') :
    Calls Tryz.prog 53 #[v, .func (.func k) first cap] w fun e w' => e = .returned (.bool (l.all p)) ∧ Below w.heap.size w w' := by
  obtain ⟨ad, c, rfl, hc, hr⟩ := hv
  have hmf : ∀ (fn : Fn) (first cap : Array Value) (w : World), (Instr.makeFunc fn first cap).run Tryz.prog w = .ok (.func fn first cap) w := fun _ _ _ _ => rfl
  have hent1 : ∀ args w, (callFunc 90 args).run Tryz.prog w = .ok (.enter 90 args) w := enters_of Tryz.func90 (by kernel_rfl) rfl
  have hsl : SliceIs Mach.cells 2 ok w (.slice ad l.length c) l := ⟨ad, c, rfl, hc, hr⟩
  have HB : Below w.heap.size w (w.alloc (.cells #[.func (.func k) first cap] 175)) := (Below.refl _ _).alloc (Nat.le_refl _) _
  have hbox : (w.alloc (.cells #[.func (.func k) first cap] 175)).cell? ⟨w.heap.size, 0, none⟩ = some (.func (.func k) first cap) := by simp
  have hcon := hmach_containsFunc 90 #[] #[.pointer (some ⟨w.heap.size, 0, none⟩)] hent1 (fun x => !p x) l ok _ _ hl (hsl.below HB)
    (fun W hW x hx => by
      have hW' : Below w.heap.size w W := below_from HB hW
      have hb' : W.cell? ⟨w.heap.size, 0, none⟩ = some (.func (.func k) first cap) := (hW.cell (p := ⟨w.heap.size, 0, none⟩) (by simp)).trans hbox
      exact hmach_all1 k first cap hent (p x) x w.heap.size W hb' (fun W2 hW2 => hp W2 (below_from hW' hW2) x hx))
  clear hp hr hsl hbox
  have Hc := Lib.hid hcon
  clear hcon
  go_enter Tryz.func53, Tryz.ntmps53
  go_wp2_with fail
  refine Hc.out.mono ?_
  rintro e w1 ⟨rfl, hB⟩
  have Hx := Lib.hid (any_not l p)
  have HBB := below_from HB hB
  clear HB hB Hc
  cases hq : l.any (fun x => !p x)
  all_goals
    go_wp2_with fail
    go_ret
    exact ⟨by rw [Hx.out, hq]; rfl, HBB⟩

/-! ### hard.Block -/
set_option maxHeartbeats 400000 in
theorem hblock_indexFunc (k : FuncId) (first cap : Array Value) (hent : ∀ args w, (callFunc k args).run Tryz.prog w = .ok (.enter k args) w) (p : Block → Bool) (l : List Block) (ok : Nat → Prop) (v : Value) (w : World)
   (hl : l.length ≤ 1000) (hv : SliceIs Block.cells 3 ok w v l)
   (hp : ∀ W, Below w.heap.size w W → ∀ x ∈ l, Calls Tryz.prog k (first.push (Block.v x) ++ cap) W fun e W' => e = .returned (.bool (p x)) ∧ Below W.heap.size W W') :
    Calls Tryz.prog 160 #[v, .func (.func k) first cap] w (IdxPost (l.findIdx? p) l.length w) := by
  obtain ⟨ad, c, rfl, hc, hr⟩ := hv
  go_enter Tryz.func160, Tryz.ntmps160
  go_wp2_with fail
  go_loopw [8] (fun i wr => ∃ j : Nat, j ≤ l.length ∧ i = I j ∧ (∀ x ∈ l.take j, p x = false) ∧ Below w.heap.size w wr) (fun i _ => l.length - (intOf i).toNat)
  case atStart => exact ⟨0, Nat.zero_le _, rfl, by simp, Below.refl _ _⟩
  case round =>
    obtain ⟨j, hj, rfl, hpre, hB⟩ := hrel
    by_cases hlt : j < l.length
    · obtain ⟨b, o, rfl, hok, hb, hrows⟩ := hr (by omega)
      have hrow := (hrows j l[j] (List.getElem?_eq_getElem hlt)).below hB hb
      clear hr hrows
      obtain ⟨e0, e1, e2⟩ := hrow.three
      go_wp2_with fail
      refine (hp wr hB l[j] (List.getElem_mem hlt)).mono ?_
      rintro e w1 ⟨rfl, hB1⟩
      have hB2 : Below w.heap.size w w1 := below_from hB hB1
      have Htk := Lib.hid (List.take_succ_eq_append_getElem hlt)
      cases hpj : p l[j] with
      | true =>
        have hat : l.findIdx? p = some j := findIdx?_at hlt hpre hpj
        have Hat := Lib.hid hat
        clear hat
        go_wp2_with fail
        go_ret
        exact ⟨_, rfl, by omega, by omega, by rw [Hat.out]; rfl, hB2⟩
      | false =>
        go_wp2_with fail
        go_roundw
        case rel => exact ⟨j + 1, by omega, by go_num, take_succ_all hlt hpre hpj, hB2⟩
        case measure => simp [intOf]; omega
    · obtain rfl : j = l.length := by omega
      have Hat := Lib.hid (findIdx?_none (l := l) (by rw [List.take_length] at hpre; exact hpre))
      go_wp2
      go_ret
      exact ⟨-1, rfl, by omega, by omega, by rw [Hat.out]; rfl, hB⟩
set_option maxHeartbeats 400000 in
theorem hblock_containsFunc (k : FuncId) (first cap : Array Value) (hent : ∀ args w, (callFunc k args).run Tryz.prog w = .ok (.enter k args) w) (p : Block → Bool) (l : List Block) (ok : Nat → Prop) (v : Value) (w : World)
   (hl : l.length ≤ 1000) (hv : SliceIs Block.cells 3 ok w v l)
   (hp : ∀ W, Below w.heap.size w W → ∀ x ∈ l, Calls Tryz.prog k (first.push (Block.v x) ++ cap) W fun e W' => e = .returned (.bool (p x)) ∧ Below W.heap.size W W') :
    Calls Tryz.prog 131 #[v, .func (.func k) first cap] w fun e w' => e = .returned (.bool (l.any p)) ∧ Below w.heap.size w w' := by
  obtain ⟨ad, c, rfl, hc, hr⟩ := hv
  go_enter Tryz.func131, Tryz.ntmps131
  go_wp2_with fail
  refine (hblock_indexFunc k first cap hent p l ok _ w hl ⟨ad, c, rfl, hc, hr⟩ hp).mono ?_
  rintro e w' ⟨i, rfl, h1, h2, h3, hB⟩
  clear hr hp
  have Hx := Lib.hid (any_of_findIdx (p := p) (l := l) h3)
  clear h3
  go_wp2_with fail
  go_ret
  exact ⟨ret_bool Hx.out, hB⟩

set_option maxHeartbeats 400000 in
theorem hblock_all1 (k : FuncId) (first cap : Array Value) (hent : ∀ args w, (callFunc k args).run Tryz.prog w = .ok (.enter k args) w) (q : Bool) (x : Block) (bx : Nat) (w : World)
   (hbx : w.cell? ⟨bx, 0, none⟩ = some (.func (.func k) first cap))
   (hp : ∀ W, Below w.heap.size w W → Calls Tryz.prog k (first.push (Block.v x) ++ cap) W fun e W' => e = .returned (.bool q) ∧ Below W.heap.size W W') :
    Calls Tryz.prog 132 #[Block.v x, .pointer (some ⟨bx, 0, none⟩)] w fun e w' => e = .returned (.bool (!q)) ∧ Below w.heap.size w w' := by
  have hlt : bx < w.heap.size := World.block_lt_of_cell? w _ hbx
  go_enter Tryz.func132, Tryz.ntmps132
  go_wp2_with fail
  refine (hp _ ((Below.refl _ _).alloc (Nat.le_refl _) _)).mono ?_
  rintro e w1 ⟨rfl, hB⟩
  cases q <;> (go_wp2_with fail; go_ret; exact ⟨rfl, below_from ((Below.refl _ _).alloc (Nat.le_refl _) _) hB⟩)
set_option maxHeartbeats 400000 in
theorem hblock_all (k : FuncId) (first cap : Array Value) (hent : ∀ args w, (callFunc k args).run Tryz.prog w = .ok (.enter k args) w) (p : Block → Bool) (l : List Block) (ok : Nat → Prop) (v : Value) (w : World)
   (hl : l.length ≤ 1000) (hv : SliceIs Block.cells 3 ok w v l)
   (hp : ∀ W, Below w.heap.size w W → ∀ x ∈ l, Calls Tryz.prog k (first.push (Block.v x) ++ cap) W fun e W' => e = .returned (.bool (p x)) ∧ Below W.heap.size W W') :
    Calls Tryz.prog 96 #[v, .func (.func k) first cap] w fun e w' => e = .returned (.bool (l.all p)) ∧ Below w.heap.size w w' := by
  obtain ⟨ad, c, rfl, hc, hr⟩ := hv
  have hmf : ∀ (fn : Fn) (first cap : Array Value) (w : World), (Instr.makeFunc fn first cap).run Tryz.prog w = .ok (.func fn first cap) w := fun _ _ _ _ => rfl
  have hent1 : ∀ args w, (callFunc 132 args).run Tryz.prog w = .ok (.enter 132 args) w := enters_of Tryz.func132 (by kernel_rfl) rfl
  have hsl : SliceIs Block.cells 3 ok w (.slice ad l.length c) l := ⟨ad, c, rfl, hc, hr⟩
  have HB : Below w.heap.size w (w.alloc (.cells #[.func (.func k) first cap] 214)) := (Below.refl _ _).alloc (Nat.le_refl _) _
  have hbox : (w.alloc (.cells #[.func (.func k) first cap] 214)).cell? ⟨w.heap.size, 0, none⟩ = some (.func (.func k) first cap) := by simp
  have hcon := hblock_containsFunc 132 #[] #[.pointer (some ⟨w.heap.size, 0, none⟩)] hent1 (fun x => !p x) l ok _ _ hl (hsl.below HB)
    (fun W hW x hx => by
      have hW' : Below w.heap.size w W := below_from HB hW
      have hb' : W.cell? ⟨w.heap.size, 0, none⟩ = some (.func (.func k) first cap) := (hW.cell (p := ⟨w.heap.size, 0, none⟩) (by simp)).trans hbox
      exact hblock_all1 k first cap hent (p x) x w.heap.size W hb' (fun W2 hW2 => hp W2 (below_from hW' hW2) x hx))
  clear hp hr hsl hbox
  have Hc := Lib.hid hcon
  clear hcon
  go_enter Tryz.func96, Tryz.ntmps96
  go_wp2_with fail
  refine Hc.out.mono ?_
  rintro e w1 ⟨rfl, hB⟩
  have Hx := Lib.hid (any_not l p)
  have HBB := below_from HB hB
  clear HB hB Hc
  cases hq : l.any (fun x => !p x)
  all_goals
    go_wp2_with fail
    go_ret
    exact ⟨by rw [Hx.out, hq]; rfl, HBB⟩

/-! ### hard.Reading -/
set_option maxHeartbeats 400000 in
theorem hrdg_indexFunc (k : FuncId) (first cap : Array Value) (hent : ∀ args w, (callFunc k args).run Tryz.prog w = .ok (.enter k args) w) (p : Rdg → Bool) (l : List Rdg) (ok : Nat → Prop) (v : Value) (w : World)
   (hl : l.length ≤ 1000) (hv : SliceIs Rdg.cells 2 ok w v l)
   (hp : ∀ W, Below w.heap.size w W → ∀ x ∈ l, Calls Tryz.prog k (first.push (Rdg.v x) ++ cap) W fun e W' => e = .returned (.bool (p x)) ∧ Below W.heap.size W W') :
    Calls Tryz.prog 135 #[v, .func (.func k) first cap] w (IdxPost (l.findIdx? p) l.length w) := by
  obtain ⟨ad, c, rfl, hc, hr⟩ := hv
  go_enter Tryz.func135, Tryz.ntmps135
  go_wp2_with fail
  go_loopw [8] (fun i wr => ∃ j : Nat, j ≤ l.length ∧ i = I j ∧ (∀ x ∈ l.take j, p x = false) ∧ Below w.heap.size w wr) (fun i _ => l.length - (intOf i).toNat)
  case atStart => exact ⟨0, Nat.zero_le _, rfl, by simp, Below.refl _ _⟩
  case round =>
    obtain ⟨j, hj, rfl, hpre, hB⟩ := hrel
    by_cases hlt : j < l.length
    · obtain ⟨b, o, rfl, hok, hb, hrows⟩ := hr (by omega)
      have hrow := (hrows j l[j] (List.getElem?_eq_getElem hlt)).below hB hb
      clear hr hrows
      obtain ⟨e0, e1⟩ := hrow.two
      go_wp2_with fail
      refine (hp wr hB l[j] (List.getElem_mem hlt)).mono ?_
      rintro e w1 ⟨rfl, hB1⟩
      have hB2 : Below w.heap.size w w1 := below_from hB hB1
      have Htk := Lib.hid (List.take_succ_eq_append_getElem hlt)
      cases hpj : p l[j] with
      | true =>
        have hat : l.findIdx? p = some j := findIdx?_at hlt hpre hpj
        have Hat := Lib.hid hat
        clear hat
        go_wp2_with fail
        go_ret
        exact ⟨_, rfl, by omega, by omega, by rw [Hat.out]; rfl, hB2⟩
      | false =>
        go_wp2_with fail
        go_roundw
        case rel => exact ⟨j + 1, by omega, by go_num, take_succ_all hlt hpre hpj, hB2⟩
        case measure => simp [intOf]; omega
    · obtain rfl : j = l.length := by omega
      have Hat := Lib.hid (findIdx?_none (l := l) (by rw [List.take_length] at hpre; exact hpre))
      go_wp2
      go_ret
      exact ⟨-1, rfl, by omega, by omega, by rw [Hat.out]; rfl, hB⟩
set_option maxHeartbeats 400000 in
theorem hrdg_containsFunc (k : FuncId) (first cap : Array Value) (hent : ∀ args w, (callFunc k args).run Tryz.prog w = .ok (.enter k args) w) (p : Rdg → Bool) (l : List Rdg) (ok : Nat → Prop) (v : Value) (w : World)
   (hl : l.length ≤ 1000) (hv : SliceIs Rdg.cells 2 ok w v l)
   (hp : ∀ W, Below w.heap.size w W → ∀ x ∈ l, Calls Tryz.prog k (first.push (Rdg.v x) ++ cap) W fun e W' => e = .returned (.bool (p x)) ∧ Below W.heap.size W W') :
    Calls Tryz.prog 101 #[v, .func (.func k) first cap] w fun e w' => e = .returned (.bool (l.any p)) ∧ Below w.heap.size w w' := by
  obtain ⟨ad, c, rfl, hc, hr⟩ := hv
  go_enter Tryz.func101, Tryz.ntmps101
  go_wp2_with fail
  refine (hrdg_indexFunc k first cap hent p l ok _ w hl ⟨ad, c, rfl, hc, hr⟩ hp).mono ?_
  rintro e w' ⟨i, rfl, h1, h2, h3, hB⟩
  clear hr hp
  have Hx := Lib.hid (any_of_findIdx (p := p) (l := l) h3)
  clear h3
  go_wp2_with fail
  go_ret
  exact ⟨ret_bool Hx.out, hB⟩

set_option maxHeartbeats 400000 in
theorem hrdg_all1 (k : FuncId) (first cap : Array Value) (hent : ∀ args w, (callFunc k args).run Tryz.prog w = .ok (.enter k args) w) (q : Bool) (x : Rdg) (bx : Nat) (w : World)
   (hbx : w.cell? ⟨bx, 0, none⟩ = some (.func (.func k) first cap))
   (hp : ∀ W, Below w.heap.size w W → Calls Tryz.prog k (first.push (Rdg.v x) ++ cap) W fun e W' => e = .returned (.bool q) ∧ Below W.heap.size W W') :
    Calls Tryz.prog 102 #[Rdg.v x, .pointer (some ⟨bx, 0, none⟩)] w fun e w' => e = .returned (.bool (!q)) ∧ Below w.heap.size w w' := by
  have hlt : bx < w.heap.size := World.block_lt_of_cell? w _ hbx
  go_enter Tryz.func102, Tryz.ntmps102
  go_wp2_with fail
  refine (hp _ ((Below.refl _ _).alloc (Nat.le_refl _) _)).mono ?_
  rintro e w1 ⟨rfl, hB⟩
  cases q <;> (go_wp2_with fail; go_ret; exact ⟨rfl, below_from ((Below.refl _ _).alloc (Nat.le_refl _) _) hB⟩)
set_option maxHeartbeats 400000 in
theorem hrdg_all (k : FuncId) (first cap : Array Value) (hent : ∀ args w, (callFunc k args).run Tryz.prog w = .ok (.enter k args) w) (p : Rdg → Bool) (l : List Rdg) (ok : Nat → Prop) (v : Value) (w : World)
   (hl : l.length ≤ 1000) (hv : SliceIs Rdg.cells 2 ok w v l)
   (hp : ∀ W, Below w.heap.size w W → ∀ x ∈ l, Calls Tryz.prog k (first.push (Rdg.v x) ++ cap) W fun e W' => e = .returned (.bool (p x)) ∧ Below W.heap.size W W') :
    Calls Tryz.prog 60 #[v, .func (.func k) first cap] w fun e w' => e = .returned (.bool (l.all p)) ∧ Below w.heap.size w w' := by
  obtain ⟨ad, c, rfl, hc, hr⟩ := hv
  have hmf : ∀ (fn : Fn) (first cap : Array Value) (w : World), (Instr.makeFunc fn first cap).run Tryz.prog w = .ok (.func fn first cap) w := fun _ _ _ _ => rfl
  have hent1 : ∀ args w, (callFunc 102 args).run Tryz.prog w = .ok (.enter 102 args) w := enters_of Tryz.func102 (by kernel_rfl) rfl
  have hsl : SliceIs Rdg.cells 2 ok w (.slice ad l.length c) l := ⟨ad, c, rfl, hc, hr⟩
  have HB : Below w.heap.size w (w.alloc (.cells #[.func (.func k) first cap] 178)) := (Below.refl _ _).alloc (Nat.le_refl _) _
  have hbox : (w.alloc (.cells #[.func (.func k) first cap] 178)).cell? ⟨w.heap.size, 0, none⟩ = some (.func (.func k) first cap) := by simp
  have hcon := hrdg_containsFunc 102 #[] #[.pointer (some ⟨w.heap.size, 0, none⟩)] hent1 (fun x => !p x) l ok _ _ hl (hsl.below HB)
    (fun W hW x hx => by
      have hW' : Below w.heap.size w W := below_from HB hW
      have hb' : W.cell? ⟨w.heap.size, 0, none⟩ = some (.func (.func k) first cap) := (hW.cell (p := ⟨w.heap.size, 0, none⟩) (by simp)).trans hbox
      exact hrdg_all1 k first cap hent (p x) x w.heap.size W hb' (fun W2 hW2 => hp W2 (below_from hW' hW2) x hx))
  clear hp hr hsl hbox
  have Hc := Lib.hid hcon
  clear hcon
  go_enter Tryz.func60, Tryz.ntmps60
  go_wp2_with fail
  refine Hc.out.mono ?_
  rintro e w1 ⟨rfl, hB⟩
  have Hx := Lib.hid (any_not l p)
  have HBB := below_from HB hB
  clear HB hB Hc
  cases hq : l.any (fun x => !p x)
  all_goals
    go_wp2_with fail
    go_ret
    exact ⟨by rw [Hx.out, hq]; rfl, HBB⟩

/-! ### hard.Range -/
set_option maxHeartbeats 400000 in
theorem hrng_indexFunc (k : FuncId) (first cap : Array Value) (hent : ∀ args w, (callFunc k args).run Tryz.prog w = .ok (.enter k args) w) (p : Rng → Bool) (l : List Rng) (ok : Nat → Prop) (v : Value) (w : World)
   (hl : l.length ≤ 1000) (hv : SliceIs Rng.cells 2 ok w v l)
   (hp : ∀ W, Below w.heap.size w W → ∀ x ∈ l, Calls Tryz.prog k (first.push (Rng.v x) ++ cap) W fun e W' => e = .returned (.bool (p x)) ∧ Below W.heap.size W W') :
    Calls Tryz.prog 138 #[v, .func (.func k) first cap] w (IdxPost (l.findIdx? p) l.length w) := by
  obtain ⟨ad, c, rfl, hc, hr⟩ := hv
  go_enter Tryz.func138, Tryz.ntmps138
  go_wp2_with fail
  go_loopw [8] (fun i wr => ∃ j : Nat, j ≤ l.length ∧ i = I j ∧ (∀ x ∈ l.take j, p x = false) ∧ Below w.heap.size w wr) (fun i _ => l.length - (intOf i).toNat)
  case atStart => exact ⟨0, Nat.zero_le _, rfl, by simp, Below.refl _ _⟩
  case round =>
    obtain ⟨j, hj, rfl, hpre, hB⟩ := hrel
    by_cases hlt : j < l.length
    · obtain ⟨b, o, rfl, hok, hb, hrows⟩ := hr (by omega)
      have hrow := (hrows j l[j] (List.getElem?_eq_getElem hlt)).below hB hb
      clear hr hrows
      obtain ⟨e0, e1⟩ := hrow.two
      go_wp2_with fail
      refine (hp wr hB l[j] (List.getElem_mem hlt)).mono ?_
      rintro e w1 ⟨rfl, hB1⟩
      have hB2 : Below w.heap.size w w1 := below_from hB hB1
      have Htk := Lib.hid (List.take_succ_eq_append_getElem hlt)
      cases hpj : p l[j] with
      | true =>
        have hat : l.findIdx? p = some j := findIdx?_at hlt hpre hpj
        have Hat := Lib.hid hat
        clear hat
        go_wp2_with fail
        go_ret
        exact ⟨_, rfl, by omega, by omega, by rw [Hat.out]; rfl, hB2⟩
      | false =>
        go_wp2_with fail
        go_roundw
        case rel => exact ⟨j + 1, by omega, by go_num, take_succ_all hlt hpre hpj, hB2⟩
        case measure => simp [intOf]; omega
    · obtain rfl : j = l.length := by omega
      have Hat := Lib.hid (findIdx?_none (l := l) (by rw [List.take_length] at hpre; exact hpre))
      go_wp2
      go_ret
      exact ⟨-1, rfl, by omega, by omega, by rw [Hat.out]; rfl, hB⟩
set_option maxHeartbeats 400000 in
theorem hrng_containsFunc (k : FuncId) (first cap : Array Value) (hent : ∀ args w, (callFunc k args).run Tryz.prog w = .ok (.enter k args) w) (p : Rng → Bool) (l : List Rng) (ok : Nat → Prop) (v : Value) (w : World)
   (hl : l.length ≤ 1000) (hv : SliceIs Rng.cells 2 ok w v l)
   (hp : ∀ W, Below w.heap.size w W → ∀ x ∈ l, Calls Tryz.prog k (first.push (Rng.v x) ++ cap) W fun e W' => e = .returned (.bool (p x)) ∧ Below W.heap.size W W') :
    Calls Tryz.prog 105 #[v, .func (.func k) first cap] w fun e w' => e = .returned (.bool (l.any p)) ∧ Below w.heap.size w w' := by
  obtain ⟨ad, c, rfl, hc, hr⟩ := hv
  go_enter Tryz.func105, Tryz.ntmps105
  go_wp2_with fail
  refine (hrng_indexFunc k first cap hent p l ok _ w hl ⟨ad, c, rfl, hc, hr⟩ hp).mono ?_
  rintro e w' ⟨i, rfl, h1, h2, h3, hB⟩
  clear hr hp
  have Hx := Lib.hid (any_of_findIdx (p := p) (l := l) h3)
  clear h3
  go_wp2_with fail
  go_ret
  exact ⟨ret_bool Hx.out, hB⟩

/-! ### small tests -/
theorem hwithin_any (n lo hi : Int) (w : World) :
    Calls Tryz.prog 31 #[I n, I lo, I hi] w fun e w' => e = .returned (.bool (inB n lo hi)) ∧ w = w' := by
  by_cases h1 : lo ≤ n
  · go_enter Tryz.func31, Tryz.ntmps31
    go_wp2
    go_ret
    exact ⟨by simp [h1, inB], rfl⟩
  · have h1' : decide (lo ≤ n) = false := by simpa using h1
    have Hd := Lib.hid h1'
    go_enter Tryz.func31, Tryz.ntmps31
    go_wp2
    go_ret
    exact ⟨by unfold inB; rw [Hd.out]; rfl, rfl⟩
theorem hvalue_any (n : Int) (w : World) : Calls Tryz.prog 59 #[I n] w fun e w' => e = .returned (.bool (inB n 0 100000)) ∧ w = w' := by
  go_enter Tryz.func59, Tryz.ntmps59
  go_wp2_with fail
  refine (hwithin_any _ _ _ _).mono ?_
  rintro e w' ⟨rfl, rfl⟩
  go_wp2_with fail
  go_ret
  exact ⟨rfl, rfl⟩
def Rng.hok (r : Rng) : Bool := inB r.lo 0 100000 && inB r.hi 0 100000 && decide (r.lo ≤ r.hi)
set_option maxHeartbeats 400000 in
theorem hvalues_any (r : Rng) (w : World) : Calls Tryz.prog 98 #[r.v] w fun e w' => e = .returned (.bool r.hok) ∧ Below w.heap.size w w' := by
  obtain ⟨lo, hi⟩ := r
  go_enter Tryz.func98, Tryz.ntmps98
  go_wp2_with fail
  refine (hvalue_any _ _).mono ?_
  rintro e w' ⟨rfl, rfl⟩
  cases h1 : inB lo 0 100000 with
  | false =>
    go_wp2_with fail
    go_ret
    exact ⟨by simp [Rng.hok, h1], below_alloc _ _⟩
  | true =>
  go_wp2_with fail
  refine (hvalue_any _ _).mono ?_
  rintro e w' ⟨rfl, rfl⟩
  cases h2 : inB hi 0 100000 with
  | false =>
    go_wp2_with fail
    go_ret
    exact ⟨by simp [Rng.hok, h2], below_alloc _ _⟩
  | true =>
  go_wp2_with fail
  go_ret
  exact ⟨by simp [Rng.hok, h1, h2], below_alloc _ _⟩
theorem hempty_any (r : Rng) (w : World) : Calls Tryz.prog 33 #[r.v] w fun e w' => e = .returned (.bool (decide (r.hi < r.lo))) ∧ Below w.heap.size w w' := by
  obtain ⟨lo, hi⟩ := r
  go_enter Tryz.func33, Tryz.ntmps33
  go_wp2_with fail
  go_ret
  exact ⟨rfl, below_alloc _ _⟩
def Block.ok (x : Block) : Bool := x.value.hok && inB x.read 0 100000
set_option maxHeartbeats 400000 in
theorem hblockok_any (x : Block) (w : World) : Calls Tryz.prog 97 #[x.v] w fun e w' => e = .returned (.bool x.ok) ∧ Below w.heap.size w w' := by
  obtain ⟨⟨lo, hi⟩, r⟩ := x
  go_enter Tryz.func97, Tryz.ntmps97
  go_wp2_with fail
  refine (hvalues_any ⟨lo, hi⟩ _).mono ?_
  rintro e w1 ⟨rfl, hB⟩
  obtain ⟨hc, hf⟩ := bcell hB
  have hz : w.heap.size < w1.heap.size := by have := hB.size; simp at this; omega
  have HB := below_from (below_alloc w (.cells #[I lo, I hi, I r] 106)) hB
  cases h1 : Rng.hok ⟨lo, hi⟩ with
  | false =>
    go_wp2_with fail
    go_ret
    exact ⟨by simp [Block.ok, h1], HB⟩
  | true =>
  go_wp2_with fail
  refine (hvalue_any _ _).mono ?_
  rintro e w' ⟨rfl, rfl⟩
  go_wp2_with fail
  go_ret
  exact ⟨by simp [Block.ok, h1], HB⟩
theorem hlen5_any (ok : Nat → Prop) (x : Mach) (w : World) (hx : BlocksIs ok w x.vb x.blocks) : Calls Tryz.prog 54 #[x.v] w fun e w' => e = .returned (.bool (decide (x.blocks.length ≤ 5))) ∧ Below w.heap.size w w' := by
  obtain ⟨sc, vb, bl⟩ := x
  obtain ⟨a, c, hv, hc, -⟩ := hx
  simp only at hv hc
  subst hv
  go_enter Tryz.func54, Tryz.ntmps54
  go_wp2_with fail
  go_ret
  refine ⟨ret_bool ?_, below_alloc _ _⟩
  rw [Bool.eq_iff_iff]
  simp
  omega
theorem hscale_any (n sc : Int) (vt vm : Value) (w : World) : Calls Tryz.prog 91 #[.agg #[I sc, vt, vm], I n] w fun e w' => e = .returned (.bool (inB n 0 (wi (sc - 1)))) ∧ Below w.heap.size w w' := by
  go_enter Tryz.func91, Tryz.ntmps91
  go_wp2_with fail
  refine (hwithin_any _ _ _ _).mono ?_
  rintro e w' ⟨rfl, rfl⟩
  go_wp2_with fail
  go_ret
  exact ⟨rfl, below_alloc _ _⟩
end Go.Proofs.YthcolbjbafilcaaGreat
