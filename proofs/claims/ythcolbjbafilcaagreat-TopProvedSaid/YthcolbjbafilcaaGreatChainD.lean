/-
  chain: (*work).of hands out the iterator; (*work).held, which certificates hold.
-/
import Derived.Test.YthcolbjbafilcaaGreatChainC
set_option linter.unusedSimpArgs false
set_option linter.unusedVariables false
namespace Go.Proofs.YthcolbjbafilcaaGreat
open Go.RowKit Go.Shelf
attribute [local go_sem] Oper.semAt_some

/-- A contract from the body, where the body holds a range over a function. -/
theorem calls_of_wp_marks {P : Program} {f : FuncId} {fn : Func} {c : Code} {args : Array Value} {w : World} {R : Ending → World → Prop} (n : Nat)
    (hf : P.funcs[f]? = some fn) (hb : fn.body = some c)
    (h : c.wp P (bodyPostM Fence.wide n P fn R) { tmps := args ++ Array.replicate (fn.ntmps - args.size) undef, defers := [] } w) : Calls P f args w R :=
  (callsIn_wide (n := n)).1 (callsIn_of_wp_marks hf hb trivial (wpIn_wide.2 h) rfl)

def OfPost (bw : Nat) (item day below : Int) (w : World) (e : Ending) (w' : World) : Prop :=
  ∃ B1 B2 B3 B4, e = .returned (.func (.func 119) #[] #[.pointer (some ⟨B1, 0, none⟩), .pointer (some ⟨B2, 0, none⟩), .pointer (some ⟨B3, 0, none⟩), .pointer (some ⟨B4, 0, none⟩)]) ∧ Below w.heap.size w w' ∧
    w.heap.size ≤ B1 ∧ w.heap.size ≤ B2 ∧ w.heap.size ≤ B3 ∧ w.heap.size ≤ B4 ∧
    w'.cell? ⟨B1, 0, none⟩ = some (.pointer (some ⟨bw, 0, none⟩)) ∧ w'.cell? ⟨B2, 0, none⟩ = some (I below) ∧ w'.cell? ⟨B3, 0, none⟩ = some (I item) ∧ w'.cell? ⟨B4, 0, none⟩ = some (I day)
set_option maxHeartbeats 400000 in
theorem of_any (bw : Nat) (item day below : Int) (w : World) :
    Calls Tryz.prog 80 #[.pointer (some ⟨bw, 0, none⟩), I item, I day, I below] w (OfPost bw item day below w) := by
  have hmf : ∀ (fn : Fn) (first cap : Array Value) (w : World), (Instr.makeFunc fn first cap).run Tryz.prog w = .ok (.func fn first cap) w := fun _ _ _ _ => rfl
  go_enter Tryz.func80, Tryz.ntmps80
  go_wp2
  go_ret
  exact ⟨_, _, _, _, rfl, (below_alloc3 _ _ _ _).alloc (by simp; omega) _, by omega, by omega, by omega, by omega, by simp [go_sem], by simp [go_sem], by simp [go_sem], by simp [go_sem]⟩
theorem of_stops (n : Nat) (S : Nat → Prop) (B1 B2 B3 B4 bw : Nat) (item day below : Int) (items : List Item) (certs : List Cert) (cm : List (Int × Cert)) (ns : List Int)
    (hS1 : ¬ S B1) (hS2 : ¬ S B2) (hS3 : ¬ S B3) (hS4 : ¬ S B4) (w : World)
    (h1 : w.cell? ⟨B1, 0, none⟩ = some (.pointer (some ⟨bw, 0, none⟩))) (h2 : w.cell? ⟨B2, 0, none⟩ = some (I below)) (h3 : w.cell? ⟨B3, 0, none⟩ = some (I item)) (h4 : w.cell? ⟨B4, 0, none⟩ = some (I day))
    (hw : WorkIs (fun b => ¬ S b) w bw items certs cm ns) (hns : ns.length ≤ 1000) :
    SeqStopsK Fence.wide n Tryz.prog 119 #[.pointer (some ⟨B1, 0, none⟩), .pointer (some ⟨B2, 0, none⟩), .pointer (some ⟨B3, 0, none⟩), .pointer (some ⟨B4, 0, none⟩)]
      (fun x : Cert => #[.agg #[I x.number, I x.item, I x.by_, I x.day, I x.valid, I x.diff.lo, I x.diff.hi]]) (Kept S) (fun ys => ys = ofList cm ns item day below) (fun pre => pre <+: ofList cm ns item day below) ns.length w :=
  fun l J Jx W hW hJ _ hY h0 => of1_in n S l B1 B2 B3 B4 bw item day below items certs cm ns J Jx hS1 hS2 hS3 hS4 W hJ hY
    ((hW.cell (p := ⟨B1, 0, none⟩) (World.block_lt_of_cell? _ _ h1)).trans h1) ((hW.cell (p := ⟨B2, 0, none⟩) (World.block_lt_of_cell? _ _ h2)).trans h2)
    ((hW.cell (p := ⟨B3, 0, none⟩) (World.block_lt_of_cell? _ _ h3)).trans h3) ((hW.cell (p := ⟨B4, 0, none⟩) (World.block_lt_of_cell? _ _ h4)).trans h4) (hw.below hW) hns h0

/-- What a book that was read gives its users: certificates of items that there are, numbers that fit. -/
structure Good (items : List Item) (cm : List (Int × Cert)) (ns : List Int) : Prop where
  by_ : ∀ n ∈ ns, 0 ≤ (certOf cm n).by_ ∧ (certOf cm n).by_ < items.length
  item : ∀ n ∈ ns, 0 ≤ (certOf cm n).item ∧ (certOf cm n).item < items.length
  num : ∀ n ∈ ns, 0 ≤ n ∧ n < 1000
  small : items.length ≤ 8 ∧ ns.length ≤ 24
def itemOf (items : List Item) (k : Int) : Item := items.getD k.toNat default
def heldBy (items : List Item) (cm : List (Int × Cert)) (ns : List Int) (h : List (Int × Bool)) (n : Int) : Bool :=
  (itemOf items (certOf cm n).by_).standard || (ofList cm ns (certOf cm n).by_ (certOf cm n).day n).any fun o => (h.lookup o.number).getD false
def heldFrom (items : List Item) (cm : List (Int × Cert)) (ns : List Int) : List Int → List (Int × Bool) → List (Int × Bool)
  | [], h => h
  | n :: l, h => heldFrom items cm ns l (put h n (heldBy items cm ns h n))
theorem heldFrom_append (items : List Item) (cm : List (Int × Cert)) (ns : List Int) : ∀ (a b : List Int) (h : List (Int × Bool)), heldFrom items cm ns (a ++ b) h = heldFrom items cm ns b (heldFrom items cm ns a h)
  | [], b, h => rfl
  | n :: a, b, h => heldFrom_append items cm ns a b _
def HeldPost (items : List Item) (cm : List (Int × Cert)) (ns : List Int) (w : World) (e : Ending) (w' : World) : Prop :=
  ∃ r, e = .returned (.map (some r)) ∧ MapIs I Value.bool w' r (heldFrom items cm ns ns []) ∧ Below w.heap.size w w' ∧ w.heap.size ≤ r
theorem readLoop_inv (all : List Cert) : ∀ (cs : List Cert) (cm : List (Int × Cert)) (ns : List Int) (cm' : List (Int × Cert)) (ns' : List Int), (∀ c ∈ cs, c ∈ all) → readLoop cs cm ns = some (cm', ns') →
    (∀ n ∈ ns, ∃ c ∈ all, cm.lookup n = some c ∧ c.number = n) → ∀ n ∈ ns', ∃ c ∈ all, cm'.lookup n = some c ∧ c.number = n
  | [], cm, ns, cm', ns', _, h, hi => by simp only [readLoop, Option.some.injEq, Prod.mk.injEq] at h; obtain ⟨rfl, rfl⟩ := h; exact hi
  | c :: cs, cm, ns, cm', ns', hall, h, hi => by
    simp only [readLoop] at h
    cases hl : cm.lookup c.number with
    | some old =>
      rw [hl] at h
      by_cases e : old = c
      · simp only [e, if_true] at h
        exact readLoop_inv all cs cm ns cm' ns' (fun x hx => hall x (List.mem_cons_of_mem _ hx)) h hi
      · simp [e] at h
    | none =>
      rw [hl] at h
      refine readLoop_inv all cs _ _ cm' ns' (fun x hx => hall x (List.mem_cons_of_mem _ hx)) h (fun n hn => ?_)
      rcases List.mem_append.1 hn with hn | hn
      · obtain ⟨c', h1, h2, h3⟩ := hi n hn
        exact ⟨c', h1, by rw [List.lookup_append, h2]; rfl, h3⟩
      · simp at hn
        subst hn
        exact ⟨c, hall c List.mem_cons_self, by rw [List.lookup_append, hl]; simp [List.lookup], rfl⟩
theorem bookErr_zero {items : List Item} {certs : List Cert} (h : bookErr items certs = 0) : items.length ≤ 8 ∧ certs.length ≤ 24 ∧ (∀ c ∈ certs, certOk items c = true) ∧ (∀ x ∈ items, x.ok = true) := by
  unfold bookErr at h
  split at h
  · cases h
  · split at h
    · cases h
    · rename_i h1 h2
      simp only [Bool.not_eq_true, Bool.not_eq_false', Bool.and_eq_true, List.all_eq_true] at h2
      exact ⟨by omega, by omega, h2.2, h2.1⟩
theorem mem_sortI {l : List Int} {n : Int} : n ∈ sortI l ↔ n ∈ l := (List.mergeSort_perm l _).mem_iff
theorem good_of_read {items : List Item} {certs : List Cert} {cm : List (Int × Cert)} {ns : List Int} (h : bookErr items certs = 0) (hr : readLoop certs [] [] = some (cm, ns)) : Good items cm (sortI ns) := by
  obtain ⟨h1, h2, h3, -⟩ := bookErr_zero h
  have hi := readLoop_inv certs certs [] [] cm ns (fun _ h => h) hr (fun n hn => by cases hn)
  have hok : ∀ n ∈ sortI ns, certOk items (certOf cm n) = true ∧ (certOf cm n).number = n := fun n hn => by
    obtain ⟨c, h4, h5, h6⟩ := hi n (mem_sortI.1 hn)
    unfold certOf; rw [h5]; exact ⟨h3 c h4, h6⟩
  have hlen := readLoop_len _ _ _ _ _ hr
  refine ⟨fun n hn => ?_, fun n hn => ?_, fun n hn => ?_, h1, ?_⟩
  · have := (hok n hn).1; simp [certOk, inB] at this; omega
  · have := (hok n hn).1; simp [certOk, inB] at this; omega
  · obtain ⟨h4, h5⟩ := hok n hn; simp [certOk, inB] at h4; omega
  · have : (sortI ns).length = ns.length := by simp [sortI]
    simp at hlen; omega
/-- Marks of ranges over functions, among the deferred calls. -/
def Marks (w : World) : List Deferred → Prop
  | [] => True
  | d :: ds => ∃ D, d = { target := .collected D, args := #[] } ∧ w.heap[D]? = some (.deferred (some [])) ∧ (∀ d' ∈ ds, d'.target ≠ .collected D) ∧ Marks w ds
theorem Marks.of_heap {w w' : World} : ∀ {ds : List Deferred}, Marks w ds → (∀ D, (∃ d ∈ ds, d.target = .collected D) → w.heap[D]? = some (.deferred (some [])) → w'.heap[D]? = some (.deferred (some []))) → Marks w' ds
  | [], _, _ => trivial
  | d :: ds, ⟨D, h1, h2, h3, h4⟩, hk => ⟨D, h1, hk D ⟨d, List.mem_cons_self, by rw [h1]⟩ h2, h3, Marks.of_heap h4 (fun D' ⟨d', hd', e⟩ => hk D' ⟨d', List.mem_cons_of_mem _ hd', e⟩)⟩
theorem leaves_marks {P : Program} {fn : Func} {tmps : Array Value} {R : Ending → World → Prop} {n : Nat} : ∀ {ds : List Deferred} {w : World}, Marks w ds →
    (∀ w', Kept (fun i => ∃ d ∈ ds, d.target = .collected i) w w' → LeavesIn Fence.wide n P fn tmps R [] .returning w') → LeavesInM Fence.wide n P fn tmps R ds .returning w
  | [], w, _, h => h w (Kept.refl _ _)
  | d :: ds, w, ⟨D, h1, h2, h3, h4⟩, h => by
    subst h1
    refine ⟨by simp, .inl ⟨D, _, rfl, run_takeDeferred h2, ?_⟩⟩
    have hne : ∀ i, i ≠ D → (w.putObj D (.deferred none)).heap[i]? = w.heap[i]? := fun i hi => World.putObj_heap_other hi
    refine leaves_marks (Marks.of_heap h4 (fun D' ⟨d', hd', e⟩ hD' => ?_)) (fun w' hk => h w' ?_)
    · have : D' ≠ D := fun x => h3 d' hd' (by rw [e, x])
      rw [hne _ this]; exact hD'
    · have hs : Kept (fun i => ∃ d ∈ ({ target := .collected D, args := #[] } : Deferred) :: ds, d.target = .collected i) w (w.putObj D (.deferred none)) := Kept.grown (grownBy_putObj' w D _) (fun k hk _ => by cases hk; exact ⟨_, List.mem_cons_self, rfl⟩)
      exact hs.trans (hk.mono (fun i _ ⟨d', hd', e⟩ => ⟨d', List.mem_cons_of_mem _ hd', e⟩))
theorem Marks.mem {w : World} : ∀ {ds : List Deferred}, Marks w ds → ∀ D, (∃ d ∈ ds, d.target = .collected D) → w.heap[D]? = some (.deferred (some []))
  | [], _, D, ⟨d, hd, _⟩ => by cases hd
  | d :: ds, ⟨D0, h1, h2, h3, h4⟩, D, ⟨d', hd', e⟩ => by
    rcases List.mem_cons.1 hd' with rfl | hd'
    · rw [h1] at e; cases e; exact h2
    · exact Marks.mem h4 D ⟨d', hd', e⟩
end Go.Proofs.YthcolbjbafilcaaGreat
