/-
  Plain laws of books: what the spans of a book hold, if its certificates are made of a truth; what fewer certificates tell (no program in sight).
-/
import Derived.Test.YthcolbjbafilcaaGreatSpanC
set_option linter.unusedSimpArgs false
set_option linter.unusedVariables false
namespace Go.Proofs.YthcolbjbafilcaaGreat

/-- A fold that puts values under numbers, each made of those under lesser ones. -/
def foldPut {β : Type} (F : List (Int × β) → Int → Option β) : List Int → List (Int × β) → List (Int × β)
  | [], l => l
  | n :: ns, l => foldPut F ns (match F l n with | some v => put l n v | none => l)
theorem foldPut_inv {β : Type} (F : List (Int × β) → Int → Option β) (hF : ∀ l l' n, (∀ k, k < n → l.lookup k = l'.lookup k) → F l n = F l' n) :
    ∀ (q p : List Int) (l : List (Int × β)), (p ++ q).Pairwise (· < ·) → (∀ n ∈ p, l.lookup n = F l n) → (∀ n, n ∉ p → l.lookup n = none) →
      (∀ n ∈ p ++ q, (foldPut F q l).lookup n = F (foldPut F q l) n) ∧ (∀ n, n ∉ p ++ q → (foldPut F q l).lookup n = none)
  | [], p, l, _, h1, h2 => by rw [List.append_nil]; exact ⟨h1, h2⟩
  | n :: q, p, l, hs, h1, h2 => by
    have hlt : ∀ m ∈ p, m < n := fun m hm => (List.pairwise_append.1 hs).2.2 m hm n List.mem_cons_self
    have hn : n ∉ p := fun h => absurd (hlt n h) (by omega)
    have hl : ∀ k, (match F l n with | some v => put l n v | none => l).lookup k = if k = n then F l n else l.lookup k := by
      intro k
      cases hv : F l n with
      | none =>
        simp only []
        by_cases e : k = n
        · subst e; simp [h2 _ hn]
        · simp [e]
      | some v =>
        simp only [lookup_put, beq_iff_eq]
    have hpq : p ++ n :: q = (p ++ [n]) ++ q := by simp
    rw [hpq] at hs ⊢
    simp only [foldPut]
    refine foldPut_inv F hF q (p ++ [n]) _ hs (fun m hm => ?_) (fun m hm => ?_)
    · rw [hl]
      have hsame : ∀ k, k < m → l.lookup k = (match F l n with | some v => put l n v | none => l).lookup k := fun k hk => by
        rw [hl]
        have : k ≠ n := by
          rcases List.mem_append.1 hm with h | h
          · have := hlt m h; omega
          · simp at h; omega
        simp [this]
      rw [← hF _ _ _ hsame]
      by_cases e : m = n
      · subst e; simp
      · rcases List.mem_append.1 hm with h | h
        · simp [e, h1 m h]
        · simp at h; exact absurd h e
    · rw [hl]
      have h3 : m ≠ n := fun e => hm (by simp [e])
      have h4 : m ∉ p := fun e => hm (by simp [e])
      simp [h3, h2 m h4]

def hOf (hl : List (Int × Bool)) (n : Int) : Bool := (hl.lookup n).getD false
def sOf (sl : List (Int × Rng)) (n : Int) : Rng := (sl.lookup n).getD ⟨0, 0⟩
def spansFrom (items : List Item) (cm : List (Int × Cert)) (ns : List Int) (hl : List (Int × Bool)) : List Int → List (Int × Rng) → List (Int × Rng)
  | [], sl => sl
  | n :: l, sl => spansFrom items cm ns hl l (if (hl.lookup (certOf cm n).number).getD false then put sl (certOf cm n).number ((spanOf items cm ns hl sl (certOf cm n).by_ (certOf cm n).day (certOf cm n).number).plus (certOf cm n).diff) else sl)
def contraOf (items : List Item) (cm : List (Int × Cert)) (ns : List Int) (hl : List (Int × Bool)) (sl : List (Int × Rng)) : Bool :=
  ns.any fun n => (hl.lookup (certOf cm n).number).getD false && decide ((spanOf items cm ns hl sl (certOf cm n).item (certOf cm n).day 1000).hi < (spanOf items cm ns hl sl (certOf cm n).item (certOf cm n).day 1000).lo)

/-- A book that was read: its certificates by number. -/
structure BookRead (items : List Item) (certs : List Cert) (cm : List (Int × Cert)) (ns : List Int) : Prop where
  sorted : ns.Pairwise (· < ·)
  of_num : ∀ n ∈ ns, certOf cm n ∈ certs ∧ (certOf cm n).number = n
  of_cert : ∀ c ∈ certs, c.number ∈ ns ∧ certOf cm c.number = c
  okc : ∀ c ∈ certs, certOk items c = true
section
variable {items : List Item} {certs : List Cert} {cm : List (Int × Cert)} {ns : List Int}
theorem certOk_facts {c : Cert} (h : certOk items c = true) : 1 ≤ c.number ∧ c.number ≤ 999 ∧ 0 ≤ c.item ∧ c.item < items.length ∧ 0 ≤ c.by_ ∧ c.by_ < items.length ∧ 0 ≤ c.day ∧ c.day ≤ 1000 ∧ 0 ≤ c.valid ∧ c.valid ≤ 1000 ∧
    -100000 ≤ c.diff.lo ∧ c.diff.lo ≤ 100000 ∧ -100000 ≤ c.diff.hi ∧ c.diff.hi ≤ 100000 ∧ c.diff.lo ≤ c.diff.hi ∧ (itemOf items c.item).standard = false := by
  simp only [certOk, inB, Rng.ok, itemOf, Bool.and_eq_true, Bool.not_eq_true', decide_eq_true_eq] at h ⊢
  obtain ⟨⟨⟨⟨⟨⟨⟨h1, h2⟩, h3⟩, h4⟩, h5⟩, h6⟩, h7⟩, h8⟩ := h
  refine ⟨?_, ?_, ?_, ?_, ?_, ?_, ?_, ?_, ?_, ?_, ?_, ?_, ?_, ?_, ?_, h3⟩ <;> omega
theorem onB_iff {c : Cert} (h : certOk items c = true) (d : Int) : onB c d = true ↔ c.day ≤ d ∧ d ≤ c.day + c.valid := by
  obtain ⟨-, -, -, -, -, -, h1, h2, h3, h4, -⟩ := certOk_facts h
  have : Go.RowKit.wrap64 (c.day + c.valid) = c.day + c.valid := by unfold Go.RowKit.wrap64; omega
  simp [onB, inB, this]
theorem mem_ofList (R : BookRead items certs cm ns) (o : Cert) (item day below : Int) : o ∈ ofList cm ns item day below ↔ o ∈ certs ∧ o.number < below ∧ o.item = item ∧ onB o day = true := by
  unfold ofList
  simp only [List.mem_map, List.mem_filter, ofTest, Bool.and_eq_true, decide_eq_true_eq, beq_iff_eq]
  constructor
  · rintro ⟨n, ⟨hn, ⟨h1, h2⟩, h3⟩, rfl⟩
    obtain ⟨h4, h5⟩ := R.of_num n hn
    exact ⟨h4, by omega, h2, h3⟩
  · rintro ⟨h1, h2, h3, h4⟩
    obtain ⟨h5, h6⟩ := R.of_cert o h1
    exact ⟨o.number, ⟨h5, ⟨h2, by rw [h6]; exact h3⟩, by rw [h6]; exact h4⟩, h6⟩
theorem heldFrom_foldPut : ∀ (l : List Int) (h : List (Int × Bool)), heldFrom items cm ns l h = foldPut (fun h n => some (heldBy items cm ns h n)) l h
  | [], h => rfl
  | n :: l, h => heldFrom_foldPut l _
theorem held_eq (R : BookRead items certs cm ns) : (∀ n ∈ ns, hOf (heldFrom items cm ns ns []) n = heldBy items cm ns (heldFrom items cm ns ns []) n) ∧ (∀ n, n ∉ ns → hOf (heldFrom items cm ns ns []) n = false) := by
  rw [heldFrom_foldPut]
  have hF : ∀ (l l' : List (Int × Bool)) (n : Int), (∀ k, k < n → l.lookup k = l'.lookup k) → some (heldBy items cm ns l n) = some (heldBy items cm ns l' n) := by
    intro l l' n h
    unfold heldBy
    congr 2
    rw [Bool.eq_iff_iff, List.any_eq_true, List.any_eq_true]
    constructor <;> (rintro ⟨o, ho, hv⟩; refine ⟨o, ho, ?_⟩; have := ((mem_ofList R o _ _ _).1 ho).2.1; first | rw [← h _ this]; exact hv | rw [h _ this]; exact hv)
  obtain ⟨h1, h2⟩ := foldPut_inv _ hF ns [] [] (by simpa using R.sorted) (by simp) (by simp)
  refine ⟨fun n hn => ?_, fun n hn => ?_⟩
  · unfold hOf; rw [h1 n (by simpa using hn)]; rfl
  · unfold hOf; rw [h2 n (by simpa using hn)]; rfl
theorem span_congr (R : BookRead items certs cm ns) (hl : List (Int × Bool)) (sl sl' : List (Int × Rng)) (item day below : Int) (h : ∀ k, k < below → sl.lookup k = sl'.lookup k) : spanOf items cm ns hl sl item day below = spanOf items cm ns hl sl' item day below := by
  unfold spanOf
  split
  · rfl
  · have : ∀ (L : List Cert) (out : Rng), (∀ o ∈ L, o.number < below) → L.foldl (cutBy items hl sl item day) out = L.foldl (cutBy items hl sl' item day) out := by
      intro L
      induction L with
      | nil => intro _ _; rfl
      | cons o L ih =>
        intro out ho
        have h1 : cutBy items hl sl item day out o = cutBy items hl sl' item day out o := by unfold cutBy; rw [h _ (ho o List.mem_cons_self)]
        rw [List.foldl_cons, List.foldl_cons, h1]
        exact ih _ (fun x hx => ho x (List.mem_cons_of_mem _ hx))
    exact this _ _ (fun o ho => ((mem_ofList R o _ _ _).1 ho).2.1)
def spanPut (items : List Item) (cm : List (Int × Cert)) (ns : List Int) (hl : List (Int × Bool)) (sl : List (Int × Rng)) (n : Int) : Option Rng :=
  if hOf hl n then some ((spanOf items cm ns hl sl (certOf cm n).by_ (certOf cm n).day n).plus (certOf cm n).diff) else none
theorem spansFrom_foldPut (R : BookRead items certs cm ns) (hl : List (Int × Bool)) : ∀ (l : List Int) (sl : List (Int × Rng)), (∀ n ∈ l, n ∈ ns) → spansFrom items cm ns hl l sl = foldPut (spanPut items cm ns hl) l sl
  | [], sl, _ => rfl
  | n :: l, sl, h => by
    have hn := (R.of_num n (h n List.mem_cons_self)).2
    simp only [spansFrom, foldPut, spanPut, hOf, hn]
    rw [spansFrom_foldPut R hl l _ (fun x hx => h x (List.mem_cons_of_mem _ hx))]
    congr 1
    by_cases hh : (hl.lookup n).getD false = true
    · simp only [hh, if_true]
    · simp only [hh, if_false, Bool.false_eq_true]
theorem spans_eq (R : BookRead items certs cm ns) (hl : List (Int × Bool)) (n : Int) (hn : n ∈ ns) (hh : hOf hl n = true) :
    sOf (spansFrom items cm ns hl ns []) n = (spanOf items cm ns hl (spansFrom items cm ns hl ns []) (certOf cm n).by_ (certOf cm n).day n).plus (certOf cm n).diff := by
  rw [spansFrom_foldPut R hl ns [] (fun _ h => h)]
  have hF : ∀ (l l' : List (Int × Rng)) (n : Int), (∀ k, k < n → l.lookup k = l'.lookup k) → spanPut items cm ns hl l n = spanPut items cm ns hl l' n := by
    intro l l' n h
    unfold spanPut
    rw [span_congr R hl l l' _ _ _ h]
  obtain ⟨h1, -⟩ := foldPut_inv _ hF ns [] [] (by simpa using R.sorted) (by simp) (by simp)
  have h2 := h1 n (by simpa using hn)
  unfold sOf
  rw [h2]
  unfold spanPut
  rw [if_pos hh]
  rfl
/-- What a truth gives the items of a book, on each day. -/
structure TruthOf (items : List Item) (certs : List Cert) (T : Int → Int → Int) : Prop where
  okI : ∀ x ∈ items, x.ok = true
  bound : ∀ i d, -1000000 ≤ T i d ∧ T i d ≤ 1000000
  std : ∀ i : Int, 0 ≤ i → i < items.length → (itemOf items i).standard = true → ∀ d, (itemOf items i).value.lo ≤ T i d ∧ T i d ≤ (itemOf items i).value.hi
  drift : ∀ i : Int, 0 ≤ i → i < items.length → (itemOf items i).standard = false → ∀ d d', 0 ≤ d → d ≤ d' → d' ≤ 1000 → T i d' ≤ T i d + (itemOf items i).drift * (d' - d) ∧ T i d - (itemOf items i).drift * (d' - d) ≤ T i d'
  cert : ∀ c ∈ certs, c.diff.lo ≤ T c.item c.day - T c.by_ c.day ∧ T c.item c.day - T c.by_ c.day ≤ c.diff.hi
theorem item_ok {i : Int} (h : ∀ x ∈ items, x.ok = true) (h0 : 0 ≤ i) (h1 : i < items.length) : 0 ≤ (itemOf items i).drift ∧ (itemOf items i).drift ≤ 100 ∧ -100000 ≤ (itemOf items i).value.lo ∧ (itemOf items i).value.lo ≤ 100000 ∧ -100000 ≤ (itemOf items i).value.hi ∧ (itemOf items i).value.hi ≤ 100000 ∧ (itemOf items i).value.lo ≤ (itemOf items i).value.hi := by
  obtain ⟨k, rfl⟩ := Int.eq_ofNat_of_zero_le h0
  have hk : k < items.length := by omega
  have e : itemOf items (k : Int) = items[k] := by unfold itemOf; simp [hk]
  rw [e]
  have := h items[k] (List.getElem_mem hk)
  simp only [Item.ok, inB, Rng.ok, Bool.and_eq_true, decide_eq_true_eq] at this
  omega
def SpanFits (r : Rng) (t : Int) : Prop := -1099511927776 ≤ r.lo ∧ r.lo ≤ t ∧ t ≤ r.hi ∧ r.hi ≤ 1099511927776
theorem wider_eq {r : Rng} {t k : Int} (h : SpanFits r t) (ht : -1000000 ≤ t ∧ t ≤ 1000000) (hk : 0 ≤ k ∧ k ≤ 100000) : r.wider k = ⟨r.lo - k, r.hi + k⟩ := by
  obtain ⟨h1, h2, h3, h4⟩ := h
  have e1 : wi (-k) = -k := by unfold wi Go.RowKit.wrap64; omega
  have e2 : wi (r.lo + -k) = r.lo - k := by unfold wi Go.RowKit.wrap64; omega
  have e3 : wi (r.hi + k) = r.hi + k := by unfold wi Go.RowKit.wrap64; omega
  simp only [Rng.wider, Rng.plus, e1, e2, e3]
theorem mul_bd {a b : Int} (h1 : 0 ≤ a) (h2 : a ≤ 100) (h3 : 0 ≤ b) (h4 : b ≤ 1000) : 0 ≤ a * b ∧ a * b ≤ 100000 := by
  refine ⟨Int.mul_nonneg h1 h3, ?_⟩
  have := Int.mul_le_mul h2 h4 h3 (by omega)
  omega
theorem fold_cut (hl : List (Int × Bool)) (sl : List (Int × Rng)) (item day : Int) (K : Cert → Int) : ∀ (L : List Cert) (out : Rng),
    (∀ o ∈ L, hOf hl o.number = true → (sOf sl o.number).wider (wi ((itemOf items item).drift * wi (day - o.day))) = ⟨(sOf sl o.number).lo - K o, (sOf sl o.number).hi + K o⟩) →
    (∀ m, (L.foldl (cutBy items hl sl item day) out).lo ≤ m ↔ out.lo ≤ m ∧ ∀ o ∈ L, hOf hl o.number = true → (sOf sl o.number).lo - K o ≤ m) ∧
    (∀ m, m ≤ (L.foldl (cutBy items hl sl item day) out).hi ↔ m ≤ out.hi ∧ ∀ o ∈ L, hOf hl o.number = true → m ≤ (sOf sl o.number).hi + K o)
  | [], out, _ => by simp
  | o :: L, out, h => by
    obtain ⟨ih1, ih2⟩ := fold_cut hl sl item day K L (cutBy items hl sl item day out o) (fun x hx => h x (List.mem_cons_of_mem _ hx))
    rw [List.foldl_cons]
    have hc : cutBy items hl sl item day out o = if hOf hl o.number then out.cut ⟨(sOf sl o.number).lo - K o, (sOf sl o.number).hi + K o⟩ else out := by
      unfold cutBy
      show (if hOf hl o.number = true then _ else _) = _
      by_cases hh : hOf hl o.number = true
      · rw [if_pos hh, if_pos hh, ← h o List.mem_cons_self hh]; rfl
      · rw [if_neg hh, if_neg hh]
    refine ⟨fun m => ?_, fun m => ?_⟩
    · rw [ih1 m, hc]
      by_cases hh : hOf hl o.number = true
      · simp only [hh, if_true, Rng.cut, List.mem_cons, forall_eq_or_imp, forall_const]
        constructor
        · rintro ⟨h1, h2⟩; exact ⟨by omega, by omega, h2⟩
        · rintro ⟨h1, h2, h3⟩; exact ⟨by omega, h3⟩
      · simp [hh]
    · rw [ih2 m, hc]
      by_cases hh : hOf hl o.number = true
      · simp only [hh, if_true, Rng.cut, List.mem_cons, forall_eq_or_imp, forall_const]
        constructor
        · rintro ⟨h1, h2⟩; exact ⟨by omega, by omega, h2⟩
        · rintro ⟨h1, h2, h3⟩; exact ⟨by omega, h3⟩
      · simp [hh]
theorem span_iff (R : BookRead items certs cm ns) {T : Int → Int → Int} (hT : TruthOf items certs T) (hl : List (Int × Bool)) (sl : List (Int × Rng)) (item day below : Int)
    (h0 : 0 ≤ item) (h1 : item < items.length) (hs : (itemOf items item).standard = false) (hd : 0 ≤ day ∧ day ≤ 1000)
    (hf : ∀ o ∈ certs, o.number < below → hOf hl o.number = true → SpanFits (sOf sl o.number) (T o.item o.day)) :
    (∀ m, (spanOf items cm ns hl sl item day below).lo ≤ m ↔ -1099511627776 ≤ m ∧ ∀ o ∈ certs, o.number < below → o.item = item → onB o day = true → hOf hl o.number = true → (sOf sl o.number).lo - (itemOf items item).drift * (day - o.day) ≤ m) ∧
    (∀ m, m ≤ (spanOf items cm ns hl sl item day below).hi ↔ m ≤ 1099511627776 ∧ ∀ o ∈ certs, o.number < below → o.item = item → onB o day = true → hOf hl o.number = true → m ≤ (sOf sl o.number).hi + (itemOf items item).drift * (day - o.day)) := by
  obtain ⟨d0, d1, -⟩ := item_ok hT.okI h0 h1
  have hw : ∀ o ∈ ofList cm ns item day below, hOf hl o.number = true → (sOf sl o.number).wider (wi ((itemOf items item).drift * wi (day - o.day))) = ⟨(sOf sl o.number).lo - (itemOf items item).drift * (day - o.day), (sOf sl o.number).hi + (itemOf items item).drift * (day - o.day)⟩ := by
    intro o ho hh
    obtain ⟨m1, m2, m3, m4⟩ := (mem_ofList R o _ _ _).1 ho
    have hon := (onB_iff (R.okc o m1) day).1 m4
    obtain ⟨-, -, -, -, -, -, y0, y1, -⟩ := certOk_facts (R.okc o m1)
    have e1 : wi (day - o.day) = day - o.day := by unfold wi Go.RowKit.wrap64; omega
    obtain ⟨b0, b1⟩ := mul_bd (a := (itemOf items item).drift) (b := day - o.day) d0 d1 (by omega) (by omega)
    have e2 : wi ((itemOf items item).drift * (day - o.day)) = (itemOf items item).drift * (day - o.day) := by
      generalize (itemOf items item).drift * (day - o.day) = z at *
      unfold wi Go.RowKit.wrap64; omega
    rw [e1, e2]
    exact wider_eq (hf o m1 m2 hh) (hT.bound _ _) ⟨b0, b1⟩
  obtain ⟨i1, i2⟩ := fold_cut hl sl item day (fun o => (itemOf items item).drift * (day - o.day)) (ofList cm ns item day below) Rng.all hw
  have hsp : spanOf items cm ns hl sl item day below = (ofList cm ns item day below).foldl (cutBy items hl sl item day) Rng.all := by unfold spanOf; rw [hs]; rfl
  rw [hsp]
  refine ⟨fun m => ?_, fun m => ?_⟩
  · rw [i1 m]
    refine and_congr Iff.rfl ⟨fun h o a b c d e => h o ((mem_ofList R o _ _ _).2 ⟨a, b, c, d⟩) e, fun h o ho e => ?_⟩
    obtain ⟨a, b, c, d⟩ := (mem_ofList R o _ _ _).1 ho
    exact h o a b c d e
  · rw [i2 m]
    refine and_congr Iff.rfl ⟨fun h o a b c d e => h o ((mem_ofList R o _ _ _).2 ⟨a, b, c, d⟩) e, fun h o ho e => ?_⟩
    obtain ⟨a, b, c, d⟩ := (mem_ofList R o _ _ _).1 ho
    exact h o a b c d e
def SpanIn (r : Rng) (t : Int) : Prop := -1099511627776 ≤ r.lo ∧ r.lo ≤ t ∧ t ≤ r.hi ∧ r.hi ≤ 1099511627776
/-- The span of an item has its true value. -/
theorem span_truth (R : BookRead items certs cm ns) {T : Int → Int → Int} (hT : TruthOf items certs T) (hl : List (Int × Bool)) (sl : List (Int × Rng)) (item day below : Int)
    (h0 : 0 ≤ item) (h1 : item < items.length) (hd : 0 ≤ day ∧ day ≤ 1000)
    (hf : ∀ o ∈ certs, o.number < below → hOf hl o.number = true → SpanFits (sOf sl o.number) (T o.item o.day)) : SpanIn (spanOf items cm ns hl sl item day below) (T item day) := by
  obtain ⟨d0, d1, v0, v1, v2, v3, v4⟩ := item_ok hT.okI h0 h1
  have hb := hT.bound item day
  cases hs : (itemOf items item).standard with
  | true =>
    have := hT.std item h0 h1 hs day
    have e : spanOf items cm ns hl sl item day below = (itemOf items item).value := by unfold spanOf; rw [hs]; rfl
    rw [e]
    unfold SpanIn; omega
  | false =>
    obtain ⟨i1, i2⟩ := span_iff R hT hl sl item day below h0 h1 hs hd hf
    have a1 := ((i1 _).1 (Int.le_refl _)).1
    have a2 := ((i2 _).1 (Int.le_refl _)).1
    have a3 : (spanOf items cm ns hl sl item day below).lo ≤ T item day := by
      rw [i1]
      refine ⟨by omega, fun o h2 h3 h4 h5 h6 => ?_⟩
      have hon := (onB_iff (R.okc o h2) day).1 h5
      obtain ⟨-, -, -, -, -, -, y0, y1, -⟩ := certOk_facts (R.okc o h2)
      have := (hf o h2 h3 h6).2.1
      have hdr := (hT.drift item h0 h1 hs o.day day y0 hon.1 hd.2).2
      rw [h4] at this
      generalize (itemOf items item).drift * (day - o.day) = z at *
      omega
    have a4 : T item day ≤ (spanOf items cm ns hl sl item day below).hi := by
      rw [i2]
      refine ⟨by omega, fun o h2 h3 h4 h5 h6 => ?_⟩
      have hon := (onB_iff (R.okc o h2) day).1 h5
      obtain ⟨-, -, -, -, -, -, y0, y1, -⟩ := certOk_facts (R.okc o h2)
      have := (hf o h2 h3 h6).2.2.1
      have hdr := (hT.drift item h0 h1 hs o.day day y0 hon.1 hd.2).1
      rw [h4] at this
      generalize (itemOf items item).drift * (day - o.day) = z at *
      omega
    exact ⟨a1, a3, a4, a2⟩
theorem plus_fits {r d : Rng} {t u : Int} (h : SpanIn r t) (ht : -1000000 ≤ t ∧ t ≤ 1000000) (hd : -100000 ≤ d.lo ∧ d.lo ≤ 100000 ∧ -100000 ≤ d.hi ∧ d.hi ≤ 100000) (hu : d.lo ≤ u - t ∧ u - t ≤ d.hi) : SpanFits (r.plus d) u ∧ (r.plus d) = ⟨r.lo + d.lo, r.hi + d.hi⟩ := by
  obtain ⟨h1, h2, h3, h4⟩ := h
  have e1 : wi (r.lo + d.lo) = r.lo + d.lo := by unfold wi Go.RowKit.wrap64; omega
  have e2 : wi (r.hi + d.hi) = r.hi + d.hi := by unfold wi Go.RowKit.wrap64; omega
  have e : r.plus d = ⟨r.lo + d.lo, r.hi + d.hi⟩ := by unfold Rng.plus; rw [e1, e2]
  refine ⟨?_, e⟩
  rw [e]
  unfold SpanFits
  simp only
  omega
abbrev HL (items : List Item) (cm : List (Int × Cert)) (ns : List Int) : List (Int × Bool) := heldFrom items cm ns ns []
abbrev SL (items : List Item) (cm : List (Int × Cert)) (ns : List Int) : List (Int × Rng) := spansFrom items cm ns (heldFrom items cm ns ns []) ns []
/-- In each truth the value that a certificate tells is in its span. -/
theorem spans_truth (R : BookRead items certs cm ns) {T : Int → Int → Int} (hT : TruthOf items certs T) :
    ∀ (k : Nat), ∀ c ∈ certs, c.number < k → hOf (HL items cm ns) c.number = true → SpanFits (sOf (SL items cm ns) c.number) (T c.item c.day)
  | 0, c, hc, hk, _ => by have := (certOk_facts (R.okc c hc)).1; omega
  | k + 1, c, hc, hk, hh => by
    obtain ⟨hn, e⟩ := R.of_cert c hc
    obtain ⟨-, -, c0, c1, b0, b1, y0, y1, -, -, f0, f1, f2, f3, -⟩ := certOk_facts (R.okc c hc)
    have hs := spans_eq R (HL items cm ns) c.number hn hh
    rw [e] at hs
    show SpanFits (sOf (spansFrom items cm ns (heldFrom items cm ns ns []) ns []) c.number) _
    rw [hs]
    have hi := span_truth R hT (HL items cm ns) (SL items cm ns) c.by_ c.day c.number b0 b1 ⟨y0, y1⟩ (fun o h1 h2 h3 => spans_truth R hT k o h1 (by omega) h3)
    exact (plus_fits hi (hT.bound _ _) ⟨f0, f1, f2, f3⟩ (hT.cert c hc)).1
theorem spans_fit (R : BookRead items certs cm ns) {T : Int → Int → Int} (hT : TruthOf items certs T) (c : Cert) (hc : c ∈ certs) (hh : hOf (HL items cm ns) c.number = true) : SpanFits (sOf (SL items cm ns) c.number) (T c.item c.day) :=
  spans_truth R hT 1000 c hc (by have := (certOk_facts (R.okc c hc)).2.1; omega) hh
theorem item_truth (R : BookRead items certs cm ns) {T : Int → Int → Int} (hT : TruthOf items certs T) (item day below : Int) (h0 : 0 ≤ item) (h1 : item < items.length) (hd : 0 ≤ day ∧ day ≤ 1000) :
    SpanIn (spanOf items cm ns (HL items cm ns) (SL items cm ns) item day below) (T item day) :=
  span_truth R hT _ _ item day below h0 h1 hd (fun o ho _ hh => spans_fit R hT o ho hh)
/-- A book that has a truth is not contradictory. -/
theorem contra_truth (R : BookRead items certs cm ns) {T : Int → Int → Int} (hT : TruthOf items certs T) : contraOf items cm ns (HL items cm ns) (SL items cm ns) = false := by
  unfold contraOf
  rw [List.any_eq_false]
  intro n hn
  obtain ⟨h1, h2⟩ := R.of_num n hn
  obtain ⟨-, -, c0, c1, -, -, y0, y1, -⟩ := certOk_facts (R.okc _ h1)
  obtain ⟨a1, a2, a3, a4⟩ := item_truth R hT (certOf cm n).item (certOf cm n).day 1000 c0 c1 ⟨y0, y1⟩
  simp only [Bool.and_eq_true, decide_eq_true_eq, not_and]
  intro _
  omega
end
/-! ### fewer certificates -/
section
variable {items : List Item} {certs certs' : List Cert} {cm cm' : List (Int × Cert)} {ns ns' : List Int}
theorem held_by_iff (R : BookRead items certs cm ns) (hl : List (Int × Bool)) (c : Cert) (hc : c ∈ certs) : heldBy items cm ns hl c.number = true ↔ (itemOf items c.by_).standard = true ∨ ∃ o ∈ certs, o.number < c.number ∧ o.item = c.by_ ∧ onB o c.day = true ∧ hOf hl o.number = true := by
  unfold heldBy
  rw [(R.of_cert c hc).2, Bool.or_eq_true, List.any_eq_true]
  refine or_congr Iff.rfl ⟨?_, ?_⟩
  · rintro ⟨o, ho, hv⟩
    obtain ⟨h1, h2, h3, h4⟩ := (mem_ofList R o _ _ _).1 ho
    exact ⟨o, h1, h2, h3, h4, hv⟩
  · rintro ⟨o, h1, h2, h3, h4, hv⟩
    exact ⟨o, (mem_ofList R o _ _ _).2 ⟨h1, h2, h3, h4⟩, hv⟩
theorem fewer_held (R : BookRead items certs cm ns) (R' : BookRead items certs' cm' ns') (hsub : ∀ c ∈ certs', c ∈ certs) :
    ∀ (k : Nat), ∀ c ∈ certs', c.number < k → hOf (HL items cm' ns') c.number = true → hOf (HL items cm ns) c.number = true
  | 0, c, hc, hk, _ => by have := (certOk_facts (R'.okc c hc)).1; omega
  | k + 1, c, hc, hk, hh => by
    rw [(held_eq R').1 _ (R'.of_cert c hc).1, held_by_iff R' _ c hc] at hh
    rw [(held_eq R).1 _ (R.of_cert c (hsub c hc)).1, held_by_iff R _ c (hsub c hc)]
    rcases hh with h | ⟨o, h1, h2, h3, h4, h5⟩
    · exact .inl h
    · exact .inr ⟨o, hsub o h1, h2, h3, h4, fewer_held R R' hsub k o h1 (by omega) h5⟩
theorem fewer_held' (R : BookRead items certs cm ns) (R' : BookRead items certs' cm' ns') (hsub : ∀ c ∈ certs', c ∈ certs) (c : Cert) (hc : c ∈ certs') (hh : hOf (HL items cm' ns') c.number = true) : hOf (HL items cm ns) c.number = true :=
  fewer_held R R' hsub 1000 c hc (by have := (certOk_facts (R'.okc c hc)).2.1; omega) hh
theorem fewer_span (R : BookRead items certs cm ns) (R' : BookRead items certs' cm' ns') (hsub : ∀ c ∈ certs', c ∈ certs) {T : Int → Int → Int} (hT : TruthOf items certs T) (hT' : TruthOf items certs' T) (item day below : Int)
    (h0 : 0 ≤ item) (h1 : item < items.length) (hd : 0 ≤ day ∧ day ≤ 1000)
    (ih : ∀ o ∈ certs', o.number < below → hOf (HL items cm' ns') o.number = true → (sOf (SL items cm' ns') o.number).lo ≤ (sOf (SL items cm ns) o.number).lo ∧ (sOf (SL items cm ns) o.number).hi ≤ (sOf (SL items cm' ns') o.number).hi) :
    (spanOf items cm' ns' (HL items cm' ns') (SL items cm' ns') item day below).lo ≤ (spanOf items cm ns (HL items cm ns) (SL items cm ns) item day below).lo ∧
    (spanOf items cm ns (HL items cm ns) (SL items cm ns) item day below).hi ≤ (spanOf items cm' ns' (HL items cm' ns') (SL items cm' ns') item day below).hi := by
  cases hs : (itemOf items item).standard with
  | true => unfold spanOf; rw [hs]; exact ⟨Int.le_refl _, Int.le_refl _⟩
  | false =>
    obtain ⟨i1, i2⟩ := span_iff R hT (HL items cm ns) (SL items cm ns) item day below h0 h1 hs hd (fun o ho _ hh => spans_fit R hT o ho hh)
    obtain ⟨j1, j2⟩ := span_iff R' hT' (HL items cm' ns') (SL items cm' ns') item day below h0 h1 hs hd (fun o ho _ hh => spans_fit R' hT' o ho hh)
    have a1 := (i1 _).1 (Int.le_refl _)
    have a2 := (i2 _).1 (Int.le_refl _)
    rw [j1, j2]
    refine ⟨⟨a1.1, fun o h2 h3 h4 h5 h6 => ?_⟩, ⟨a2.1, fun o h2 h3 h4 h5 h6 => ?_⟩⟩
    · have := a1.2 o (hsub o h2) h3 h4 h5 (fewer_held' R R' hsub o h2 h6)
      have := (ih o h2 h3 h6).1
      generalize (itemOf items item).drift * (day - o.day) = z at *
      omega
    · have := a2.2 o (hsub o h2) h3 h4 h5 (fewer_held' R R' hsub o h2 h6)
      have := (ih o h2 h3 h6).2
      generalize (itemOf items item).drift * (day - o.day) = z at *
      omega
theorem fewer_spans (R : BookRead items certs cm ns) (R' : BookRead items certs' cm' ns') (hsub : ∀ c ∈ certs', c ∈ certs) {T : Int → Int → Int} (hT : TruthOf items certs T) (hT' : TruthOf items certs' T) :
    ∀ (k : Nat), ∀ c ∈ certs', c.number < k → hOf (HL items cm' ns') c.number = true → (sOf (SL items cm' ns') c.number).lo ≤ (sOf (SL items cm ns) c.number).lo ∧ (sOf (SL items cm ns) c.number).hi ≤ (sOf (SL items cm' ns') c.number).hi
  | 0, c, hc, hk, _ => by have := (certOk_facts (R'.okc c hc)).1; omega
  | k + 1, c, hc, hk, hh => by
    have hc0 := hsub c hc
    obtain ⟨hn, e⟩ := R.of_cert c hc0
    obtain ⟨hn', e'⟩ := R'.of_cert c hc
    obtain ⟨-, -, c0, c1, b0, b1, y0, y1, -, -, f0, f1, f2, f3, -⟩ := certOk_facts (R'.okc c hc)
    have hs := spans_eq R (HL items cm ns) c.number hn (fewer_held' R R' hsub c hc hh)
    have hs' := spans_eq R' (HL items cm' ns') c.number hn' hh
    rw [e] at hs
    rw [e'] at hs'
    have q := (plus_fits (item_truth R hT c.by_ c.day c.number b0 b1 ⟨y0, y1⟩) (hT.bound _ _) ⟨f0, f1, f2, f3⟩ (hT.cert c hc0)).2
    have q' := (plus_fits (item_truth R' hT' c.by_ c.day c.number b0 b1 ⟨y0, y1⟩) (hT'.bound _ _) ⟨f0, f1, f2, f3⟩ (hT'.cert c hc)).2
    have hm := fewer_span R R' hsub hT hT' c.by_ c.day c.number b0 b1 ⟨y0, y1⟩ (fun o h1 h2 h3 => fewer_spans R R' hsub hT hT' k o h1 (by omega) h3)
    have z1 : sOf (SL items cm ns) c.number = _ := hs.trans q
    have z2 : sOf (SL items cm' ns') c.number = _ := hs'.trans q'
    rw [z1, z2]
    simp only
    omega
/-- With fewer certificates no span of an item is narrower. -/
theorem fewer_item (R : BookRead items certs cm ns) (R' : BookRead items certs' cm' ns') (hsub : ∀ c ∈ certs', c ∈ certs) {T : Int → Int → Int} (hT : TruthOf items certs T) (hT' : TruthOf items certs' T) (item day : Int)
    (h0 : 0 ≤ item) (h1 : item < items.length) (hd : 0 ≤ day ∧ day ≤ 1000) :
    (spanOf items cm' ns' (HL items cm' ns') (SL items cm' ns') item day 1000).lo ≤ (spanOf items cm ns (HL items cm ns) (SL items cm ns) item day 1000).lo ∧
    (spanOf items cm ns (HL items cm ns) (SL items cm ns) item day 1000).hi ≤ (spanOf items cm' ns' (HL items cm' ns') (SL items cm' ns') item day 1000).hi :=
  fewer_span R R' hsub hT hT' item day 1000 h0 h1 hd (fun o ho _ hh => fewer_spans R R' hsub hT hT' 1000 o ho (by have := (certOk_facts (R'.okc o ho)).2.1; omega) hh)
theorem fewer_on (R : BookRead items certs cm ns) (R' : BookRead items certs' cm' ns') (hsub : ∀ c ∈ certs', c ∈ certs) (item day : Int) (h : heldOn items cm' ns' item day = true) : heldOn items cm ns item day = true := by
  unfold heldOn at h ⊢
  rw [Bool.or_eq_true] at h ⊢
  rcases h with h | h
  · exact .inl h
  · rw [List.any_eq_true] at h ⊢
    obtain ⟨o, ho, hv⟩ := h
    obtain ⟨h1, h2, h3, h4⟩ := (mem_ofList R' o _ _ _).1 ho
    exact .inr ⟨o, (mem_ofList R o _ _ _).2 ⟨hsub o h1, h2, h3, h4⟩, fewer_held' R R' hsub o h1 hv⟩
end
end Go.Proofs.YthcolbjbafilcaaGreat
