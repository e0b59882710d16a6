/-
  chain: (Book).read, which checks a book and lays its certificates by number.
-/
import Derived.Test.YthcolbjbafilcaaGreatChainW
import Derived.Test.YthcolbjbafilcaaGreatChainP
import Derived.Deep.AppendLies
import Derived.Deep.RegionLaw
import Derived.StillTailTactics
import Derived.RegionTactic
import Derived.BigRegion
import Derived.Deep.DeepCutAuto
import Derived.Deep.LoopGhost
set_option linter.unusedSimpArgs false
set_option linter.unusedVariables false
namespace Go.Proofs.YthcolbjbafilcaaGreat
open Go.RowKit Go.Shelf

/-- slices.Sort of a slice that the call owns. -/
def SortSaid : Prop := ∀ (base : Nat) (v : Value) (ns : List Int) (w : World), ns.length ≤ 100000 → w.ownsRow base 3 1 v ns.length (ns.map I) →
  Calls Tryz.prog 117 #[v] w fun e w' => e = .returned (.tuple #[]) ∧ w'.ownsRow base 3 1 v ns.length ((sortI ns).map I) ∧ w.grownBy w' v.ownBlock

def ReadPost (items : List Item) (certs : List Cert) (w : World) (e : Ending) (w' : World) : Prop :=
  (bookErr items certs ≠ 0 ∧ e = .returned (.tuple #[.pointer none, I (bookErr items certs)]) ∧ Below w.heap.size w w') ∨
  (bookErr items certs = 0 ∧ ∃ bw cm ns, readLoop certs [] [] = some (cm, ns) ∧ e = .returned (.tuple #[.pointer (some ⟨bw, 0, none⟩), I 0]) ∧ Below w.heap.size w w' ∧ w.heap.size ≤ bw ∧
    WorkIs (fun _ => True) w' bw items certs cm (sortI ns))
theorem ReadPost.err {items : List Item} {certs : List Cert} {w w' : World} {e : Ending} {k : Int} (h : bookErr items certs = k) (hk : k ≠ 0) (he : e = .returned (.tuple #[.pointer none, I k])) (hB : Below w.heap.size w w') : ReadPost items certs w e w' :=
  .inl ⟨by rw [h]; exact hk, by rw [h]; exact he, hB⟩

theorem field_cert_day (a0 a1 a2 a3 a4 a5 a6 : Int) (w : World) : (Instr.field 171 (.agg #[I a0, I a1, I a2, I a3, I a4, I a5, I a6]) 3).run Tryz.prog w = .ok (I a3) w := by kernel_rfl
theorem info_int : (Tryz.prog.info? 3).map (fun i => (i.zero, i.size, i.bytes)) = some (some (.int .i64 0), 1, 8) := by kernel_rfl
theorem lookup_cert {w : World} {r : Nat} {cm : List (Int × Cert)} (h : MapIs I Cert.v w r cm) (a : Int) (W : World) (hW : W.heap[r]? = w.heap[r]?) :
    (Instr.lookup 194 (.map (some r)) (I a) false).run Tryz.prog W = .ok (.agg #[I (certOf cm a).number, I (certOf cm a).item, I (certOf cm a).by_, I (certOf cm a).day, I (certOf cm a).valid, I (certOf cm a).diff.lo, I (certOf cm a).diff.hi]) W ∧
    (Instr.lookup 194 (.map (some r)) (I a) true).run Tryz.prog W = .ok (.tuple #[(.agg #[I (certOf cm a).number, I (certOf cm a).item, I (certOf cm a).by_, I (certOf cm a).day, I (certOf cm a).valid, I (certOf cm a).diff.lo, I (certOf cm a).diff.hi]), .bool (cm.lookup a).isSome]) W :=
  run_lookup (int_key Tryz.underlying3) Tryz.underlying194 (z := default) (fun _ => by kernel_rfl) h a W hW

theorem neq_certs (a b : Cert) (W : World) : (binOp .neq 171 a.v b.v).run Tryz.prog W = .ok (.bool (!decide (a = b))) W := by
  rw [neq_cert]
  obtain ⟨a0, a1, a2, a3, a4, ⟨a5, a6⟩⟩ := a
  obtain ⟨b0, b1, b2, b3, b4, ⟨b5, b6⟩⟩ := b
  have : (a0 == b0 && a1 == b1 && a2 == b2 && a3 == b3 && a4 == b4 && a5 == b5 && a6 == b6) = decide (Cert.mk a0 a1 a2 a3 a4 ⟨a5, a6⟩ = Cert.mk b0 b1 b2 b3 b4 ⟨b5, b6⟩) := by
    rw [Bool.eq_iff_iff]; simp [and_assoc]
  simp only [this]
theorem take_readLoop {certs : List Cert} {j : Nat} (hlt : j < certs.length) {cm : List (Int × Cert)} {ns : List Int} (h : readLoop (certs.take j) [] [] = some (cm, ns)) :
    readLoop (certs.take (j + 1)) [] [] = readLoop [certs[j]] cm ns := by
  rw [List.take_succ_eq_append_getElem hlt, readLoop_append, h]; rfl
theorem readLoop_stop {certs : List Cert} {j : Nat} (hlt : j < certs.length) (h : readLoop (certs.take (j + 1)) [] [] = none) : readLoop certs [] [] = none := by
  have e : certs = certs.take (j + 1) ++ certs.drop (j + 1) := (List.take_append_drop _ _).symm
  rw [e, readLoop_append, h]; rfl

set_option maxRecDepth 100000 in
set_option maxHeartbeats 2000000 in
theorem read_any (hsort : SortSaid) (vi vc : Value) (items : List Item) (certs : List Cert) (ok : Nat → Prop) (w : World) (hil : items.length ≤ 1000) (hcl : certs.length ≤ 1000) (hi : ItemsIs ok w vi items) (hc : CertsIs ok w vc certs) :
    Calls Tryz.prog 76 #[.agg #[vi, vc]] w (ReadPost items certs w) := by
  have hi0 := hi
  have hc0 := hc
  obtain ⟨ai, ci, rfl, hci, hri⟩ := hi
  obtain ⟨ac, cc, rfl, hcc, hrc⟩ := hc
  have HB0 : Below w.heap.size w (w.alloc (.cells #[.slice ai items.length ci, .slice ac certs.length cc] 104)) := below_alloc _ _
  by_cases h8 : 8 < items.length
  · go_enter Tryz.func76, Tryz.ntmps76
    go_wp2_with fail
    go_ret2
    exact ReadPost.err (k := 3) (by simp [bookErr, h8]) (by decide) rfl HB0
  by_cases h24 : 24 < certs.length
  · have h8' : decide (8 < (items.length : Int)) = false := by simp; omega
    go_enter Tryz.func76, Tryz.ntmps76
    go_wp2_with fail
    go_ret2
    exact ReadPost.err (k := 3) (by simp [bookErr, h24]) (by decide) rfl HB0
  have h8' : decide (8 < (items.length : Int)) = false := by simp; omega
  have h24' : decide (24 < (certs.length : Int)) = false := by simp; omega
  go_enter Tryz.func76, Tryz.ntmps76
  go_wp2_with fail
  refine (item_all 114 #[] #[] (enters_of Tryz.func114 (by kernel_rfl) rfl) Item.ok items ok _ _ hil (hi0.below HB0) (fun W _ x _ => by simpa using ivalid_any x W)).mono ?_
  rintro e w1 ⟨rfl, hB1⟩
  have HB1 := below_from HB0 hB1
  have hmf : ∀ (fn : Fn) (first cap : Array Value) (w : World), (Instr.makeFunc fn first cap).run Tryz.prog w = .ok (.func fn first cap) w := fun _ _ _ _ => rfl
  obtain ⟨hcl1, hfr1⟩ := bcell hB1
  cases hai : items.all Item.ok with
  | false =>
    go_wp2_with fail
    go_ret2
    exact ReadPost.err (k := 1) (by simp [bookErr, h8, h24, hai]) (by decide) rfl HB1
  | true =>
  go_wp2_with fail
  refine (cert_all 116 #[.agg #[.slice ai items.length ci, .slice ac certs.length cc]] #[] (enters_of Tryz.func116 (by kernel_rfl) rfl) (certOk items) certs ok _ _ hcl (hc0.below HB1) (fun W hW x _ => by simpa using bcert_any _ _ items ok x W hil (hi0.below (below_from HB1 hW)))).mono ?_
  rintro e w2 ⟨rfl, hB2⟩
  have HB2 := below_from HB1 hB2
  obtain ⟨hcl2, hfr2⟩ := bcell hB2
  have hz2 : w.heap.size < w1.heap.size := by have := hB1.size; simp at this; omega
  cases hac : certs.all (certOk items) with
  | false =>
    go_wp2_with fail
    go_ret2
    exact ReadPost.err (k := 1) (by simp [bookErr, h8, h24, hai, hac]) (by decide) rfl HB2
  | true =>
  have hmm := @run_makeMap Tryz.prog
  have hz3 : w.heap.size < w2.heap.size := by have := hB2.size; omega
  go_wp2_with fail
  have HB3 : Below w.heap.size w ((w2.alloc (.map #[] 0)).alloc (workObj (.slice ai items.length ci) (.slice ac certs.length cc) w2.heap.size (.slice none 0 0))) := below_from HB2 (below_alloc2 _ _ _)
  clear hcl1 hfr1 hcl2 hfr2
  go_loopg [42] certs.length (fun g i wr => ∃ (j : Nat) (cm : List (Int × Cert)) (ns : List Int) (vn : Value), g = certs.length - j ∧ j ≤ certs.length ∧ i = I j ∧ readLoop (certs.take j) [] [] = some (cm, ns) ∧ Below w.heap.size w wr ∧
      wr.heap[w2.heap.size + 1]? = some (workObj (.slice ai items.length ci) (.slice ac certs.length cc) w2.heap.size vn) ∧ MapIs I Cert.v wr w2.heap.size cm ∧
      wr.ownsRow (w2.heap.size + 2) 3 1 vn ns.length (ns.map I) ∧ wr.cell? ⟨w.heap.size, 1, none⟩ = some (.slice ac certs.length cc))
  case atStart =>
    refine ⟨0, [], [], .slice none 0 0, rfl, Nat.zero_le _, rfl, rfl, ?_, ?_, ?_, World.ownsRow_nil _ _ _ _, ?_⟩
    · rw [work_zero]; exact HB3
    · rw [work_zero]
      exact heap_new _ _ (by simp)
    · exact (MapIs.made w2).below (below_alloc _ _)
    · have := (below_alloc2 w2 (.map #[] 0) (.cells (((Tryz.zeroCells197.setIfInBounds 0 (.slice ai items.length ci)).setIfInBounds 1 (.slice ac certs.length cc)).setIfInBounds 2 (.map (some w2.heap.size))) 197)).cell (p := ⟨w.heap.size, 1, none⟩) hz3
      rw [this, hB2.cell (p := ⟨w.heap.size, 1, none⟩) hz2, hB1.cell (p := ⟨w.heap.size, 1, none⟩) (by simp)]
      simp
  case round =>
    obtain ⟨j, cm, ns, vn, rfl, hj, rfl, hrl, hB, hwo, hmap, hown, hcw⟩ := hrel
    by_cases hlt : j < certs.length
    · obtain ⟨b, o, rfl, hok, hb, hrows⟩ := hrc (by omega)
      have hrow := (hrows j certs[j] (List.getElem?_eq_getElem hlt)).below hB hb
      obtain ⟨e0, e1, e2, e3, e4, e5, e6⟩ := hrow.seven
      have hzr : w2.heap.size + 1 < wr.heap.size := heap_at hwo
      have Hrl := Lib.hid (take_readLoop hlt hrl)
      have Hnl := Lib.hid (readLoop_len _ _ _ _ _ hrl)
      clear hrc hrows hri hrow hrl
      go_upto_region 9 with fail
      go_cut [6, 7, 8] (fun s6 s7 s8 wc => ∃ p6 p7, s6 = .pointer (some ⟨p6, 0, none⟩) ∧ s7 = .pointer (some ⟨p7, 0, none⟩) ∧ s8 = .bool (cm.lookup certs[j].number).isSome ∧
        RowAt wc p6 0 certs[j].cells ∧ RowAt wc p7 0 (certOf cm certs[j].number).cells ∧ Below wr.heap.size wr wc ∧ wr.heap.size ≤ p6 ∧ wr.heap.size ≤ p7)
      case first =>
        obtain ⟨W1, hW1⟩ : ∃ W1, W1 = wr.alloc (.cells #[I certs[j].number, I certs[j].item, I certs[j].by_, I certs[j].day, I certs[j].valid, I certs[j].diff.lo, I certs[j].diff.hi] 171) := ⟨_, rfl⟩
        rw [← hW1]
        have hr1 : RowAt W1 wr.heap.size 0 certs[j].cells := by rw [hW1]; exact row_new wr certs[j].cells 171 rfl
        have hB1' : Below wr.heap.size wr W1 := by rw [hW1]; exact below_alloc _ _
        have hz1' : wr.heap.size < W1.heap.size := by rw [hW1]; simp
        clear hW1 e0 e1 e2 e3 e4 e5 e6
        have hm1 : MapIs I Cert.v W1 w2.heap.size cm := hmap.below hB1'
        have hwo1 : W1.heap[w2.heap.size + 1]? = some (workObj (.slice ai items.length ci) (.slice (some ⟨b, o, none⟩) certs.length cc) w2.heap.size vn) := (hB1'.block _ hzr).trans hwo
        obtain ⟨wc0, wc1, wc2, wc3, -, wfz⟩ := work_cells hwo1
        obtain ⟨e0, e1, e2, e3, e4, e5, e6⟩ := hr1.seven
        simp only [Nat.zero_add] at e1 e2 e3 e4 e5 e6
        have hlk := (lookup_cert hm1 certs[j].number W1.drew rfl).2
        have hzr1 : w2.heap.size + 1 < W1.heap.size := by omega
        have hlk2 := (lookup_cert hm1 certs[j].number (W1.alloc (.cells #[I 0, I 0, I 0, I 0, I 0, I 0, I 0] 171)).drew (heap_old W1 _ (by omega))).2
        go_region
        all_goals
          go_wp2_with fail
          go_meet
          exact ⟨_, _, rfl, rfl, rfl, (hr1.below (below_alloc _ _) hz1').of_block rfl, row_new W1 (certOf cm certs[j].number).cells 171 rfl, (below_from hB1' (below_alloc _ _)).drew, Nat.le_refl _, by omega⟩
      case rest =>
        obtain ⟨wA, rfl⟩ : ∃ x : World, x = wc := ⟨_, rfl⟩
        obtain ⟨p6, p7, rfl, rfl, rfl, hr6, hr7, hB5, hp6, hp7⟩ := hcut
        have HB5 := below_from hB hB5
        have hm2 := hmap.below hB5
        have hwo2 := (hB5.block _ hzr).trans hwo
        have hown2 := hown.kept (Kept.to_grown (r := wA.heap.size) (Kept.below hB5)) (Or.inr (by intro e; have := (hown.lt _ e).2; have := hB5.size; omega))
        have hcw2 := (hB5.cell (p := ⟨w.heap.size, 1, none⟩) (show w.heap.size < wr.heap.size by omega)).trans hcw
        have hzc : w2.heap.size + 1 < wA.heap.size := heap_at hwo2
        obtain ⟨c0, c1, c2, c3, c4, c5, c6⟩ := hr6.seven
        obtain ⟨f0, f1, f2, f3, f4, f5, f6⟩ := hr7.seven
        simp only [Nat.zero_add] at c1 c2 c3 c4 c5 c6 f1 f2 f3 f4 f5 f6
        clear hwo hmap hown hcw e0 e1 e2 e3 e4 e5 e6
        have hne : ∀ W, (binOp .neq 171 (.agg #[I (certOf cm certs[j].number).number, I (certOf cm certs[j].number).item, I (certOf cm certs[j].number).by_, I (certOf cm certs[j].number).day, I (certOf cm certs[j].number).valid, I (certOf cm certs[j].number).diff.lo, I (certOf cm certs[j].number).diff.hi]) (.agg #[I certs[j].number, I certs[j].item, I certs[j].by_, I certs[j].day, I certs[j].valid, I certs[j].diff.lo, I certs[j].diff.hi])).run Tryz.prog W = .ok (.bool (!decide (certOf cm certs[j].number = certs[j]))) W := neq_certs _ _
        cases hl : cm.lookup certs[j].number with
        | some old =>
          have Hold := Lib.hid (show certOf cm certs[j].number = old from by unfold certOf; rw [hl]; rfl)
          have Hl := Lib.hid hl
          clear hl
          by_cases heq : certOf cm certs[j].number = certs[j]
          · have Heq := Lib.hid heq
            rw [show (!decide (certOf cm certs[j].number = certs[j])) = false from by simp [heq]] at hne
            clear heq
            go_wp2_with fail
            go_roundg (certs.length - (j + 1))
            case measure => omega
            case rel => exact ⟨j + 1, cm, ns, vn, rfl, by omega, by go_num, by rw [Hrl.out]; simp only [readLoop, Hl.out]; rw [if_pos (Hold.out.symm.trans Heq.out)], HB5, hwo2, hm2, hown2, hcw2⟩
          · have Heq := Lib.hid heq
            rw [show (!decide (certOf cm certs[j].number = certs[j])) = true from by simp [heq]] at hne
            clear heq
            go_wp2_with fail
            go_ret2
            exact ReadPost.err (k := 6) (by
              have : readLoop certs [] [] = none := readLoop_stop hlt (by rw [Hrl.out]; simp only [readLoop, Hl.out]; rw [if_neg (fun e => Heq.out (Hold.out.trans e))])
              simp [bookErr, h8, h24, hai, hac, this]) (by decide) rfl HB5
        | none =>
          clear hne
          obtain ⟨ob, hrun, hput⟩ := run_update (int_key Tryz.underlying3) Tryz.underlying194 hm2 certs[j].number certs[j]
          rw [put_new _ _ _ hl] at hput
          have Hl := Lib.hid hl
          clear hl
          obtain ⟨wo0, wo1, wo2, wo3, -, wof⟩ := work_cells hwo2
          have hr13 : (Instr.mapUpdate 194 (.map (some w2.heap.size)) (I certs[j].number) (.agg #[I certs[j].number, I certs[j].item, I certs[j].by_, I certs[j].day, I certs[j].valid, I certs[j].diff.lo, I certs[j].diff.hi])).run Tryz.prog wA.drew = .ok () (wA.drew.putMap w2.heap.size ob) := hrun wA.drew rfl
          have hput13 := hput wA.drew (show w2.heap.size < wA.drew.heap.size from Nat.lt_of_succ_lt hzc)
          clear hrun hput
          go_upto_region 13 with fail
          go_cut [] (fun wd => MapIs I Cert.v wd w2.heap.size (cm ++ [(certs[j].number, certs[j])]) ∧ Kept (· = w2.heap.size) wA wd ∧ Below w2.heap.size wA wd)
          case first =>
            go_region
            all_goals
              go_wp2_with fail
              go_meet
              exact ⟨hput13, ⟨rfl, rfl, rfl, by simp, fun i _ hi => heap_putMap _ _ _ _ hi⟩, below_putMap (Below.refl _ wA).drew (Nat.le_refl _) _⟩
          case rest =>
            obtain ⟨wd, rfl⟩ : ∃ x : World, x = wc := ⟨_, rfl⟩
            obtain ⟨hm3, hk3, hB6⟩ := hcut
            have HB6 : Below w.heap.size w wd := HB5.trans (hB6.mono (by omega))
            have hzd : w2.heap.size + 1 < wd.heap.size := Nat.lt_of_lt_of_le hzc hk3.size
            have hwo3 := (hk3.block _ hzc (by omega)).trans hwo2
            have hown3 := hown2.kept hk3.to_grown (Or.inr (by intro e; have := (hown2.lt _ e).1; omega))
            have hcw3 := (hk3.cell (p := ⟨w.heap.size, 1, none⟩) (show w.heap.size < wA.heap.size by omega) (show ¬ w.heap.size = w2.heap.size by omega)).trans hcw2
            have d0 := (hk3.cell (p := ⟨p6, 0, none⟩) (World.block_lt_of_cell? _ _ c0) (show ¬ p6 = w2.heap.size by omega)).trans c0
            obtain ⟨wo0, wo1, wo2, wo3, -, wof⟩ := work_cells hwo3
            obtain ⟨i0, hi, hz0, hz1, hz2⟩ := info_parts info_int
            have hnl : ns.length ≤ 1000 := by have := Hnl.out; simp at this; omega
            have hbase : w2.heap.size + 2 ≤ wd.heap.size := hzd
            clear c0 c1 c2 c3 c4 c5 c6 f0 f1 f2 f3 f4 f5 f6 hr13 hput13 hown2 hm2 hwo2
            go_upto_region 14 with fail
            go_region_law (
              (refine step_append_lies _ (by rfl) _ _ _ (by rfl) (w2.heap.size + 2) 3 i0 _ 1 8 Tryz.underlying71 hi hz0 hz1 hz2 rfl (by omega) vn ns.length (ns.map I) (by rfl) ((hown3.alloc _).drew) ⟨wd.heap.size, 0, none⟩ 1 1 [I certs[j].number] (by rfl) (by rfl) (World.news_of_block (cs := #[I certs[j].number]) (t := 3) (fr := (0, 0)) (heap_new wd _ rfl)) (by simp [Value.oneCell']) (by omega) (by unfold maxLen; omega) (by omega) (by simp; omega) (wd.heap.size + 1) (by simp) ?_
               intro gg cap w4 hown4 hgrow hat hlt4
               have hne4 : some (w2.heap.size + 1) ≠ vn.ownBlock := by intro e; have := (hown3.lt _ e.symm).1; omega
               have hb4 : w4.heap[w2.heap.size + 1]? = some (workObj (.slice ai items.length ci) (.slice (some ⟨b, o, none⟩) certs.length cc) w2.heap.size vn) := (hgrow.block _ (by simp; omega) hne4).trans ((heap_old wd _ hzd).trans hwo3)
               obtain ⟨wq0, wq1, wq2, wq3, -, wqf⟩ := work_cells hb4))
            all_goals
              go_wp2_with fail
              go_roundg (certs.length - (j + 1))
              case measure => omega
              case rel =>
                have hk4 : Kept (fun i => some i = vn.ownBlock) wd w4 := (Kept.below (below_alloc wd _)).drew.trans (Kept.grown hgrow (fun k hk _ => hk.symm))
                have hk5 : Kept (fun i => some i = vn.ownBlock ∨ i = w2.heap.size + 1) wd (w4.setCell ⟨w2.heap.size + 1, 3, none⟩ (.slice (some ⟨gg, 0, none⟩) (ns.length + 1) cap)) := Kept.setCell (S := fun i => some i = vn.ownBlock ∨ i = w2.heap.size + 1) (p := ⟨w2.heap.size + 1, 3, none⟩) (hk4.mono (fun i _ h => Or.inl h)) (fun _ => Or.inr rfl) _
                have hbs : ∀ k, vn.ownBlock = some k → w2.heap.size + 2 ≤ k := fun k hk => (hown3.lt k hk).1
                refine ⟨j + 1, cm ++ [(certs[j].number, certs[j])], ns ++ [certs[j].number], .slice (some ⟨gg, 0, none⟩) (ns.length + 1) cap, rfl, by omega, by go_num, by rw [Hrl.out]; simp only [readLoop, Hl.out], ?_, work_store hb4 _, ?_, ?_, ?_⟩
                · exact ((HB6.trans ((below_alloc wd _).mono HB6.size)).drew.grown hgrow (by simp; omega) (fun k hk => by have := hbs k hk; omega)).setCell (p := ⟨w2.heap.size + 1, 3, none⟩) (show w.heap.size ≤ w2.heap.size + 1 by omega) _
                · exact hm3.kept hk5 (fun h => by rcases h with h | h; (have := hbs _ h.symm; omega); omega)
                · have := ownsRow_setCell_below hown4 (a := ⟨w2.heap.size + 1, 3, none⟩) (show w2.heap.size + 1 < w2.heap.size + 2 by omega) (.slice (some ⟨gg, 0, none⟩) (ns.length + 1) cap)
                  simpa using this
                · exact (hk5.cell (p := ⟨w.heap.size, 1, none⟩) (show w.heap.size < wd.heap.size by omega) (fun h => by rcases h with h | h; (have : w2.heap.size + 2 ≤ w.heap.size := hbs _ h.symm; omega); (have : w.heap.size = w2.heap.size + 1 := h; omega))).trans hcw3
    · obtain rfl : j = certs.length := by omega
      rw [List.take_length] at hrl
      have Hrl := Lib.hid hrl
      have Hnl := Lib.hid (readLoop_len _ _ _ _ _ hrl)
      clear hrl hcw
      have hnl : ns.length ≤ 1000 := by have := Hnl.out; simp at this; omega
      obtain ⟨wo0, wo1, wo2, wo3, -, -⟩ := work_cells hwo
      have hzr : w2.heap.size + 1 < wr.heap.size := heap_at hwo
      go_wp2_with fail
      refine (hsort (w2.heap.size + 2) vn ns _ (by omega) hown).mono ?_
      rintro e w4 ⟨rfl, hown4, hgrow⟩
      have hbs : ∀ k, vn.ownBlock = some k → w2.heap.size + 2 ≤ k := fun k hk => (hown.lt k hk).1
      have hk4 : Kept (fun i => some i = vn.ownBlock) wr w4 := Kept.grown hgrow (fun k hk _ => hk.symm)
      have hwo4 := (hk4.block _ hzr (fun h => by have := hbs _ h.symm; omega)).trans hwo
      have hm4 : MapIs I Cert.v w4 w2.heap.size cm := hmap.kept hk4 (fun h => by have := hbs _ h.symm; omega)
      have HB4 : Below w.heap.size w w4 := hB.grown hgrow (by omega) (fun k hk => by have := hbs k hk; omega)
      have hsl : (sortI ns).length = ns.length := by simp [sortI]
      have hrd : IntsIs (w2.heap.size + 2 ≤ ·) w4 vn (sortI ns) := SliceIs.owns (n := ns.length) (enc := fun x => [I x]) hown4 (map_flat _ _) (fun _ => rfl) (by decide)
      have Hlen := Lib.hid hsl
      have hrd0 := hrd
      obtain ⟨an, cn, hvn, hcn, hrn⟩ := hrd
      rw [hsl] at hvn hcn hrn
      subst hvn
      clear hwo hmap hown hgrow hk4 wo0 wo1 wo2 wo3 hri hrc
      obtain ⟨wo0, wo1, wo2, wo3, -, -⟩ := work_cells hwo4
      go_wp2_with fail
      generalize hsi : sortI ns = sl at *
      have Hsi := Lib.hid hsi
      clear hsi
      have hzr4 : w2.heap.size + 1 < w4.heap.size := heap_at hwo4
      go_loopg [93] ns.length (fun g i wq => ∃ j : Nat, g = ns.length - j ∧ j ≤ ns.length ∧ i = I j ∧ (∀ i, i + 1 < j → (certOf cm (sl.getD i 0)).day ≤ (certOf cm (sl.getD (i + 1) 0)).day) ∧ Below w4.heap.size w4 wq)
      case atStart => exact ⟨0, rfl, Nat.zero_le _, rfl, fun i h => absurd h (by omega), Below.refl _ _⟩
      case round =>
        obtain ⟨j, rfl, hj, rfl, hup, hB5⟩ := hrel
        have HB5 := below_from HB4 hB5
        have hm5 := hm4.below hB5
        have hwo5 := (hB5.block _ hzr4).trans hwo4
        obtain ⟨wp0, wp1, wp2, wp3, -, -⟩ := work_cells hwo5
        by_cases hlt : j < ns.length
        · obtain ⟨b, o, rfl, -, hb, hrows⟩ := hrn (by omega)
          have hjl : j < sl.length := by have := Hlen.out; omega
          have hj0 := ((hrows j sl[j] (List.getElem?_eq_getElem hjl)).below hB5 hb).c0
          rw [Nat.mul_one] at hj0
          have hlk : ∀ q, (Instr.lookup 194 (.map (some w2.heap.size)) (I sl[j]) false).run Tryz.prog (wr.drewN q) = .ok (.agg #[I (certOf cm sl[j]).number, I (certOf cm sl[j]).item, I (certOf cm sl[j]).by_, I (certOf cm sl[j]).day, I (certOf cm sl[j]).valid, I (certOf cm sl[j]).diff.lo, I (certOf cm sl[j]).diff.hi]) (wr.drewN q) := fun q => (lookup_cert hm5 sl[j] (wr.drewN q) rfl).1
          cases j with
          | zero =>
            have hd : decide ((0 : Int) < ((0 : Nat) : Int)) = false := by decide
            rw [Nat.add_zero] at hj0
            clear hrows hrn hup
            go_upto_region 20 with fail
            go_quiet (fail)
            go_wp2_with fail
            go_roundg (ns.length - 1)
            case measure => omega
            case rel => exact ⟨1, rfl, by omega, by go_num, fun i h => absurd h (by omega), hB5.drewN _⟩
          | succ k =>
            have hkl : k < sl.length := by omega
            have hk0 := ((hrows k sl[k] (List.getElem?_eq_getElem hkl)).below hB5 hb).c0
            rw [Nat.mul_one] at hk0
            have hlk2 : ∀ q, (Instr.lookup 194 (.map (some w2.heap.size)) (I sl[k]) false).run Tryz.prog (wr.drewN q) = .ok (.agg #[I (certOf cm sl[k]).number, I (certOf cm sl[k]).item, I (certOf cm sl[k]).by_, I (certOf cm sl[k]).day, I (certOf cm sl[k]).valid, I (certOf cm sl[k]).diff.lo, I (certOf cm sl[k]).diff.hi]) (wr.drewN q) := fun q => (lookup_cert hm5 sl[k] (wr.drewN q) rfl).1
            have hd : (0 : Int) < (k : Int) + 1 := by omega
            have hfd := field_cert_day
            have hg1 : sl.getD (k + 1) 0 = sl[k + 1] := by simp [hjl]
            have hg0 : sl.getD k 0 = sl[k] := by simp [hkl]
            have Hg1 := Lib.hid hg1
            have Hg0 := Lib.hid hg0
            have Hup := Lib.hid hup
            clear hrows hrn hup hg1 hg0
            go_upto_region 20 with fail
            by_cases hday : (certOf cm sl[k + 1]).day < (certOf cm sl[k]).day
            · go_quiet (fail)
              go_wp2_with fail
              go_ret2
              exact ReadPost.err (k := 6) (by
                have : daysUp cm sl = false := daysUp_false (k := k) (by omega) (by rw [Hg1.out, Hg0.out]; exact hday)
                simp [bookErr, h8, h24, hai, hac, Hrl.out, Hsi.out, this]) (by decide) rfl (HB5.drewN _)
            · go_quiet (fail)
              go_wp2_with fail
              go_roundg (ns.length - (k + 1 + 1))
              case measure => omega
              case rel =>
                refine ⟨k + 1 + 1, rfl, by omega, by go_num, fun i h => ?_, hB5.drewN _⟩
                by_cases hik : i = k
                · subst hik; rw [Hg1.out, Hg0.out]; omega
                · exact Hup.out i (by omega)
        · obtain rfl : j = ns.length := by omega
          have Hup := Lib.hid hup
          clear hup
          go_wp2_with fail
          go_ret2
          refine .inr ⟨?_, w2.heap.size + 1, cm, ns, Hrl.out, rfl, HB5, by omega, ⟨_, _, _, _, hwo5, (hi0.below HB5).mono (fun _ _ _ => trivial), (hc0.below HB5).mono (fun _ _ _ => trivial), hm5, ?_, trivial, trivial⟩⟩
          · have : daysUp cm sl = true := daysUp_true (fun i h => Hup.out i (by have := Hlen.out; omega))
            simp [bookErr, h8, h24, hai, hac, Hrl.out, Hsi.out, this]
          · rw [Hsi.out]; exact (hrd0.below hB5).mono (fun _ _ _ => trivial)
end Go.Proofs.YthcolbjbafilcaaGreat
