/-
  chain: (*work).of, the certificates of an item that are valid on a day, as an iterator; (*work).held, which ones hold.
-/
import Derived.RangeFuncNested
import Derived.RangeFuncBound
import Derived.RangeFuncCalls
import Derived.RangeFuncLeaves
import Derived.RangeFuncBox
import Derived.OwnWalkIn
import Derived.TacticsInMore
import Derived.LoopNIn
import Derived.LoopIn
import Derived.Sort.LoopGhostIn
import Derived.Test.YthcolbjbafilcaaGreatChainB
set_option linter.unusedSimpArgs false
set_option linter.unusedVariables false
namespace Go.Proofs.YthcolbjbafilcaaGreat
open Go.RowKit Go.Shelf
attribute [local go_sem] Oper.semAt_some

def onB (c : Cert) (day : Int) : Bool := inB day c.day (wrap64 (c.day + c.valid))
set_option maxHeartbeats 400000 in
theorem on_any (c : Cert) (t : Int) (w : World) :
    Calls Tryz.prog 120 #[c.v, I t] w fun e w' => e = .returned (.bool (onB c t)) ∧ Below w.heap.size w w' := by
  obtain ⟨n, it, by_, d, v, ⟨lo, hi⟩⟩ := c
  go_enter Tryz.func120, Tryz.ntmps120
  go_wp2_with (go_at_call 118; refine (within_any _ _ _ _).mono ?_; rintro e w' ⟨rfl, rfl⟩)
  go_ret
  exact ⟨rfl, below_alloc _ _⟩
def ofTest (cm : List (Int × Cert)) (item day below n : Int) : Bool := decide (n < below) && ((certOf cm n).item == item) && onB (certOf cm n) day
def ofList (cm : List (Int × Cert)) (ns : List Int) (item day below : Int) : List Cert := (ns.filter (ofTest cm item day below)).map (certOf cm)
theorem ofList_take (cm : List (Int × Cert)) (ns : List Int) (item day below : Int) {k : Nat} (h : k < ns.length) : ofList cm (ns.take (k + 1)) item day below = ofList cm (ns.take k) item day below ++ if ofTest cm item day below ns[k] then [certOf cm ns[k]] else [] := by
  unfold ofList
  rw [List.take_succ_eq_append_getElem h, List.filter_append, List.map_append]
  congr 1
  by_cases ht : ofTest cm item day below ns[k] <;> simp [ht]
theorem ofList_len (cm : List (Int × Cert)) (ns : List Int) (item day below : Int) : (ofList cm ns item day below).length ≤ ns.length := by
  unfold ofList; simp only [List.length_map]; exact List.length_filter_le _ _
theorem ofList_pre (cm : List (Int × Cert)) (ns : List Int) (item day below : Int) (k : Nat) : ofList cm (ns.take k) item day below <+: ofList cm ns item day below := by
  unfold ofList
  exact ((List.take_prefix k ns).filter _).map _
theorem below_grown {w w' : World} (h : Below w.heap.size w w') : w.grownBy w' none := ⟨h.os, h.tape, h.output, h.size, fun k hk _ => h.block k hk⟩

theorem WorkIs.kept {S : Nat → Prop} {ok : Nat → Prop} {w w' : World} {bw : Nat} {items : List Item} {certs : List Cert} {cm : List (Int × Cert)} {ns : List Int} (h : WorkIs ok w bw items certs cm ns) (hk : Kept S w w') (hs : ∀ b, ok b → ¬ S b) : WorkIs ok w' bw items certs cm ns := by
  obtain ⟨vi, vc, r, vn, h1, h2, h3, h4, h5, h6, h7⟩ := h.lies
  exact ⟨vi, vc, r, vn, (hk.block bw (heap_at h1) (hs _ h6)).trans h1, h2.kept hk hs, h3.kept hk hs, h4.kept hk (hs _ h7), h5.kept hk hs, h6, h7⟩
theorem WorkIs.mono {ok ok' : Nat → Prop} {w : World} {bw : Nat} {items : List Item} {certs : List Cert} {cm : List (Int × Cert)} {ns : List Int} (h : WorkIs ok w bw items certs cm ns) (hs : ∀ b, ok b → b < w.heap.size → ok' b) : WorkIs ok' w bw items certs cm ns := by
  obtain ⟨vi, vc, r, vn, h1, h2, h3, h4, h5, h6, h7⟩ := h.lies
  exact ⟨vi, vc, r, vn, h1, h2.mono hs, h3.mono hs, h4, h5.mono hs, hs _ h6 (heap_at h1), hs _ h7 h4.lt⟩
theorem WorkIs.below {ok : Nat → Prop} {w w' : World} {bw : Nat} {items : List Item} {certs : List Cert} {cm : List (Int × Cert)} {ns : List Int} (h : WorkIs ok w bw items certs cm ns) (hB : Below w.heap.size w w') : WorkIs ok w' bw items certs cm ns :=
  h.kept (S := fun _ => False) (Kept.below hB) (fun _ _ x => x)

set_option maxRecDepth 100000 in
set_option maxHeartbeats 2000000 in
theorem of1_in (n : Nat) (S : Nat → Prop) (l B1 B2 B3 B4 bw : Nat) (item day below : Int) (items : List Item) (certs : List Cert) (cm : List (Int × Cert)) (ns : List Int) (J Jx : List Cert → World → Prop)
    (hS1 : ¬ S B1) (hS2 : ¬ S B2) (hS3 : ¬ S B3) (hS4 : ¬ S B4) (W : World) (hJ : AbidesFrom W.heap.size J)
    (hY : ∀ pre x W, J pre W → pre.length < ns.length → YieldAt Fence.wide (n - 1) Tryz.prog l #[.agg #[I x.number, I x.item, I x.by_, I x.day, I x.valid, I x.diff.lo, I x.diff.hi]] W fun e W' =>
      (e = .returned (.bool true) ∧ J (pre ++ [x]) W' ∧ Kept S W W') ∨ (e = .returned (.bool false) ∧ Jx (pre ++ [x]) W'))
    (h1 : W.cell? ⟨B1, 0, none⟩ = some (.pointer (some ⟨bw, 0, none⟩))) (h2 : W.cell? ⟨B2, 0, none⟩ = some (I below)) (h3 : W.cell? ⟨B3, 0, none⟩ = some (I item)) (h4 : W.cell? ⟨B4, 0, none⟩ = some (I day))
    (hw : WorkIs (fun b => ¬ S b) W bw items certs cm ns) (hns : ns.length ≤ 1000) (h0 : J [] W) :
    CallsIn Fence.wide n Tryz.prog 119 #[.func (.yield l) #[] #[], .pointer (some ⟨B1, 0, none⟩), .pointer (some ⟨B2, 0, none⟩), .pointer (some ⟨B3, 0, none⟩), .pointer (some ⟨B4, 0, none⟩)] W fun e W' => (∃ v, e = .returned v) ∧
      ((∃ ys, ys = ofList cm ns item day below ∧ J ys W') ∨ (∃ pre, pre <+: ofList cm ns item day below ∧ Jx pre W')) := by
  have hw0 := hw
  obtain ⟨vi, vc, r, vn, hwo, -, -, hmap, ⟨an, cn, rfl, hcn, hrn⟩, hok, hokr⟩ := hw.lies
  obtain ⟨wc0, wc1, wc2, wc3, -, -⟩ := work_cells hwo
  refine callsIn_of_wp Tryz.func119 rfl trivial ?_ rfl
  simp only [Tryz.ntmps119, List.size_toArray, List.length_cons, List.length_nil, Nat.reduceAdd, Nat.reduceSub, Array.replicate_succ, Array.replicate_zero, List.push_toArray, List.append_toArray, List.nil_append, List.cons_append]
  gi_wp2
  gi_loopg [14] ns.length (fun g i wr => ∃ k : Nat, g = ns.length - k ∧ k ≤ ns.length ∧ i = I k ∧ J (ofList cm (ns.take k) item day below) wr ∧ Kept S W wr)
  case atStart => exact ⟨0, rfl, Nat.zero_le _, rfl, h0, Kept.refl _ _⟩
  case round =>
    obtain ⟨k, rfl, hk, rfl, hJs, hK⟩ := hrel
    by_cases hlt : k < ns.length
    · obtain ⟨b, o, rfl, hokb, hb, hrows⟩ := hrn (by omega)
      have hx0 := (hrows k ns[k] (List.getElem?_eq_getElem hlt)).of_block (hK.block b hb hokb) |>.c0
      rw [Nat.mul_one] at hx0
      have g1 := (hK.cell (p := ⟨B1, 0, none⟩) (World.block_lt_of_cell? _ _ h1) hS1).trans h1
      have g2 := (hK.cell (p := ⟨B2, 0, none⟩) (World.block_lt_of_cell? _ _ h2) hS2).trans h2
      have g3 := (hK.cell (p := ⟨B3, 0, none⟩) (World.block_lt_of_cell? _ _ h3) hS3).trans h3
      have g4 := (hK.cell (p := ⟨B4, 0, none⟩) (World.block_lt_of_cell? _ _ h4) hS4).trans h4
      have hwo1 := (hK.block bw (heap_at hwo) hok).trans hwo
      have hm1 := hmap.kept hK hokr
      have hlk := (lookup_cert hm1 ns[k] wr rfl).1
      have hz2 : B2 < wr.heap.size := World.block_lt_of_cell? _ _ g2
      have hz3 : B3 < wr.heap.size := World.block_lt_of_cell? _ _ g3
      have hz4 : B4 < wr.heap.size := World.block_lt_of_cell? _ _ g4
      obtain ⟨wd0, wd1, wd2, wd3, -, -⟩ := work_cells hwo1
      have Htk := Lib.hid (ofList_take cm ns item day below hlt)
      have Htest := Lib.hid (show ofTest cm item day below ns[k] = (decide (ns[k] < below) && ((certOf cm ns[k]).item == item) && onB (certOf cm ns[k]) day) from rfl)
      have Hlen := Lib.hid (ofList_len cm (ns.take k) item day below)
      have hskip : ofTest cm item day below ns[k] = false → ∀ w', J (ofList cm (ns.take k) item day below) w' → J (ofList cm (ns.take (k + 1)) item day below) w' := fun h w' hj => by rw [Htk.out, h]; simpa using hj
      have Hskip := Lib.hid hskip
      clear hrows hrn h1 h2 h3 h4 hwo hmap hskip wc0 wc1 wc2 wc3
      generalize hce : certOf cm ns[k] = c at *
      have Hce := Lib.hid hce
      clear hce
      have hal := fun (o : Obj) => hJ _ _ _ none hJs (World.grownBy_alloc wr o none) (by simp)
      by_cases t1 : ns[k] < below
      · cases t2 : (c.item == item) with
        | false =>
          gi_wp2
          refine ⟨trivial, ?_⟩
          gi_wp2
          refine ⟨fun _ h => (by cases h), ?_⟩
          gi_wp2
          go_roundg (ns.length - (k + 1))
          case rel => exact ⟨k + 1, rfl, by omega, by go_num, Hskip.out (by rw [Htest.out, t2]; simp) _ (hal _), hK.alloc _⟩
          case measure => omega
        | true =>
          gi_wp2_with fail
          refine ⟨trivial, fun h => absurd h (by decide), ?_⟩
          refine (callsIn_wide.2 (on_any c day _)).mono ?_
          rintro e w1 ⟨rfl, hB1⟩
          have hB0 : Below wr.heap.size wr w1 := below_from (below_alloc _ _) hB1
          have hJ1 := hJ _ _ _ none hJs (below_grown hB0) (by simp)
          have hK1 := hK.trans (Kept.below hB0)
          obtain ⟨hc1, hf1⟩ := bcell hB1
          cases t3 : onB c day with
          | false =>
            gi_wp2
            refine ⟨fun _ h => (by cases h), ?_⟩
            gi_wp2
            go_roundg (ns.length - (k + 1))
            case rel => exact ⟨k + 1, rfl, by omega, by go_num, Hskip.out (by rw [Htest.out, t3]; simp) _ hJ1, hK1⟩
            case measure => omega
          | true =>
            obtain ⟨fn, tmps, assign, body, hy, hR⟩ := hY _ c w1 hJ1 (by have := Hlen.out; simp at this; omega)
            have Hnew := Lib.hid (show ofList cm (ns.take (k + 1)) item day below = ofList cm (ns.take k) item day below ++ [c] from by rw [Htk.out, Htest.out]; simp [t1, t2, t3, Hce.out])
            gi_wp2
            refine ⟨fun h => absurd h (by decide), ?_⟩
            refine hR.mono ?_
            rintro e w2 (⟨rfl, hJ3, hk3⟩ | ⟨rfl, hJx3⟩)
            · gi_wp2
              go_roundg (ns.length - (k + 1))
              case rel => exact ⟨k + 1, rfl, by omega, by go_num, by rw [Hnew.out]; exact hJ3, hK1.trans hk3⟩
              case measure => omega
            · gi_wp2
              refine bodyPost_ret (results_none rfl _ _ _) rfl ?_
              exact ⟨⟨_, rfl⟩, .inr ⟨_, by rw [← Hnew.out]; exact ofList_pre cm ns item day below _, hJx3⟩⟩
      · have t1' : decide (ns[k] < below) = false := by simpa using t1
        gi_wp2
        refine ⟨trivial, ?_⟩
        gi_wp2
        refine ⟨fun _ h => (by cases h), ?_⟩
        gi_wp2
        go_roundg (ns.length - (k + 1))
        case rel => exact ⟨k + 1, rfl, by omega, by go_num, Hskip.out (by rw [Htest.out, t1']; simp) _ (hal _), hK.alloc _⟩
        case measure => omega
    · obtain rfl : k = ns.length := by omega
      rw [List.take_length] at hJs
      have HJ := Lib.hid hJs
      gi_wp2
      go_end0
      exact ⟨⟨_, rfl⟩, .inl ⟨_, rfl, HJ.out⟩⟩
end Go.Proofs.YthcolbjbafilcaaGreat
