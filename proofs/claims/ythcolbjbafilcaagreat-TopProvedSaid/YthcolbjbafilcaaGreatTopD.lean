/-
  The statements' blocks: what package chain says of each item, as gauge blocks.
-/
import Derived.Test.YthcolbjbafilcaaGreatTopC
set_option linter.unusedSimpArgs false
set_option linter.unusedVariables false
namespace Go.Proofs.YthcolbjbafilcaaGreat
open Go.RowKit Go.Shelf Go.Sort
attribute [local go_sem] Oper.semAt_some

def blockAt (items : List Item) (certs : List Cert) (words : List Int) (day bias : Int) (j : Nat) : Block :=
  ⟨⟨wi ((spanVal items certs j day).lo + 50000), wi ((spanVal items certs j day).hi + 50000)⟩, wi (wi (trueOf (items.getD j default) (wordOf words j) day + bias) + 50000)⟩
def blockFits (b : Block) : Bool := decide (0 ≤ b.value.lo) && decide (b.value.hi ≤ 100000) && inB b.read 0 100000
def blocksTo (items : List Item) (certs : List Cert) (words : List Int) (day bias : Int) : Nat → List Block
  | 0 => []
  | k + 1 => blocksTo items certs words day bias k ++ if spanErr items certs k day = 0 ∧ blockFits (blockAt items certs words day bias k) = true then [blockAt items certs words day bias k] else []
theorem blocksTo_len (items : List Item) (certs : List Cert) (words : List Int) (day bias : Int) : ∀ k, (blocksTo items certs words day bias k).length ≤ k
  | 0 => Nat.le_refl _
  | k + 1 => by
    have := blocksTo_len items certs words day bias k
    simp only [blocksTo, List.length_append]
    split <;> simp <;> omega
theorem info_rblock : (Tryz.prog.info? 115).map (fun i => (i.zero, i.size, i.bytes)) = some (some (.agg #[I 0, I 0, I 0]), 3, 24) := by kernel_rfl
def BlocksPost (l : List Block) (w : World) (e : Ending) (w' : World) : Prop := ∃ v, e = .returned (.tuple #[v, .bool true]) ∧ BlocksIs (w.heap.size ≤ ·) w' v l ∧ Below w.heap.size w w'
set_option maxRecDepth 100000 in
set_option maxHeartbeats 4000000 in
theorem blocks_any (L : LibSaid) (ok : Nat → Prop) (vi vc vw : Value) (items : List Item) (certs : List Cert) (words : List Int) (day bias : Int) (w : World) (hil : items.length ≤ 1000) (hcl : certs.length ≤ 1000)
    (hi : ItemsIs ok w vi items) (hc : CertsIs ok w vc certs) (hw : WordsIs ok w vw words) (hu : U16 words) (hwl : words.length ≤ 9223372036854775807) (hio : ∀ x ∈ items, x.ok = true) (hd : 0 ≤ day ∧ day ≤ 1000)
    (hE : ∀ j : Nat, j < items.length → spanErr items certs j day = 0 ∨ spanErr items certs j day = 10) :
    Calls Tryz.prog 10 #[.agg #[vi, vc], I day, I bias, vw] w (BlocksPost (blocksTo items certs words day bias items.length) w) := by
  have Hi := Lib.hid hi
  have Hc := Lib.hid hc
  obtain ⟨ai, ci, rfl, hci, -⟩ := hi
  obtain ⟨ac, cc, rfl, hcc, -⟩ := hc
  go_enter Tryz.func10, Tryz.ntmps10
  go_wp2_with fail
  refine name_world ?_
  intro W0 hW0
  have hB0 : Below w.heap.size w W0 := by rw [hW0]; exact below_alloc _ _
  have h4 : W0.heap[w.heap.size]? = some (.cells #[.slice ai items.length ci, .slice ac certs.length cc] 25 (0, 0)) := by rw [hW0]; exact heap_new _ _ rfl
  have hz : w.heap.size + 1 ≤ W0.heap.size := by rw [hW0]; simp
  have hz' : W0.heap.size ≤ w.heap.size + 1 := by rw [hW0]; simp
  clear hW0
  have H4 := Lib.hid h4
  clear h4
  go_loopg [10, 11] items.length (fun g v i wr => ∃ (j : Nat) (u : Value), g = items.length - j ∧ j ≤ items.length ∧ i = I j ∧ u = v ∧ Owns Block.cells 3 W0.heap.size 115 wr u (blocksTo items certs words day bias j) ∧ Below W0.heap.size W0 wr)
  case atStart => exact ⟨0, _, rfl, Nat.zero_le _, rfl, rfl, Owns.nil _, Below.refl _ _⟩
  case round =>
    obtain ⟨j, sv, rfl, hj, rfl, rfl, hown, HBr⟩ := hrel
    have h4 := (HBr.block w.heap.size (by omega)).trans H4.out
    have c0 : wr.cell? ⟨w.heap.size, 0, none⟩ = some (.slice ai items.length ci) := cell_of_heap h4 0
    have c1 : wr.cell? ⟨w.heap.size, 1, none⟩ = some (.slice ac certs.length cc) := cell_of_heap h4 1
    have hzw : w.heap.size < wr.heap.size := by have := HBr.size; omega
    have HBw : Below w.heap.size w wr := hB0.trans (HBr.mono (by omega))
    have H4r := Lib.hid h4
    have Hown := Lib.hid hown
    clear h4 hown
    by_cases hlt : j < items.length
    · have hlt' : (j : Int) < (items.length : Int) := by omega
      go_wp2_with fail
      refine (lbook_any ok ok (.slice ai items.length ci) (.slice ac certs.length cc) items certs _ hil hcl (Hi.out.below HBw) (Hc.out.below HBw)).mono ?_
      rintro e w1 ⟨v1, u1, rfl, hI1, hC1, hB1⟩
      go_wp2_with fail
      refine (Span_any L v1 u1 items certs (fun _ => True) j day w1 hil hcl (hI1.mono (fun _ _ _ => trivial)) (hC1.mono (fun _ _ _ => trivial))).mono ?_
      rintro e w2 ⟨rfl, hB2⟩
      have HB2 := below_from hB1 hB2
      clear hI1 hC1 hB1 hB2
      have hE1 := hE j hlt
      have Hto : Hid (blocksTo items certs words day bias (j + 1) = blocksTo items certs words day bias j ++ if spanErr items certs j day = 0 ∧ blockFits (blockAt items certs words day bias j) = true then [blockAt items certs words day bias j] else []) := Lib.hid rfl
      rcases hE1 with h0 | h10
      · rw [h0]
        rw [h0] at Hto
        go_wp2_with fail
        refine name_world ?_
        intro W3 hW3
        have hB3 : Below w2.heap.size w2 W3 := by rw [hW3]; exact below_alloc _ _
        have h12 : W3.heap[w2.heap.size]? = some (.cells #[I (spanVal items certs j day).lo, I (spanVal items certs j day).hi] 96 (0, 0)) := by rw [hW3]; exact heap_new _ _ rfl
        clear hW3
        have HB3 := below_from HB2 hB3
        have h4 := (HB3.block _ hzw).trans H4r.out
        have HBw3 : Below w.heap.size w W3 := HBw.trans (HB3.mono HBw.size)
        have a0 : W3.cell? ⟨w.heap.size, 0, none⟩ = some (.slice ai items.length ci) := cell_of_heap h4 0
        have a1 : W3.cell? ⟨w.heap.size, 1, none⟩ = some (.slice ac certs.length cc) := cell_of_heap h4 1
        have Hbk : Hid (blockAt items certs words day bias j = ⟨⟨wi ((spanVal items certs j day).lo + 50000), wi ((spanVal items certs j day).hi + 50000)⟩, wi (wi (trueOf items[j] (wordOf words j) day + bias) + 50000)⟩) := Lib.hid (by simp [blockAt, hlt])
        have hok := hio items[j] (List.getElem_mem hlt)
        have HT : Hid (∀ W' : World, Below W3.heap.size W3 W' → Calls Tryz.prog 26 #[.agg #[.slice ai items.length ci, .slice ac certs.length cc], I j, I day, vw] W' fun e w' => e = .returned (I (trueOf items[j] (wordOf words j) day)) ∧ Below W'.heap.size W' w') := Lib.hid (fun W' hB =>
          true_any ok _ _ vw items words j day _ hlt hil hd hok hu hwl (Hi.out.below (HBw3.trans (hB.mono HBw3.size))) (hw.below (HBw3.trans (hB.mono HBw3.size))))
        generalize spanVal items certs j day = s at *
        generalize trueOf items[j] (wordOf words j) day = T at *
        obtain ⟨lo, hi'⟩ := s
        have b0 : W3.cell? ⟨w2.heap.size, 0, none⟩ = some (I lo) := cell_of_heap h12 0
        have b1 : W3.cell? ⟨w2.heap.size, 1, none⟩ = some (I hi') := cell_of_heap h12 1
        have hz2 := heap_at h12
        have hzw3 := heap_at h4
        have HS : Hid (∀ W' : World, Below W3.heap.size W3 W' → (W'.cell? ⟨w2.heap.size, 0, none⟩ = some (I lo) ∧ W'.cell? ⟨w2.heap.size, 1, none⟩ = some (I hi') ∧ W'.cell? ⟨w.heap.size, 0, none⟩ = some (.slice ai items.length ci) ∧ W'.cell? ⟨w.heap.size, 1, none⟩ = some (.slice ac certs.length cc))) := Lib.hid (fun W' hB =>
          ⟨(hB.cell (p := ⟨w2.heap.size, 0, none⟩) hz2).trans b0, (hB.cell (p := ⟨w2.heap.size, 1, none⟩) hz2).trans b1, (hB.cell (p := ⟨w.heap.size, 0, none⟩) hzw3).trans a0, (hB.cell (p := ⟨w.heap.size, 1, none⟩) hzw3).trans a1⟩)
        have ew1 : IntKind.i64.wrap (lo + 50000) = wi (lo + 50000) := IntWalk.i64_left _
        have ew2 : IntKind.i64.wrap (hi' + 50000) = wi (hi' + 50000) := IntWalk.i64_left _
        have ew3 : IntKind.i64.wrap (T + bias) = wi (T + bias) := IntWalk.i64_left _
        have ew4 : IntKind.i64.wrap (wi (T + bias) + 50000) = wi (wi (T + bias) + 50000) := IntWalk.i64_left _
        generalize wi (lo + 50000) = lo2 at *
        generalize wi (hi' + 50000) = hi2 at *
        generalize wi (wi (T + bias) + 50000) = rd2 at *
        clear a0 a1 b0 b1 h12 h4 c0 c1
        go_cut [14] from 15 to 68 (fun s14 wc => ∃ bb, s14 = .pointer (some ⟨bb, 0, none⟩) ∧ wc.heap[bb]? = some (.cells #[I lo2, I hi2, I rd2] 115 (0, 0)) ∧ Below W3.heap.size W3 wc)
        case first =>
          go_region_held3 (fun W' => W'.cell? ⟨w2.heap.size, 0, none⟩ = some (I lo) ∧ W'.cell? ⟨w2.heap.size, 1, none⟩ = some (I hi') ∧ W'.cell? ⟨w.heap.size, 0, none⟩ = some (.slice ai items.length ci) ∧ W'.cell? ⟨w.heap.size, 1, none⟩ = some (.slice ac certs.length cc))
            ((refine HS.out _ ?_
              repeat (first
                | with_reducible assumption
                | with_reducible exact Below.refl _ _
                | exact Nat.le_refl _
                | with_reducible refine Below.drew ?_
                | with_reducible refine below_al ?_ _
                | with_reducible refine below_from ?_ hB
                | with_reducible refine Below.setCell ?_ ?_ _
                | (simp; done)
                | (simp; omega)
                | omega)))
            ((go_at_call 26
              refine (HT.out _ (by first | exact (Below.refl _ _).drew | exact (below_alloc _ _).drew)).mono ?_
              rintro e w1 ⟨rfl, hB⟩
              have hkB : Below W3.heap.size W3 w1 := by first | exact below_from (Below.refl _ W3).drew hB | exact below_from (below_alloc W3 _).drew hB
              obtain ⟨hcB, hfB⟩ := bcell hB
              have hzB := hB.size
              try simp only [size_drew] at hcB hfB hzB))
          all_goals
            go_wp2_with fail
            go_meet
            first
              | exact ⟨_, rfl, setCell_heap (setCell_heap (setCell_heap ((hB.block W3.heap.size (by simp)).trans (heap_new W3 _ rfl)) 0 (I lo2)) 1 (I hi2)) 2 (I rd2), ((hkB.setCell (p := ⟨W3.heap.size, 0, none⟩) (Nat.le_refl _) _).setCell (p := ⟨W3.heap.size, 1, none⟩) (Nat.le_refl _) _).setCell (p := ⟨W3.heap.size, 2, none⟩) (Nat.le_refl _) _⟩
              | exact ⟨_, rfl, heap_new _ _ rfl, below_al hkB _⟩
        case rest =>
          obtain ⟨wA, rfl⟩ : ∃ x : World, x = wc := ⟨_, rfl⟩
          obtain ⟨bb, rfl, hbb, HB4⟩ := hcut
          have m0 : wA.cell? ⟨bb, 0, none⟩ = some (I lo2) := cell_of_heap hbb 0
          have m1 : wA.cell? ⟨bb, 1, none⟩ = some (I hi2) := cell_of_heap hbb 1
          have m2 : wA.cell? ⟨bb, 2, none⟩ = some (I rd2) := cell_of_heap hbb 2
          have HBA := below_from HB3 HB4
          have hnot : blockFits ⟨⟨lo2, hi2⟩, rd2⟩ = false → Owns Block.cells 3 W0.heap.size 115 wA sv (blocksTo items certs words day bias (j + 1)) := fun h => by
            rw [Hto.out, Hbk.out, h]; simp only [Bool.false_eq_true, and_false, if_false, List.append_nil]
            exact Hown.out.below HBA
          have Hnot := Lib.hid hnot
          clear hnot
          by_cases q1 : 0 ≤ lo2
          · by_cases q2 : hi2 ≤ 100000
            · go_wp2_with fail
              refine (hin_any _ _ _ _).mono ?_
              rintro e w' ⟨rfl, rfl⟩
              cases q3 : inB rd2 0 100000 with
              | false =>
                go_wp2_with fail
                go_roundg (items.length - (j + 1))
                case measure => omega
                case rel =>
                  exact ⟨j + 1, sv, rfl, by omega, by go_num, rfl, Hnot.out (by simp [blockFits, q3]), HBr.trans (HBA.mono HBr.size)⟩
              | true =>
                have Hyes : Hid (blocksTo items certs words day bias (j + 1) = blocksTo items certs words day bias j ++ [⟨⟨lo2, hi2⟩, rd2⟩]) := Lib.hid (by
                  rw [Hto.out, Hbk.out, if_pos ⟨by simp, by simp [blockFits, q1, q2, q3]⟩])
                have hlen : (blocksTo items certs words day bias j).length ≤ 1000 := Nat.le_trans (blocksTo_len ..) (by omega)
                have HownA := Lib.hid (Hown.out.below HBA)
                have hbv : ∀ k, sv.ownBlock = some k → W0.heap.size ≤ k := fun k hk => (Hown.out.lt k hk).1
                have hszA : W0.heap.size ≤ wA.heap.size := by have := HBA.size; have := HBr.size; omega
                have HrA : Below W0.heap.size W0 wA := HBr.trans (HBA.mono HBr.size)
                generalize blocksTo items certs words day bias j = Lb at *
                obtain ⟨i0, hi, hy0, hy1, hy2⟩ := info_parts info_rblock
                go_wp2_with (at_builtin; refine wpList_append_lies _ rfl _ _ 37 rfl W0.heap.size 115 i0 _ 3 24 Tryz.underlying37 hi hy0 hy1 hy2 rfl (by decide) sv Lb.length (Lb.flatMap Block.cells) rfl (World.ownsRow.alloc HownA.out _) ⟨wA.heap.size, 0, none⟩ 1 1 [I lo2, I hi2, I rd2] rfl rfl ?c1 ?c2 ?c3 ?c4 ?c5 ?c6 (wA.heap.size + 1) ?c7 ?_)
                case c1 => exact World.news_of_block (cs := #[I lo2, I hi2, I rd2]) (t := 115) (fr := (0, 0)) (heap_new wA _ rfl)
                case c2 => simp [Value.oneCell']
                case c3 => omega
                case c4 => unfold maxLen; omega
                case c5 => omega
                case c6 => simp; omega
                case c7 => simp
                intro gg cap w5 hown5 hgrow hat hlt5
                have Hown5 := Lib.hid hown5
                have hK5 : Kept (fun i => some i = sv.ownBlock) wA w5 := ((Kept.refl _ wA).alloc _).trans (grown_kept hgrow)
                clear hown5
                go_wp2_with fail
                go_roundg (items.length - (j + 1))
                case measure => omega
                case rel =>
                  refine ⟨j + 1, .slice (some ⟨gg, 0, none⟩) (Lb.length + 1) cap, rfl, by omega, by go_num, rfl, ?_, HrA.trans ⟨hK5.os, hK5.tape, hK5.output, hK5.size, fun i hi => hK5.block i (by omega) (fun h => by have := hbv _ h.symm; omega)⟩⟩
                  rw [Hyes.out]
                  exact Owns.of_snoc Hown5.out (by simp) rfl
            · have q2' : decide (hi2 ≤ 100000) = false := by simpa using q2
              have Hq := Lib.hid q2'
              clear q2'
              go_wp2_with fail
              go_roundg (items.length - (j + 1))
              case measure => omega
              case rel =>
                exact ⟨j + 1, sv, rfl, by omega, by go_num, rfl, Hnot.out (by simp [blockFits, Hq.out]), HBr.trans (HBA.mono HBr.size)⟩
          · have q1' : decide (0 ≤ lo2) = false := by simpa using q1
            have Hq := Lib.hid q1'
            clear q1'
            go_wp2_with fail
            go_roundg (items.length - (j + 1))
            case measure => omega
            case rel =>
              exact ⟨j + 1, sv, rfl, by omega, by go_num, rfl, Hnot.out (by simp only [blockFits, Hq.out, Bool.false_and]), HBr.trans (HBA.mono HBr.size)⟩
      · rw [h10]
        rw [h10] at Hto
        go_wp2_with fail
        go_roundg (items.length - (j + 1))
        case measure => omega
        case rel =>
          refine ⟨j + 1, sv, rfl, by omega, by go_num, rfl, ?_, HBr.trans ((below_from HB2 (below_alloc _ _)).mono HBr.size)⟩
          rw [Hto.out, if_neg (by simp), List.append_nil]
          exact Hown.out.below (below_from HB2 (below_alloc _ _))
    · obtain rfl : j = items.length := by omega
      go_wp2_with fail
      go_ret2
      exact ⟨_, rfl, (Hown.out.read (fun _ => rfl) (by decide)).mono (fun b h _ => by omega), HBw⟩
end Go.Proofs.YthcolbjbafilcaaGreat
