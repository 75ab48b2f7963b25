/- The law of connections. -/
import Derived.Test.YtdenjmdngmmodaaKc16
import Derived.Test.YtdenjmdngmmodaaKc13
import Derived.Test.YtdenjmdngmmodaaKc14
import Derived.Test.YtdenjmdngmmodaaKc07
import Derived.Deep.Cut
namespace Go.Proofs.Ytdenjmdngmmodaa
open Go.RowKit
set_option linter.unusedVariables false
set_option linter.unusedSimpArgs false
set_option maxRecDepth 200000
set_option maxHeartbeats 4000000

def lawφ (B : Nat) (b0 bs : List UInt8) : Nat → Option Spec
  | 2 => some (ByRow b0)
  | 4 => some (BsSp bs)
  | 6 => some fun _ v _ => AnV v
  | 7 => some (NewAt B sgZero 55)
  | _ => none
theorem lawφ_st {B : Nat} {b0 bs : List UInt8} : ∀ j sp x v w w', lawφ B b0 bs j = some sp → LeB w w' → sp x v w → sp x v w' := by
  intro j sp x v w w' hj hL h
  unfold lawφ at hj
  split at hj
  · cases hj; exact ByRow.st hL h
  · cases hj; exact BsSp.st hL h
  · cases hj; exact h
  · cases hj; exact NewAt.st hL h
  · cases hj

theorem takeC_len (c : Cn) (g : Sg) : (takeC c g).2.length ≤ 3 := by
  unfold takeC
  repeat' split
  all_goals simp
theorem againC_len (c : Cn) : (againC c).length ≤ 3 := by
  unfold againC piecesC
  repeat' split
  all_goals simp

theorem FnConns_ok (A : Option Addr) (c : Nat) (bs : List UInt8) (A2 : Option Addr) (c2 : Nat) (bs2 : List UInt8) (hc : bs.length ≤ c) (hc2 : bs2.length ≤ c2) (w : World) (hr : Rd w A (bs.map bV)) (hr2 : Rd w A2 (bs2.map bV)) :
    Calls Try.prog 8 #[.slice A bs.length c, .slice A2 bs2.length c2] w fun e w' => e = .returned (.bool true) ∧ Below w.heap.size w w' := by
  by_cases h1 : 1048576 < bs.length
  · have g1 : (1048576 : Int) < bs.length := by omega
    go_enter Try.func8, Try.ntmps8
    go_wp2
    go_ret
    exact ⟨rfl, Below.refl _ _⟩
  have g1 : decide ((1048576 : Int) < bs.length) = false := by simp; omega
  by_cases h2 : 1048576 < bs2.length
  · have g2 : (1048576 : Int) < bs2.length := by omega
    go_enter Try.func8, Try.ntmps8
    go_wp2
    go_ret
    exact ⟨rfl, Below.refl _ _⟩
  have g2 : decide ((1048576 : Int) < bs2.length) = false := by simp; omega
  have hb2 : bs2.length ≤ 1048576 := by omega
  go_enter Try.func8, Try.ntmps8
  go_wp2_with fail
  refine (ConnOf_ok A c bs (by omega) w hr).mono ?_
  rintro e w1 ⟨v, rfl, ⟨c0, rfl, hc0⟩, hB1⟩
  have HI := Lib.hid (And.intro hb2 (And.intro hr2 (And.intro hc0 hB1)))
  clear g1 g2 h1 h2 hr hr2 hc0 hB1 hb2
  go_wp2_with fail
  generalize hw0 : World.alloc w1 (.cells c0.cells 48) = w2
  have hblk : w2.heap[World.heap w1 |>.size]? = some (.cells c0.cells 48 (0, 0)) := by rw [← hw0]; exact heap_alloc_new _ _
  have hlt : (World.heap w1).size < w2.heap.size := (Array.getElem?_eq_some_iff.1 hblk).1
  have hB0 : Below (World.heap w1).size w1 w2 := by rw [← hw0]; exact (Below.refl _ _).alloc (Nat.le_refl _) _
  clear hw0
  have HL := Lib.hid (And.intro hblk (And.intro (LeB.tr HI.out.2.2.2 hB0) (And.intro (show w.heap.size ≤ w1.heap.size from HI.out.2.2.2.size) hlt)))
  clear hblk hlt hB0
  go_wp2_with fail
  go_loopw [6] (fun iv wr => ∃ (j : Nat) (c : Cn), iv = .int .i64 j ∧ j ≤ 5 ∧ CnOK c ∧ wr.heap[w1.heap.size]? = some (.cells c.cells 48 (0, 0)) ∧ LeB w wr) (fun iv _ => (5 - (intOf iv).toNat))
  case atStart => exact ⟨0, c0, rfl, by omega, HI.out.2.2.1, HL.out.1, HL.out.2.1⟩
  case round =>
    obtain ⟨j, cc, rfl, hj5, hcc, hblk, hB⟩ := hrel
    have HR := Lib.hid (And.intro hcc (And.intro hblk (And.intro hB (Array.getElem?_eq_some_iff.1 hblk).1)))
    clear hcc hblk hB
    by_cases hj : j = 5
    · subst hj
      go_wp2_with fail
      go_ret
      exact ⟨rfl, HR.out.2.2.1⟩
    · have hjI : (j : Int) < 5 := by omega
      have e5 : Value.int .u8 (j : Int) = bV (UInt8.ofNat j) := by
        have : j = 0 ∨ j = 1 ∨ j = 2 ∨ j = 3 ∨ j = 4 := by omega
        rcases this with rfl | rfl | rfl | rfl | rfl <;> rfl
      have HE := Lib.hid (And.intro e5 hj5)
      clear e5 hj hj5
      go_wp2_with fail
      rename_i K20 h20
      have H20 := Lib.hid h20
      clear h20
      refine wp_region_lex 8 (by kernel_rfl) (by kernel_rfl) (JB wr) LeB (lawφ wr.heap.size [UInt8.ofNat j] (UInt8.ofNat j :: bs2)) lawφ_st JB.mono ?_ ?_
      · exact (Below.refl _ _).drew
      simp only [List.take_succ_cons, List.take_zero, List.drop_succ_cons, List.drop_zero, pairs, List.zipIdx_cons, List.zipIdx_nil, List.map_cons, List.map_nil, Nat.zero_add, Nat.reduceAdd]
      (repeat (refine lex_pure rfl rfl (fun K hK => ?_); go_simp; refine hK _ ?_; clear hK K; try simp (disch := omega) only [IntWalk.i64_in, IntWalk.u8_in, Int.add_sub_cancel, Int.tmod_eq_emod_of_nonneg, Int.tdiv_eq_ediv_of_nonneg]))
      refine lex_eff' (sp := ByRow [UInt8.ofNat j]) rfl rfl (by intro _ _ _ _ h; exact h) (fun m W hJ hF => ?_) (fun v x hh => ?_) rfl
      · have hb : Below W.heap.size W (W.alloc (.cells #[.int .u8 (j : Int)] 5)) := (Below.refl _ _).alloc (Nat.le_refl _) _
        refine gives_value (v := .slice (some ⟨W.heap.size, 0, none⟩) 1 1) (w' := W.alloc (.cells #[.int .u8 (j : Int)] 5)) (by go_simp) ⟨hJ.step hb, hb, W.heap.size, rfl, ?_⟩
        have h := Rd.block (heap_alloc_new W (.cells #[.int .u8 (j : Int)] 5)) 0
        rw [HE.out.1] at h
        rw [HE.out.1]
        simpa using h
      obtain ⟨_, _, -, ⟨bb, rfl, -⟩, -⟩ := hh
      (repeat (refine lex_pure rfl rfl (fun K hK => ?_); go_simp; refine hK _ ?_; clear hK K; try simp (disch := omega) only [IntWalk.i64_in, IntWalk.u8_in, Int.add_sub_cancel, Int.tmod_eq_emod_of_nonneg, Int.tdiv_eq_ediv_of_nonneg]))
      refine lex_eff' (sp := BsSp (UInt8.ofNat j :: bs2)) rfl rfl (by intro _ _ _ _ h; exact h) (fun m W hJ hF => ?_) (fun v x hh => ?_) rfl
      · obtain ⟨b', hb', hrd⟩ := hF 2 (by kernel_rfl) _ _ _ (by simp [upd]; exact ⟨rfl, rfl⟩) rfl
        cases hb'
        obtain ⟨A', c', w', hrun, hc', hr', hB'⟩ := append_full W bb 1 [UInt8.ofNat j] rfl hrd A2 c2 bs2 (HI.out.2.1.below (LeB.tr HR.out.2.2.1 hJ) (Nat.le_refl _)) (by have := HI.out.1; omega)
        exact gives_append _ _ _ _ rfl rfl rfl hrun ⟨hJ.step hB', hB', A', c', rfl, hc', hr'⟩
      obtain ⟨_, _, -, ⟨A4, c4, rfl, -, -⟩, -⟩ := hh
      refine lex_load rfl rfl (.agg (Cn.cells cc)) (fun m W hJ hF => run_exec_load rfl rfl ((hJ.block _ HR.out.2.2.2).trans HR.out.2.1) Try.underlying48 rfl infoCn) ?_
      refine lex_eff' (sp := fun _ v _ => AnV v) rfl rfl (by intro _ _ _ _ h; exact h) (fun m W hJ hF => ?_) (fun v x hh => ?_) rfl
      · obtain ⟨A', c', hA', hc', hr'⟩ := hF 4 (by kernel_rfl) _ _ _ (by simp [upd]; exact ⟨rfl, rfl⟩) rfl
        cases hA'
        refine gives_call Try.call45 ((AnswerOf_ok A4 c4 (UInt8.ofNat j :: bs2) (by simp; have := HI.out.1; omega) cc HR.out.1 W hr').mono ?_)
        rintro e w' ⟨v, rfl, hv, h4⟩
        exact ⟨_, rfl, hJ.step h4, h4, hv⟩
      obtain ⟨_, _, -, ⟨sg, rfl, hsg⟩, -⟩ := hh
      refine lex_eff' (sp := NewAt wr.heap.size sgZero 55) rfl rfl (by intro _ _ _ _ h; exact h) (fun m W hJ hF => ?_) (fun v x hh => ?_) rfl
      · have hb : Below W.heap.size W (W.alloc (.cells sgZero 55)) := (Below.refl _ _).alloc (Nat.le_refl _) _
        exact gives_value (v := .pointer (some ⟨W.heap.size, 0, none⟩)) (by go_simp; rfl) ⟨hJ.step hb, hb, W.heap.size, rfl, hJ.size, heap_alloc_new _ _⟩
      obtain ⟨_, _, -, ⟨s7, rfl, -, -⟩, -⟩ := hh
      refine lex_nil (fun m W hJ hF => ?_)
      obtain ⟨s', hs', hsB, hsb⟩ := hF 7 rfl _ _ _ rfl rfl
      cases hs'
      have HW := Lib.hid (And.intro hsg (And.intro hsB (And.intro hsb hJ)))
      clear hF hJ hsg hsB hsb
      go_wp2_with (refine wpList_store_row rfl _ _ 55 rfl s7 55 _ _ rfl rfl HW.out.2.2.1 rfl infoSg rfl ?_)
      obtain ⟨w4, hw4, X4⟩ : ∃ x, W.setRow s7 sg.cells = x ∧ x.heap[w1.heap.size]? = some (.cells cc.cells 48 (0, 0)) ∧ x.heap[s7]? = some (.cells sg.cells 55 (0, 0)) ∧ LeB w x ∧ w1.heap.size < x.heap.size ∧ s7 < x.heap.size := by
        have k1 := HW.out.2.2.2.block _ HR.out.2.2.2
        have k2 := HR.out.2.2.2
        have k3 := HW.out.2.1
        have k4 : LeB w W := LeB.tr HR.out.2.2.1 HW.out.2.2.2
        have e1 := (setRow_other W s7 w1.heap.size sg.cells (by omega)).trans (k1.trans HR.out.2.1)
        have e2 := setRow_heap W s7 _ sg.cells _ _ HW.out.2.2.1
        exact ⟨_, rfl, e1, e2, below_setRow k4 (Nat.le_trans HR.out.2.2.1.size k3) _, (Array.getElem?_eq_some_iff.1 e1).1, (Array.getElem?_eq_some_iff.1 e2).1⟩
      rw [hw4]
      have H4 := Lib.hid X4
      have HSG := Lib.hid HW.out.1
      clear hw4 X4 HW
      refine H20.out _ _ ?_
      clear H20
      have c0 := blk_cell H4.out.1 0
      have c1 := blk_cell H4.out.1 1
      have c2 := blk_cell H4.out.1 2
      have c3 := blk_cell H4.out.1 3
      have c4 := blk_cell H4.out.1 4
      have c5 := blk_cell H4.out.1 5
      have c6 := blk_cell H4.out.1 6
      have c7 := blk_cell H4.out.1 7
      have c8 := blk_cell H4.out.1 8
      have c9 := blk_cell H4.out.1 9
      have c10 := blk_cell H4.out.1 10
      simp at c0 c1 c2 c3 c4 c5 c6 c7 c8 c9 c10
      have d0 := blk_cell H4.out.2.1 0
      have d1 := blk_cell H4.out.2.1 1
      have d2 := blk_cell H4.out.2.1 2
      have d3 := blk_cell H4.out.2.1 3
      have d4 := blk_cell H4.out.2.1 4
      have d5 := blk_cell H4.out.2.1 5
      have d6 := blk_cell H4.out.2.1 6
      simp at d0 d1 d2 d3 d4 d5 d6
      go_wp2_with fail
      refine (ConnTake_ok cc sg HR.out.1 HSG.out w4).mono ?_
      rintro e w5 ⟨v5, rfl, hl5, hB5⟩
      have hnx := takeC_OK HR.out.1 HSG.out
      have hwant := takeC_want cc sg HR.out.1.want HSG.out.data
      have hlen := takeC_len cc sg
      obtain ⟨r, hr⟩ : ∃ r, takeC cc sg = r := ⟨_, rfl⟩
      rw [hr] at hl5 hnx hwant hlen ⊢
      obtain ⟨nx, ls⟩ := r
      dsimp only at hl5 hnx hwant hlen
      dsimp only
      have HLN := Lib.hid hlen
      have H5 := Lib.hid (And.intro hl5 (And.intro hB5 (And.intro hnx (And.intro hwant hr))))
      clear hl5 hB5 hnx hwant hr hlen c0 c1 c2 c3 c4 c5 c6 c7 c8 c9 c10 d0 d1 d2 d3 d4 d5 d6
      go_upto_region 9 with (fail)
      generalize hw0 : World.alloc w5 (.cells nx.cells 48) = w6
      have hblk : w6.heap[World.heap w5 |>.size]? = some (.cells nx.cells 48 (0, 0)) := by rw [← hw0]; exact heap_alloc_new _ _
      have hlt : (World.heap w5).size < w6.heap.size := (Array.getElem?_eq_some_iff.1 hblk).1
      have hB0 : Below (World.heap w5).size w5 w6 := by rw [← hw0]; exact (Below.refl _ _).alloc (Nat.le_refl _) _
      clear hw0
      have L46 : LeB w4 w6 := LeB.tr H5.out.2.1 hB0
      have H6 := Lib.hid (And.intro hblk (And.intro hlt (And.intro ((L46.block _ H4.out.2.2.2.1).trans H4.out.1) (And.intro ((L46.block _ H4.out.2.2.2.2).trans H4.out.2.1) (And.intro L46 (H5.out.1.below hB0))))))
      clear hblk hlt hB0 L46
      have c0 := blk_cell H6.out.2.2.1 0
      have c1 := blk_cell H6.out.2.2.1 1
      have c2 := blk_cell H6.out.2.2.1 2
      have c3 := blk_cell H6.out.2.2.1 3
      have c4 := blk_cell H6.out.2.2.1 4
      have c5 := blk_cell H6.out.2.2.1 5
      have c6 := blk_cell H6.out.2.2.1 6
      have c7 := blk_cell H6.out.2.2.1 7
      have c8 := blk_cell H6.out.2.2.1 8
      have c9 := blk_cell H6.out.2.2.1 9
      have c10 := blk_cell H6.out.2.2.1 10
      simp at c0 c1 c2 c3 c4 c5 c6 c7 c8 c9 c10
      have d0 := blk_cell H6.out.2.2.2.1 0
      have d1 := blk_cell H6.out.2.2.2.1 1
      have d2 := blk_cell H6.out.2.2.2.1 2
      have d3 := blk_cell H6.out.2.2.2.1 3
      have d4 := blk_cell H6.out.2.2.2.1 4
      have d5 := blk_cell H6.out.2.2.2.1 5
      have d6 := blk_cell H6.out.2.2.2.1 6
      simp at d0 d1 d2 d3 d4 d5 d6
      go_wp2_with fail
      refine (sConnTake_ok cc sg HR.out.1 HSG.out (nx, ls) H5.out.2.2.2.2 w6).mono ?_
      rintro e w7 ⟨v7, rfl, hl7, hB7⟩
      dsimp only at hl7
      dsimp only
      have H7 := Lib.hid (And.intro hl7 hB7)
      clear hl7 hB7 c0 c1 c2 c3 c4 c5 c6 c7 c8 c9 c10 d0 d1 d2 d3 d4 d5 d6
      go_upto_region 10 with (fail)
      generalize hw0 : World.alloc w7 (.cells nx.cells 48) = w8
      have hblk : w8.heap[World.heap w7 |>.size]? = some (.cells nx.cells 48 (0, 0)) := by rw [← hw0]; exact heap_alloc_new _ _
      have hlt : (World.heap w7).size < w8.heap.size := (Array.getElem?_eq_some_iff.1 hblk).1
      have hB0 : Below (World.heap w7).size w7 w8 := by rw [← hw0]; exact (Below.refl _ _).alloc (Nat.le_refl _) _
      clear hw0
      have L68 : LeB w6 w8 := LeB.tr H7.out.2 hB0
      have hb8 := (L68.block _ H6.out.2.1).trans H6.out.1
      have H8 := Lib.hid (And.intro hb8 (And.intro (Nat.lt_of_lt_of_le H6.out.2.1 L68.size) (And.intro ((L68.block _ (Array.getElem?_eq_some_iff.1 H6.out.2.2.1).1).trans H6.out.2.2.1) (And.intro ((L68.block _ (Array.getElem?_eq_some_iff.1 H6.out.2.2.2.1).1).trans H6.out.2.2.2.1) (And.intro (LeB.tr H4.out.2.2.1 (LeB.tr H6.out.2.2.2.2.1 L68)) (And.intro (H6.out.2.2.2.2.2.below L68) (And.intro (H7.out.1.below hB0) (And.intro hblk hlt))))))))
      have c0 := blk_cell hb8 0
      have c1 := blk_cell hb8 1
      have c2 := blk_cell hb8 2
      have c3 := blk_cell hb8 3
      have c4 := blk_cell hb8 4
      have c5 := blk_cell hb8 5
      have c6 := blk_cell hb8 6
      have c7 := blk_cell hb8 7
      have c8 := blk_cell hb8 8
      have c9 := blk_cell hb8 9
      have c10 := blk_cell hb8 10
      simp at c0 c1 c2 c3 c4 c5 c6 c7 c8 c9 c10
      have d0 := blk_cell hblk 0
      have d1 := blk_cell hblk 1
      have d2 := blk_cell hblk 2
      have d3 := blk_cell hblk 3
      have d4 := blk_cell hblk 4
      have d5 := blk_cell hblk 5
      have d6 := blk_cell hblk 6
      have d7 := blk_cell hblk 7
      have d8 := blk_cell hblk 8
      have d9 := blk_cell hblk 9
      have d10 := blk_cell hblk 10
      simp at d0 d1 d2 d3 d4 d5 d6 d7 d8 d9 d10
      clear hblk hlt hB0 L68 hb8
      go_wp2_with fail
      refine (sameSegments_ok ls v5 v7 _ _ w8 H8.out.2.2.2.2.2.1 H8.out.2.2.2.2.2.2.1 (by have := HLN.out; omega)).mono ?_
      rintro e w9 ⟨rfl, nq, rfl⟩
      go_wp2_with fail
      refine (ConnOK_true nx H5.out.2.2.1 (w8.drewN nq)).mono ?_
      rintro e w10 ⟨rfl, hB10⟩
      have L1 : LeB w8 w10 := LeB.tr (below_drewN (Below.refl _ _) nq) hB10
      have k1 := (L1.block _ H8.out.2.1).trans H8.out.1
      have k2 := (L1.block _ (Array.getElem?_eq_some_iff.1 H8.out.2.2.1).1).trans H8.out.2.2.1
      have k3 := (L1.block _ (Array.getElem?_eq_some_iff.1 H8.out.2.2.2.1).1).trans H8.out.2.2.2.1
      obtain ⟨n, hn⟩ : ∃ n, bhd nx.want cc.want = n := ⟨_, rfl⟩
      have e1 : bits .and .i64 ((nx.want : Int) - cc.want) 4294967295 = (n : Int) := and_bhd nx.want cc.want H5.out.2.2.1.want HR.out.1.want n hn
      have hw := H5.out.2.2.2.1
      rw [hn] at hw
      have i1 : (nx.want : Int) < 4294967296 := by have := H5.out.2.2.1.want; omega
      have i2 : (cc.want : Int) < 4294967296 := by have := HR.out.1.want; omega
      have i3 : decide ((sg.data.size : Int) + 1 < (n : Int)) = false := by simp; omega
      have i4 : decide ((300 : Int) < nx.inn.size) = false := by have := H5.out.2.2.1.inn; simp; omega
      have i5 : (cc.inn.size : Int) ≤ 300 := by have := HR.out.1.inn; omega
      have i6 : (sg.data.size : Int) ≤ 360 := by have := HSG.out.data; omega
      have H10 := Lib.hid (And.intro k1 (And.intro k2 (And.intro k3 (And.intro L1 hw))))
      clear c0 c1 c2 c3 c4 c5 c6 c7 c8 c9 c10 d0 d1 d2 d3 d4 d5 d6 d7 d8 d9 d10 hB10 L1 hw hn
      have c7 : w10.cell? ⟨w5.heap.size, 7, none⟩ = some (.int .i64 nx.want) := blk_cell k1 7
      have c8 : w10.cell? ⟨w5.heap.size, 8, none⟩ = some (.string nx.inn) := blk_cell k1 8
      have d7 : w10.cell? ⟨w1.heap.size, 7, none⟩ = some (.int .i64 cc.want) := blk_cell k2 7
      have d8 : w10.cell? ⟨w1.heap.size, 8, none⟩ = some (.string cc.inn) := blk_cell k2 8
      have g6 : w10.cell? ⟨s7, 6, none⟩ = some (.string sg.data) := blk_cell k3 6
      clear k1 k2 k3
      go_upto_region 15 with (fail)
      have hcase : n = 0 ∨ ((0 : Int) < (n : Int) ∧ cc.inn ++ sg.data = nx.inn) := by
        by_cases h0 : n = 0
        · exact .inl h0
        · exact .inr ⟨by omega, (H10.out.2.2.2.2.2 (by omega)).symm⟩
      clear i1 i2 i3 i4 e1
      rcases hcase with rfl | ⟨i7, i8⟩
      all_goals
        go_upto_region 17 with (fail)
        have c0 := blk_cell H10.out.1 0
        have c1 := blk_cell H10.out.1 1
        have c2 := blk_cell H10.out.1 2
        have c3 := blk_cell H10.out.1 3
        have c4 := blk_cell H10.out.1 4
        have c5 := blk_cell H10.out.1 5
        have c6 := blk_cell H10.out.1 6
        have c7 := blk_cell H10.out.1 7
        have c8 := blk_cell H10.out.1 8
        have c9 := blk_cell H10.out.1 9
        have c10 := blk_cell H10.out.1 10
        simp at c0 c1 c2 c3 c4 c5 c6 c7 c8 c9 c10
        go_wp2_with fail
        refine (ConnAgain_ok nx H5.out.2.2.1 w10).mono ?_
        rintro e w11 ⟨v11, rfl, hl11, hB11⟩
        have H11 := Lib.hid (And.intro hl11 (And.intro hB11 ((hB11.block _ (Array.getElem?_eq_some_iff.1 H10.out.1).1).trans H10.out.1)))
        clear c0 c1 c2 c3 c4 c5 c6 c7 c8 c9 c10 hl11 hB11 d7 d8 g6 i5 i6
        have c0 := blk_cell H11.out.2.2 0
        have c1 := blk_cell H11.out.2.2 1
        have c2 := blk_cell H11.out.2.2 2
        have c3 := blk_cell H11.out.2.2 3
        have c4 := blk_cell H11.out.2.2 4
        have c5 := blk_cell H11.out.2.2 5
        have c6 := blk_cell H11.out.2.2 6
        have c7 := blk_cell H11.out.2.2 7
        have c8 := blk_cell H11.out.2.2 8
        have c9 := blk_cell H11.out.2.2 9
        have c10 := blk_cell H11.out.2.2 10
        simp at c0 c1 c2 c3 c4 c5 c6 c7 c8 c9 c10
        go_wp2_with fail
        refine (sConnAgain_ok nx H5.out.2.2.1 w11).mono ?_
        rintro e w12 ⟨v12, rfl, hl12, hB12⟩
        have H12 := Lib.hid (And.intro (H11.out.1.below hB12) (And.intro hl12 hB12))
        clear c0 c1 c2 c3 c4 c5 c6 c7 c8 c9 c10 hl12 hB12
        go_wp2_with fail
        refine (sameSegments_ok (againC nx) v11 v12 _ _ w12 H12.out.1 H12.out.2.1 (by have := againC_len nx; omega)).mono ?_
        rintro e w13 ⟨rfl, nq2, rfl⟩
        have L1 : LeB w10 (w12.drewN nq2) := below_drewN (LeB.tr H11.out.2.1 H12.out.2.2) nq2
        have k1 := (L1.block _ (Array.getElem?_eq_some_iff.1 H10.out.1).1).trans H10.out.1
        have k2 := (L1.block _ (Array.getElem?_eq_some_iff.1 H10.out.2.1).1).trans H10.out.2.1
        have k3 : LeB w (w12.drewN nq2) := LeB.tr H8.out.2.2.2.2.1 (LeB.tr H10.out.2.2.2.1 L1)
        obtain ⟨w14, hw14⟩ : ∃ x, w12.drewN nq2 = x := ⟨_, rfl⟩
        rw [hw14] at k1 k2 k3 ⊢
        have H14 := Lib.hid (And.intro k2 k3)
        have c0 := blk_cell k1 0
        have c1 := blk_cell k1 1
        have c2 := blk_cell k1 2
        have c3 := blk_cell k1 3
        have c4 := blk_cell k1 4
        have c5 := blk_cell k1 5
        have c6 := blk_cell k1 6
        have c7 := blk_cell k1 7
        have c8 := blk_cell k1 8
        have c9 := blk_cell k1 9
        have c10 := blk_cell k1 10
        simp at c0 c1 c2 c3 c4 c5 c6 c7 c8 c9 c10
        clear L1 k1 k2 k3 hw14
        go_wp2_with (refine wpList_store_row rfl _ _ 48 rfl w1.heap.size 48 _ _ rfl rfl H14.out.1 rfl infoCn rfl ?_)
        go_roundw
        case rel => exact ⟨j + 1, nx, by go_num, by have := HE.out.2; omega, H5.out.2.2.1, setRow_heap _ _ _ _ _ _ H14.out.1, below_setRow H14.out.2 HL.out.2.2.1 _⟩
        case measure => simp [intOf]; omega
end Go.Proofs.Ytdenjmdngmmodaa
