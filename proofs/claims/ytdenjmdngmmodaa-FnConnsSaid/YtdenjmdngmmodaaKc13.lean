/- Connections, the other hand: every segment is taken, as called. | Connections, the other hand: taking a segment, as called. -/
import Derived.Test.YtdenjmdngmmodaaKcCs6
import Derived.Test.YtdenjmdngmmodaaKcCs7
import Derived.Test.YtdenjmdngmmodaaKc10
namespace Go.Proofs.Ytdenjmdngmmodaa
open Go.RowKit
set_option linter.unusedVariables false
set_option linter.unusedSimpArgs false
set_option maxRecDepth 200000
set_option maxHeartbeats 4000000

theorem l10Take_ok (c : Cn) (g : Sg) (hc : CnOK c) (hg : SegOK g.src g.dst g.seq g.ack g.flags g.space g.data) (x : Cn × List Sg) (hx : takeC c g = x) (w : World) :
    Calls Try.prog 106 #[.agg c.cells, .agg g.cells] w (CsRet w x) := by
  have B4 : (bits .and .i64 (g.flags : Int) 4 = 0 ∧ Nat.land g.flags 4 = 0) ∨ (bits .and .i64 (g.flags : Int) 4 = 4 ∧ Nat.land g.flags 4 = 4) := bits_and g.flags hg.flags 4 (by simp)
  have B2 : (bits .and .i64 (g.flags : Int) 2 = 0 ∧ Nat.land g.flags 2 = 0) ∨ (bits .and .i64 (g.flags : Int) 2 = 2 ∧ Nat.land g.flags 2 = 2) := bits_and g.flags hg.flags 2 (by simp)
  have B16 : (bits .and .i64 (g.flags : Int) 16 = 0 ∧ Nat.land g.flags 16 = 0) ∨ (bits .and .i64 (g.flags : Int) 16 = 16 ∧ Nat.land g.flags 16 = 16) := bits_and g.flags hg.flags 16 (by simp)
  have B1 : (bits .and .i64 (g.flags : Int) 1 = 0 ∧ Nat.land g.flags 1 = 0) ∨ (bits .and .i64 (g.flags : Int) 1 = 1 ∧ Nat.land g.flags 1 = 1) := bits_and g.flags hg.flags 1 (by simp)
  by_cases h4 : c.st = 4
  · exact cs_gone c g h4 x hx w
  rcases B4 with ⟨b4, n4⟩ | ⟨b4, n4⟩
  · rcases B2 with ⟨b2, n2⟩ | ⟨b2, n2⟩
    · rcases B16 with ⟨b16, n16⟩ | ⟨b16, n16⟩
      · exact cs_noack c g h4 b4 n4 b2 n2 b16 n16 x hx w
      · rcases B1 with ⟨b1, n1⟩ | ⟨b1, n1⟩
        · exact cs_main0 c g hc hg h4 b4 n4 b2 n2 b16 n16 b1 n1 x hx w
        · exact cs_main1 c g hc hg h4 b4 n4 b2 n2 b16 n16 b1 n1 _ rfl x hx w
    · exact cs_syn c g hc hg.seq h4 b4 n4 b2 n2 x hx w
  · exact cs_rst c g h4 b4 n4 x hx w
end Go.Proofs.Ytdenjmdngmmodaa
namespace Go.Proofs.Ytdenjmdngmmodaa
open Go.RowKit
set_option linter.unusedVariables false
set_option linter.unusedSimpArgs false
set_option maxRecDepth 200000
set_option maxHeartbeats 4000000

theorem sConnTake_ok (c : Cn) (g : Sg) (hc : CnOK c) (hg : SegOK g.src g.dst g.seq g.ack g.flags g.space g.data) (r : Cn × List Sg) (hr : takeC c g = r) (w : World) :
    Calls Try.prog 46 #[.agg c.cells, .agg g.cells] w fun e w' => ∃ v, e = .returned (.tuple #[.agg r.1.cells, v, .int .i64 0]) ∧ SgL w.heap.size r.2 v w' ∧ Below w.heap.size w w' := by
  have HR := Lib.hid hr
  have HK := Lib.hid (And.intro hc hg)
  clear hc hg hr
  go_enter Try.func46, Try.ntmps46
  go_wp2_with fail
  generalize hw0 : World.alloc w (.cells c.cells 48) = wa
  have hblk : wa.heap[World.heap w |>.size]? = some (.cells c.cells 48 (0, 0)) := by rw [← hw0]; exact heap_alloc_new _ _
  have hlt : (World.heap w).size < wa.heap.size := (Array.getElem?_eq_some_iff.1 hblk).1
  have hB0 : Below (World.heap w).size w wa := by rw [← hw0]; exact (Below.refl _ _).alloc (Nat.le_refl _) _
  have hsz : (World.heap wa).size = (World.heap w).size + 1 := by rw [← hw0]; simp
  clear hw0
  rw [← hsz]
  have X1 := And.intro hblk (And.intro hlt hB0)
  clear hblk hlt hB0 hsz
  generalize hw0 : World.alloc wa (.cells g.cells 55) = wb
  have hblk : wb.heap[World.heap wa |>.size]? = some (.cells g.cells 55 (0, 0)) := by rw [← hw0]; exact heap_alloc_new _ _
  have hlt : (World.heap wa).size < wb.heap.size := (Array.getElem?_eq_some_iff.1 hblk).1
  have hB0 : Below (World.heap wa).size wa wb := by rw [← hw0]; exact (Below.refl _ _).alloc (Nat.le_refl _) _
  have hsz : (World.heap wb).size = (World.heap wa).size + 1 := by rw [← hw0]; simp
  clear hw0
  rw [← hsz]
  have X2 := And.intro hblk (And.intro hlt hB0)
  clear hblk hlt hB0 hsz
  generalize hw0 : World.alloc wb (.cells #[.string ⟨#[]⟩, .int .i64 0, .int .i64 0, .int .i64 0, .int .i64 0, .int .i64 0, .int .i64 0, .int .i64 0, .string ⟨#[]⟩, .string ⟨#[]⟩, .bool false] 48) = wc
  have hblk : wc.heap[World.heap wb |>.size]? = some (.cells #[.string ⟨#[]⟩, .int .i64 0, .int .i64 0, .int .i64 0, .int .i64 0, .int .i64 0, .int .i64 0, .int .i64 0, .string ⟨#[]⟩, .string ⟨#[]⟩, .bool false] 48 (0, 0)) := by rw [← hw0]; exact heap_alloc_new _ _
  have hlt : (World.heap wb).size < wc.heap.size := (Array.getElem?_eq_some_iff.1 hblk).1
  have hB0 : Below (World.heap wb).size wb wc := by rw [← hw0]; exact (Below.refl _ _).alloc (Nat.le_refl _) _
  clear hw0
  have L1 : LeB wa wc := LeB.tr X2.2.2 hB0
  have HX := Lib.hid (CtR.mk (w0 := w) ((L1.block _ X1.2.1).trans X1.1) ((hB0.block _ X2.2.1).trans X2.1) hblk (LeB.tr X1.2.2 L1) (Nat.le_refl _) (Nat.le_trans X1.2.2.size X2.2.2.size) (Nat.ne_of_gt (Nat.lt_of_lt_of_le X1.2.1 X2.2.2.size)) (Nat.ne_of_gt X1.2.1) (Nat.ne_of_lt X2.2.1))
  clear X1 X2 hblk hlt hB0 L1
  refine (sConnOK_true c HK.out.1 wc).mono ?_
  rintro e w1 ⟨rfl, hB1⟩
  have H1 := Lib.hid (HX.out.below hB1)
  clear HX hB1
  have d0 := blk_cell H1.out.sg 0
  have d1 := blk_cell H1.out.sg 1
  have d2 := blk_cell H1.out.sg 2
  have d3 := blk_cell H1.out.sg 3
  have d4 := blk_cell H1.out.sg 4
  have d5 := blk_cell H1.out.sg 5
  have d6 := blk_cell H1.out.sg 6
  simp at d0 d1 d2 d3 d4 d5 d6
  go_wp2_with fail
  refine (l02Segment_true _ _ _ _ _ _ _ HK.out.2 w1).mono ?_
  rintro e w2 ⟨rfl, hB2⟩
  have H2 := Lib.hid (H1.out.below hB2)
  clear H1 hB2 d0 d1 d2 d3 d4 d5 d6
  have c0 := blk_cell H2.out.cn 0
  have c1 := blk_cell H2.out.cn 1
  have c2 := blk_cell H2.out.cn 2
  have c3 := blk_cell H2.out.cn 3
  have c4 := blk_cell H2.out.cn 4
  have c5 := blk_cell H2.out.cn 5
  have c6 := blk_cell H2.out.cn 6
  have c7 := blk_cell H2.out.cn 7
  have c8 := blk_cell H2.out.cn 8
  have c9 := blk_cell H2.out.cn 9
  have c10 := blk_cell H2.out.cn 10
  simp at c0 c1 c2 c3 c4 c5 c6 c7 c8 c9 c10
  have d0 := blk_cell H2.out.sg 0
  have d1 := blk_cell H2.out.sg 1
  have d2 := blk_cell H2.out.sg 2
  have d3 := blk_cell H2.out.sg 3
  have d4 := blk_cell H2.out.sg 4
  have d5 := blk_cell H2.out.sg 5
  have d6 := blk_cell H2.out.sg 6
  simp at d0 d1 d2 d3 d4 d5 d6
  go_wp2_with fail
  refine (l10Take_ok c g HK.out.1 HK.out.2 r HR.out w2).mono ?_
  rintro e w3 ⟨v, rfl, hl, hB3⟩
  obtain ⟨rc, rl⟩ := r
  dsimp only at hl ⊢
  have H3 := Lib.hid (And.intro (H2.out.below hB3) hl)
  clear hl hB3 c0 c1 c2 c3 c4 c5 c6 c7 c8 c9 c10 d0 d1 d2 d3 d4 d5 d6
  go_upto_region 4 with (fail)
  generalize hw0 : World.alloc w3 (.cells rc.cells 48) = w4
  have hblk : w4.heap[World.heap w3 |>.size]? = some (.cells rc.cells 48 (0, 0)) := by rw [← hw0]; exact heap_alloc_new _ _
  have hlt : (World.heap w3).size < w4.heap.size := (Array.getElem?_eq_some_iff.1 hblk).1
  have hB0 : Below (World.heap w3).size w3 w4 := by rw [← hw0]; exact (Below.refl _ _).alloc (Nat.le_refl _) _
  clear hw0
  have c0 := blk_cell hblk 0
  have c1 := blk_cell hblk 1
  have c2 := blk_cell hblk 2
  have c3 := blk_cell hblk 3
  have c4 := blk_cell hblk 4
  have c5 := blk_cell hblk 5
  have c6 := blk_cell hblk 6
  have c7 := blk_cell hblk 7
  have c8 := blk_cell hblk 8
  have c9 := blk_cell hblk 9
  have c10 := blk_cell hblk 10
  simp at c0 c1 c2 c3 c4 c5 c6 c7 c8 c9 c10
  have H4 := Lib.hid (And.intro (H3.out.1.below hB0) (H3.out.2.below hB0))
  clear hblk hlt hB0 H3
  go_wp2_with (refine wpList_store_row rfl _ _ 48 rfl wb.heap.size 48 _ _ rfl rfl H4.out.1.rs rfl infoCn rfl ?_)
  refine bodyPost_ret (ret_cell3 (x := v) (y := .int .i64 0) rfl rfl rfl rfl (setRow_heap _ _ _ _ _ _ H4.out.1.rs) Try.underlying48 rfl infoCn) rfl ?_
  have hbw : wb.heap.size < w2.heap.size := (Array.getElem?_eq_some_iff.1 H2.out.rs).1
  exact ⟨v, rfl, (H4.out.2.setRow hbw _).more H2.out.bl.size, below_setRow H4.out.1.bl H4.out.1.hr _⟩
end Go.Proofs.Ytdenjmdngmmodaa
