/- Connections, the other hand: a segment with an end is taken. -/
import Derived.Test.YtdenjmdngmmodaaKc10
namespace Go.Proofs.Ytdenjmdngmmodaa
open Go.RowKit
set_option linter.unusedVariables false
set_option linter.unusedSimpArgs false
set_option maxRecDepth 200000
set_option maxHeartbeats 8000000

theorem cs_main1 (c : Cn) (g : Sg) (hc : CnOK c) (hg : SegOK g.src g.dst g.seq g.ack g.flags g.space g.data) (h4 : ¬ c.st = 4) (b4 : bits .and .i64 (g.flags : Int) 4 = 0) (n4 : Nat.land g.flags 4 = 0) (b2 : bits .and .i64 (g.flags : Int) 2 = 0) (n2 : Nat.land g.flags 2 = 0) (b16 : bits .and .i64 (g.flags : Int) 16 = 16) (n16 : Nat.land g.flags 16 = 16) (b1 : bits .and .i64 (g.flags : Int) 1 = 1) (n1 : Nat.land g.flags 1 = 1) (em : Bool) (hd1 : g.data.toList.isEmpty = em) (x : Cn × List Sg) (hx : takeC c g = x) (w : World) :
    Calls Try.prog 106 #[.agg c.cells, .agg g.cells] w (CsRet w x) := by
  have h4I : ((c.st : Int) == 4) = false := by simp; omega
  obtain ⟨ca, hca⟩ : ∃ x, acked c g.ack = x := ⟨_, rfl⟩
  have hka := acked_OK hc hg.ack
  have hT : x = (if ca.st = 1 ∨ ca.st = 4 ∨ (g.data = ⟨#[]⟩ ∧ Nat.land g.flags 1 = 0) then (ca, [])
    else if g.seq = ca.want ∧ ca.inn.size + g.data.size ≤ 300 then
      ({ ca with inn := ca.inn ++ g.data, want := onw ca.want (g.data.size + Nat.land g.flags 1) }, [⟨80, ca.port, ca.nxt, onw ca.want (g.data.size + Nat.land g.flags 1), 16, 1000, ⟨#[]⟩⟩])
    else (ca, [⟨80, ca.port, ca.nxt, ca.want, 16, 1000, ⟨#[]⟩⟩])) := by
    rw [← hx, takeC, if_neg h4, if_neg (by rw [n4]; decide), if_neg (by rw [n2]; decide), if_neg (by rw [n16]; decide), hca]
  rw [hca] at hka
  have HT := Lib.hid hT
  have HCA := Lib.hid hca
  have HK2 := Lib.hid hka
  have N1 := Lib.hid n1
  have h8 : (ca.inn.size : Int) ≤ 8388608 := by have := hka.inn; omega
  have hd8 : (g.data.size : Int) ≤ 8388608 := by have := hg.data; omega
  have h7 : (ca.want : Int) < 4294967296 := by have := hka.want; omega
  have HK := Lib.hid (And.intro hc hg)
  clear hT hca hka n1 h4 n4 n2 n16 hx hc hg
  by_cases q1 : ca.st = 1
  · have q1I : (ca.st : Int) = 1 := by omega
    have HQ := Lib.hid q1
    clear q1
    go_enter Try.func106, Try.ntmps106
    go_upto_region 2 with (fail)
    generalize hw0 : World.alloc w (.cells c.cells 48) = wa
    have hblk : wa.heap[World.heap w |>.size]? = some (.cells c.cells 48 (0, 0)) := by rw [← hw0]; exact heap_alloc_new _ _
    have hlt : (World.heap w).size < wa.heap.size := (Array.getElem?_eq_some_iff.1 hblk).1
    have hB0 : Below (World.heap w).size w wa := by rw [← hw0]; exact (Below.refl _ _).alloc (Nat.le_refl _) _
    have hsz : (World.heap wa).size = (World.heap w).size + 1 := by rw [← hw0]; simp
    clear hw0
    rw [← hsz]
    have X1 := And.intro hblk (And.intro hlt hB0)
    clear hblk hlt hB0 hsz
    generalize hw0 : World.alloc wa (.cells g.cells 55) = wb
    have hblk : wb.heap[World.heap wa |>.size]? = some (.cells g.cells 55 (0, 0)) := by rw [← hw0]; exact heap_alloc_new _ _
    have hlt : (World.heap wa).size < wb.heap.size := (Array.getElem?_eq_some_iff.1 hblk).1
    have hB0 : Below (World.heap wa).size wa wb := by rw [← hw0]; exact (Below.refl _ _).alloc (Nat.le_refl _) _
    have hsz : (World.heap wb).size = (World.heap wa).size + 1 := by rw [← hw0]; simp
    clear hw0
    rw [← hsz]
    have X2 := And.intro hblk (And.intro hlt hB0)
    clear hblk hlt hB0 hsz
    generalize hw0 : World.alloc wb (.cells #[.string ⟨#[]⟩, .int .i64 0, .int .i64 0, .int .i64 0, .int .i64 0, .int .i64 0, .int .i64 0, .int .i64 0, .string ⟨#[]⟩, .string ⟨#[]⟩, .bool false] 48) = wc
    have hblk : wc.heap[World.heap wb |>.size]? = some (.cells #[.string ⟨#[]⟩, .int .i64 0, .int .i64 0, .int .i64 0, .int .i64 0, .int .i64 0, .int .i64 0, .int .i64 0, .string ⟨#[]⟩, .string ⟨#[]⟩, .bool false] 48 (0, 0)) := by rw [← hw0]; exact heap_alloc_new _ _
    have hlt : (World.heap wb).size < wc.heap.size := (Array.getElem?_eq_some_iff.1 hblk).1
    have hB0 : Below (World.heap wb).size wb wc := by rw [← hw0]; exact (Below.refl _ _).alloc (Nat.le_refl _) _
    have hsz : (World.heap wc).size = (World.heap wb).size + 1 := by rw [← hw0]; simp
    clear hw0
    rw [← hsz]
    have X3 := And.intro hblk (And.intro hlt hB0)
    clear hblk hlt hB0 hsz
    generalize hw0 : World.alloc wc (.cells #[] 55) = wd
    have hblk : wd.heap[World.heap wc |>.size]? = some (.cells #[] 55 (0, 0)) := by rw [← hw0]; exact heap_alloc_new _ _
    have hlt : (World.heap wc).size < wd.heap.size := (Array.getElem?_eq_some_iff.1 hblk).1
    have hB0 : Below (World.heap wc).size wc wd := by rw [← hw0]; exact (Below.refl _ _).alloc (Nat.le_refl _) _
    clear hw0
    have L2 : LeB wb wd := LeB.tr X3.2.2 hB0
    have L1 : LeB wa wd := LeB.tr X2.2.2 L2
    have HX := Lib.hid (CtR.mk (w0 := w) ((L1.block _ X1.2.1).trans X1.1) ((L2.block _ X2.2.1).trans X2.1) ((hB0.block _ X3.2.1).trans X3.1) (LeB.tr X1.2.2 L1) (Nat.le_refl _) (Nat.le_trans X1.2.2.size X2.2.2.size) (Nat.ne_of_gt (Nat.lt_of_lt_of_le X1.2.1 X2.2.2.size)) (Nat.ne_of_gt X1.2.1) (Nat.ne_of_lt X2.2.1))
    have HE := Lib.hid (And.intro (Nat.le_trans X1.2.2.size (Nat.le_trans X2.2.2.size X3.2.2.size)) hlt)
    clear X1 X2 X3 hblk hlt hB0 L1 L2
    have c0 := blk_cell HX.out.cn 0
    have c1 := blk_cell HX.out.cn 1
    have c2 := blk_cell HX.out.cn 2
    have c3 := blk_cell HX.out.cn 3
    have c4 := blk_cell HX.out.cn 4
    have c5 := blk_cell HX.out.cn 5
    have c6 := blk_cell HX.out.cn 6
    have c7 := blk_cell HX.out.cn 7
    have c8 := blk_cell HX.out.cn 8
    have c9 := blk_cell HX.out.cn 9
    have c10 := blk_cell HX.out.cn 10
    simp at c0 c1 c2 c3 c4 c5 c6 c7 c8 c9 c10
    have cf0 := blk_free HX.out.cn 0
    have cf1 := blk_free HX.out.cn 1
    have cf2 := blk_free HX.out.cn 2
    have cf3 := blk_free HX.out.cn 3
    have cf4 := blk_free HX.out.cn 4
    have cf5 := blk_free HX.out.cn 5
    have cf6 := blk_free HX.out.cn 6
    have cf7 := blk_free HX.out.cn 7
    have cf8 := blk_free HX.out.cn 8
    have cf9 := blk_free HX.out.cn 9
    have cf10 := blk_free HX.out.cn 10
    have d0 := blk_cell HX.out.sg 0
    have d1 := blk_cell HX.out.sg 1
    have d2 := blk_cell HX.out.sg 2
    have d3 := blk_cell HX.out.sg 3
    have d4 := blk_cell HX.out.sg 4
    have d5 := blk_cell HX.out.sg 5
    have d6 := blk_cell HX.out.sg 6
    simp at d0 d1 d2 d3 d4 d5 d6
    go_wp2_with fail
    rename_i K17 h17 K18 h18
    have H17 := Lib.hid h17
    clear h17
    refine (l10Acked_ok c g.ack HK.out.1 HK.out.2.ack ca HCA.out _).mono ?_
    rintro e w1 ⟨rfl, hB1⟩
    have HX1 := Lib.hid (HX.out.below hB1)
    have hs1 := hB1.size
    clear hB1 c0 c1 c2 c3 c4 c5 c6 c7 c8 c9 c10 cf0 cf1 cf2 cf3 cf4 cf5 cf6 cf7 cf8 cf9 cf10 d0 d1 d2 d3 d4 d5 d6
    go_wp2_with (refine wpList_store_row rfl _ _ 48 rfl w.heap.size 48 _ _ rfl rfl HX1.out.cn rfl infoCn rfl ?_)
    obtain ⟨w2, hw2, HY0⟩ : ∃ x, w1.setRow w.heap.size ca.cells = x ∧ CtR w x w.heap.size ca wa.heap.size g wb.heap.size ∧ wc.heap.size < x.heap.size := ⟨_, rfl, HX1.out.storeRow ca, by have := HE.out.2; simp [World.setRow]; omega⟩
    show K17 _ (World.setRow w1 w.heap.size ca.cells)
    rw [hw2]
    have HY := Lib.hid HY0
    clear hw2 HY0 hs1 HX1
    have c0 := blk_cell HY.out.1.cn 0
    have c1 := blk_cell HY.out.1.cn 1
    have c2 := blk_cell HY.out.1.cn 2
    have c3 := blk_cell HY.out.1.cn 3
    have c4 := blk_cell HY.out.1.cn 4
    have c5 := blk_cell HY.out.1.cn 5
    have c6 := blk_cell HY.out.1.cn 6
    have c7 := blk_cell HY.out.1.cn 7
    have c8 := blk_cell HY.out.1.cn 8
    have c9 := blk_cell HY.out.1.cn 9
    have c10 := blk_cell HY.out.1.cn 10
    simp at c0 c1 c2 c3 c4 c5 c6 c7 c8 c9 c10
    have cf0 := blk_free HY.out.1.cn 0
    have cf1 := blk_free HY.out.1.cn 1
    have cf2 := blk_free HY.out.1.cn 2
    have cf3 := blk_free HY.out.1.cn 3
    have cf4 := blk_free HY.out.1.cn 4
    have cf5 := blk_free HY.out.1.cn 5
    have cf6 := blk_free HY.out.1.cn 6
    have cf7 := blk_free HY.out.1.cn 7
    have cf8 := blk_free HY.out.1.cn 8
    have cf9 := blk_free HY.out.1.cn 9
    have cf10 := blk_free HY.out.1.cn 10
    have d0 := blk_cell HY.out.1.sg 0
    have d1 := blk_cell HY.out.1.sg 1
    have d2 := blk_cell HY.out.1.sg 2
    have d3 := blk_cell HY.out.1.sg 3
    have d4 := blk_cell HY.out.1.sg 4
    have d5 := blk_cell HY.out.1.sg 5
    have d6 := blk_cell HY.out.1.sg 6
    simp at d0 d1 d2 d3 d4 d5 d6
    refine H17.out _ _ ?_
    go_wp2_with (refine wpList_store_row rfl _ _ 48 rfl wb.heap.size 48 _ _ rfl rfl HY.out.1.rs rfl infoCn rfl ?_)
    refine bodyPost_ret (ret_cell_tmp rfl rfl (setRow_heap _ _ _ _ _ _ HY.out.1.rs) Try.underlying48 rfl infoCn) rfl ?_
    exact HY.out.1.retE HE.out.1 HY.out.2 _ (show x = (ca, []) by rw [HT.out, if_pos (.inl HQ.out)]) _ (by simp [HQ.out])
  have q1I : ((ca.st : Int) == 1) = false := by simp; omega
  by_cases q4 : ca.st = 4
  · have q4I : (ca.st : Int) = 4 := by omega
    have HQ := Lib.hid q4
    clear q1 q4
    go_enter Try.func106, Try.ntmps106
    go_upto_region 2 with (fail)
    generalize hw0 : World.alloc w (.cells c.cells 48) = wa
    have hblk : wa.heap[World.heap w |>.size]? = some (.cells c.cells 48 (0, 0)) := by rw [← hw0]; exact heap_alloc_new _ _
    have hlt : (World.heap w).size < wa.heap.size := (Array.getElem?_eq_some_iff.1 hblk).1
    have hB0 : Below (World.heap w).size w wa := by rw [← hw0]; exact (Below.refl _ _).alloc (Nat.le_refl _) _
    have hsz : (World.heap wa).size = (World.heap w).size + 1 := by rw [← hw0]; simp
    clear hw0
    rw [← hsz]
    have X1 := And.intro hblk (And.intro hlt hB0)
    clear hblk hlt hB0 hsz
    generalize hw0 : World.alloc wa (.cells g.cells 55) = wb
    have hblk : wb.heap[World.heap wa |>.size]? = some (.cells g.cells 55 (0, 0)) := by rw [← hw0]; exact heap_alloc_new _ _
    have hlt : (World.heap wa).size < wb.heap.size := (Array.getElem?_eq_some_iff.1 hblk).1
    have hB0 : Below (World.heap wa).size wa wb := by rw [← hw0]; exact (Below.refl _ _).alloc (Nat.le_refl _) _
    have hsz : (World.heap wb).size = (World.heap wa).size + 1 := by rw [← hw0]; simp
    clear hw0
    rw [← hsz]
    have X2 := And.intro hblk (And.intro hlt hB0)
    clear hblk hlt hB0 hsz
    generalize hw0 : World.alloc wb (.cells #[.string ⟨#[]⟩, .int .i64 0, .int .i64 0, .int .i64 0, .int .i64 0, .int .i64 0, .int .i64 0, .int .i64 0, .string ⟨#[]⟩, .string ⟨#[]⟩, .bool false] 48) = wc
    have hblk : wc.heap[World.heap wb |>.size]? = some (.cells #[.string ⟨#[]⟩, .int .i64 0, .int .i64 0, .int .i64 0, .int .i64 0, .int .i64 0, .int .i64 0, .int .i64 0, .string ⟨#[]⟩, .string ⟨#[]⟩, .bool false] 48 (0, 0)) := by rw [← hw0]; exact heap_alloc_new _ _
    have hlt : (World.heap wb).size < wc.heap.size := (Array.getElem?_eq_some_iff.1 hblk).1
    have hB0 : Below (World.heap wb).size wb wc := by rw [← hw0]; exact (Below.refl _ _).alloc (Nat.le_refl _) _
    have hsz : (World.heap wc).size = (World.heap wb).size + 1 := by rw [← hw0]; simp
    clear hw0
    rw [← hsz]
    have X3 := And.intro hblk (And.intro hlt hB0)
    clear hblk hlt hB0 hsz
    generalize hw0 : World.alloc wc (.cells #[] 55) = wd
    have hblk : wd.heap[World.heap wc |>.size]? = some (.cells #[] 55 (0, 0)) := by rw [← hw0]; exact heap_alloc_new _ _
    have hlt : (World.heap wc).size < wd.heap.size := (Array.getElem?_eq_some_iff.1 hblk).1
    have hB0 : Below (World.heap wc).size wc wd := by rw [← hw0]; exact (Below.refl _ _).alloc (Nat.le_refl _) _
    clear hw0
    have L2 : LeB wb wd := LeB.tr X3.2.2 hB0
    have L1 : LeB wa wd := LeB.tr X2.2.2 L2
    have HX := Lib.hid (CtR.mk (w0 := w) ((L1.block _ X1.2.1).trans X1.1) ((L2.block _ X2.2.1).trans X2.1) ((hB0.block _ X3.2.1).trans X3.1) (LeB.tr X1.2.2 L1) (Nat.le_refl _) (Nat.le_trans X1.2.2.size X2.2.2.size) (Nat.ne_of_gt (Nat.lt_of_lt_of_le X1.2.1 X2.2.2.size)) (Nat.ne_of_gt X1.2.1) (Nat.ne_of_lt X2.2.1))
    have HE := Lib.hid (And.intro (Nat.le_trans X1.2.2.size (Nat.le_trans X2.2.2.size X3.2.2.size)) hlt)
    clear X1 X2 X3 hblk hlt hB0 L1 L2
    have c0 := blk_cell HX.out.cn 0
    have c1 := blk_cell HX.out.cn 1
    have c2 := blk_cell HX.out.cn 2
    have c3 := blk_cell HX.out.cn 3
    have c4 := blk_cell HX.out.cn 4
    have c5 := blk_cell HX.out.cn 5
    have c6 := blk_cell HX.out.cn 6
    have c7 := blk_cell HX.out.cn 7
    have c8 := blk_cell HX.out.cn 8
    have c9 := blk_cell HX.out.cn 9
    have c10 := blk_cell HX.out.cn 10
    simp at c0 c1 c2 c3 c4 c5 c6 c7 c8 c9 c10
    have cf0 := blk_free HX.out.cn 0
    have cf1 := blk_free HX.out.cn 1
    have cf2 := blk_free HX.out.cn 2
    have cf3 := blk_free HX.out.cn 3
    have cf4 := blk_free HX.out.cn 4
    have cf5 := blk_free HX.out.cn 5
    have cf6 := blk_free HX.out.cn 6
    have cf7 := blk_free HX.out.cn 7
    have cf8 := blk_free HX.out.cn 8
    have cf9 := blk_free HX.out.cn 9
    have cf10 := blk_free HX.out.cn 10
    have d0 := blk_cell HX.out.sg 0
    have d1 := blk_cell HX.out.sg 1
    have d2 := blk_cell HX.out.sg 2
    have d3 := blk_cell HX.out.sg 3
    have d4 := blk_cell HX.out.sg 4
    have d5 := blk_cell HX.out.sg 5
    have d6 := blk_cell HX.out.sg 6
    simp at d0 d1 d2 d3 d4 d5 d6
    go_wp2_with fail
    rename_i K17 h17 K18 h18
    have H17 := Lib.hid h17
    clear h17
    refine (l10Acked_ok c g.ack HK.out.1 HK.out.2.ack ca HCA.out _).mono ?_
    rintro e w1 ⟨rfl, hB1⟩
    have HX1 := Lib.hid (HX.out.below hB1)
    have hs1 := hB1.size
    clear hB1 c0 c1 c2 c3 c4 c5 c6 c7 c8 c9 c10 cf0 cf1 cf2 cf3 cf4 cf5 cf6 cf7 cf8 cf9 cf10 d0 d1 d2 d3 d4 d5 d6
    go_wp2_with (refine wpList_store_row rfl _ _ 48 rfl w.heap.size 48 _ _ rfl rfl HX1.out.cn rfl infoCn rfl ?_)
    obtain ⟨w2, hw2, HY0⟩ : ∃ x, w1.setRow w.heap.size ca.cells = x ∧ CtR w x w.heap.size ca wa.heap.size g wb.heap.size ∧ wc.heap.size < x.heap.size := ⟨_, rfl, HX1.out.storeRow ca, by have := HE.out.2; simp [World.setRow]; omega⟩
    show K17 _ (World.setRow w1 w.heap.size ca.cells)
    rw [hw2]
    have HY := Lib.hid HY0
    clear hw2 HY0 hs1 HX1
    have c0 := blk_cell HY.out.1.cn 0
    have c1 := blk_cell HY.out.1.cn 1
    have c2 := blk_cell HY.out.1.cn 2
    have c3 := blk_cell HY.out.1.cn 3
    have c4 := blk_cell HY.out.1.cn 4
    have c5 := blk_cell HY.out.1.cn 5
    have c6 := blk_cell HY.out.1.cn 6
    have c7 := blk_cell HY.out.1.cn 7
    have c8 := blk_cell HY.out.1.cn 8
    have c9 := blk_cell HY.out.1.cn 9
    have c10 := blk_cell HY.out.1.cn 10
    simp at c0 c1 c2 c3 c4 c5 c6 c7 c8 c9 c10
    have cf0 := blk_free HY.out.1.cn 0
    have cf1 := blk_free HY.out.1.cn 1
    have cf2 := blk_free HY.out.1.cn 2
    have cf3 := blk_free HY.out.1.cn 3
    have cf4 := blk_free HY.out.1.cn 4
    have cf5 := blk_free HY.out.1.cn 5
    have cf6 := blk_free HY.out.1.cn 6
    have cf7 := blk_free HY.out.1.cn 7
    have cf8 := blk_free HY.out.1.cn 8
    have cf9 := blk_free HY.out.1.cn 9
    have cf10 := blk_free HY.out.1.cn 10
    have d0 := blk_cell HY.out.1.sg 0
    have d1 := blk_cell HY.out.1.sg 1
    have d2 := blk_cell HY.out.1.sg 2
    have d3 := blk_cell HY.out.1.sg 3
    have d4 := blk_cell HY.out.1.sg 4
    have d5 := blk_cell HY.out.1.sg 5
    have d6 := blk_cell HY.out.1.sg 6
    simp at d0 d1 d2 d3 d4 d5 d6
    refine H17.out _ _ ?_
    go_wp2_with (refine wpList_store_row rfl _ _ 48 rfl wb.heap.size 48 _ _ rfl rfl HY.out.1.rs rfl infoCn rfl ?_)
    refine bodyPost_ret (ret_cell_tmp rfl rfl (setRow_heap _ _ _ _ _ _ HY.out.1.rs) Try.underlying48 rfl infoCn) rfl ?_
    exact HY.out.1.retE HE.out.1 HY.out.2 _ (show x = (ca, []) by rw [HT.out, if_pos (.inr (.inl HQ.out))]) _ (by simp [HQ.out])
  have q4I : ((ca.st : Int) == 4) = false := by simp; omega
  have HN := Lib.hid (show ¬ (ca.st = 1 ∨ ca.st = 4 ∨ (g.data = ⟨#[]⟩ ∧ Nat.land g.flags 1 = 0)) from fun h => by rcases h with h | h | h; exact q1 h; exact q4 h; exact absurd h.2 (by rw [N1.out]; decide))
  clear q1 q4
  cases em
  all_goals
    by_cases hs : g.seq = ca.want ∧ ca.inn.size + g.data.size ≤ 300
    · obtain ⟨hs1, hs2⟩ := hs
      have hs1I : (g.seq : Int) = ca.want := by omega
      have hs2I : (ca.inn.size : Int) + g.data.size ≤ 300 := by omega
      have HS := Lib.hid (And.intro hs1 hs2)
      clear hs1 hs2
      go_enter Try.func106, Try.ntmps106
      go_upto_region 2 with (fail)
      generalize hw0 : World.alloc w (.cells c.cells 48) = wa
      have hblk : wa.heap[World.heap w |>.size]? = some (.cells c.cells 48 (0, 0)) := by rw [← hw0]; exact heap_alloc_new _ _
      have hlt : (World.heap w).size < wa.heap.size := (Array.getElem?_eq_some_iff.1 hblk).1
      have hB0 : Below (World.heap w).size w wa := by rw [← hw0]; exact (Below.refl _ _).alloc (Nat.le_refl _) _
      have hsz : (World.heap wa).size = (World.heap w).size + 1 := by rw [← hw0]; simp
      clear hw0
      rw [← hsz]
      have X1 := And.intro hblk (And.intro hlt hB0)
      clear hblk hlt hB0 hsz
      generalize hw0 : World.alloc wa (.cells g.cells 55) = wb
      have hblk : wb.heap[World.heap wa |>.size]? = some (.cells g.cells 55 (0, 0)) := by rw [← hw0]; exact heap_alloc_new _ _
      have hlt : (World.heap wa).size < wb.heap.size := (Array.getElem?_eq_some_iff.1 hblk).1
      have hB0 : Below (World.heap wa).size wa wb := by rw [← hw0]; exact (Below.refl _ _).alloc (Nat.le_refl _) _
      have hsz : (World.heap wb).size = (World.heap wa).size + 1 := by rw [← hw0]; simp
      clear hw0
      rw [← hsz]
      have X2 := And.intro hblk (And.intro hlt hB0)
      clear hblk hlt hB0 hsz
      generalize hw0 : World.alloc wb (.cells #[.string ⟨#[]⟩, .int .i64 0, .int .i64 0, .int .i64 0, .int .i64 0, .int .i64 0, .int .i64 0, .int .i64 0, .string ⟨#[]⟩, .string ⟨#[]⟩, .bool false] 48) = wc
      have hblk : wc.heap[World.heap wb |>.size]? = some (.cells #[.string ⟨#[]⟩, .int .i64 0, .int .i64 0, .int .i64 0, .int .i64 0, .int .i64 0, .int .i64 0, .int .i64 0, .string ⟨#[]⟩, .string ⟨#[]⟩, .bool false] 48 (0, 0)) := by rw [← hw0]; exact heap_alloc_new _ _
      have hlt : (World.heap wb).size < wc.heap.size := (Array.getElem?_eq_some_iff.1 hblk).1
      have hB0 : Below (World.heap wb).size wb wc := by rw [← hw0]; exact (Below.refl _ _).alloc (Nat.le_refl _) _
      have hsz : (World.heap wc).size = (World.heap wb).size + 1 := by rw [← hw0]; simp
      clear hw0
      rw [← hsz]
      have X3 := And.intro hblk (And.intro hlt hB0)
      clear hblk hlt hB0 hsz
      generalize hw0 : World.alloc wc (.cells #[] 55) = wd
      have hblk : wd.heap[World.heap wc |>.size]? = some (.cells #[] 55 (0, 0)) := by rw [← hw0]; exact heap_alloc_new _ _
      have hlt : (World.heap wc).size < wd.heap.size := (Array.getElem?_eq_some_iff.1 hblk).1
      have hB0 : Below (World.heap wc).size wc wd := by rw [← hw0]; exact (Below.refl _ _).alloc (Nat.le_refl _) _
      clear hw0
      have L2 : LeB wb wd := LeB.tr X3.2.2 hB0
      have L1 : LeB wa wd := LeB.tr X2.2.2 L2
      have HX := Lib.hid (CtR.mk (w0 := w) ((L1.block _ X1.2.1).trans X1.1) ((L2.block _ X2.2.1).trans X2.1) ((hB0.block _ X3.2.1).trans X3.1) (LeB.tr X1.2.2 L1) (Nat.le_refl _) (Nat.le_trans X1.2.2.size X2.2.2.size) (Nat.ne_of_gt (Nat.lt_of_lt_of_le X1.2.1 X2.2.2.size)) (Nat.ne_of_gt X1.2.1) (Nat.ne_of_lt X2.2.1))
      have HE := Lib.hid (And.intro (Nat.le_trans X1.2.2.size (Nat.le_trans X2.2.2.size X3.2.2.size)) hlt)
      clear X1 X2 X3 hblk hlt hB0 L1 L2
      have c0 := blk_cell HX.out.cn 0
      have c1 := blk_cell HX.out.cn 1
      have c2 := blk_cell HX.out.cn 2
      have c3 := blk_cell HX.out.cn 3
      have c4 := blk_cell HX.out.cn 4
      have c5 := blk_cell HX.out.cn 5
      have c6 := blk_cell HX.out.cn 6
      have c7 := blk_cell HX.out.cn 7
      have c8 := blk_cell HX.out.cn 8
      have c9 := blk_cell HX.out.cn 9
      have c10 := blk_cell HX.out.cn 10
      simp at c0 c1 c2 c3 c4 c5 c6 c7 c8 c9 c10
      have cf0 := blk_free HX.out.cn 0
      have cf1 := blk_free HX.out.cn 1
      have cf2 := blk_free HX.out.cn 2
      have cf3 := blk_free HX.out.cn 3
      have cf4 := blk_free HX.out.cn 4
      have cf5 := blk_free HX.out.cn 5
      have cf6 := blk_free HX.out.cn 6
      have cf7 := blk_free HX.out.cn 7
      have cf8 := blk_free HX.out.cn 8
      have cf9 := blk_free HX.out.cn 9
      have cf10 := blk_free HX.out.cn 10
      have d0 := blk_cell HX.out.sg 0
      have d1 := blk_cell HX.out.sg 1
      have d2 := blk_cell HX.out.sg 2
      have d3 := blk_cell HX.out.sg 3
      have d4 := blk_cell HX.out.sg 4
      have d5 := blk_cell HX.out.sg 5
      have d6 := blk_cell HX.out.sg 6
      simp at d0 d1 d2 d3 d4 d5 d6
      go_wp2_with fail
      rename_i K17 h17 K18 h18
      have H17 := Lib.hid h17
      clear h17
      refine (l10Acked_ok c g.ack HK.out.1 HK.out.2.ack ca HCA.out _).mono ?_
      rintro e w1 ⟨rfl, hB1⟩
      have HX1 := Lib.hid (HX.out.below hB1)
      have hs1 := hB1.size
      clear hB1 c0 c1 c2 c3 c4 c5 c6 c7 c8 c9 c10 cf0 cf1 cf2 cf3 cf4 cf5 cf6 cf7 cf8 cf9 cf10 d0 d1 d2 d3 d4 d5 d6
      go_wp2_with (refine wpList_store_row rfl _ _ 48 rfl w.heap.size 48 _ _ rfl rfl HX1.out.cn rfl infoCn rfl ?_)
      obtain ⟨w2, hw2, HY0⟩ : ∃ x, w1.setRow w.heap.size ca.cells = x ∧ CtR w x w.heap.size ca wa.heap.size g wb.heap.size ∧ wc.heap.size < x.heap.size := ⟨_, rfl, HX1.out.storeRow ca, by have := HE.out.2; simp [World.setRow]; omega⟩
      show K17 _ (World.setRow w1 w.heap.size ca.cells)
      rw [hw2]
      have HY := Lib.hid HY0
      clear hw2 HY0 hs1 HX1
      have c0 := blk_cell HY.out.1.cn 0
      have c1 := blk_cell HY.out.1.cn 1
      have c2 := blk_cell HY.out.1.cn 2
      have c3 := blk_cell HY.out.1.cn 3
      have c4 := blk_cell HY.out.1.cn 4
      have c5 := blk_cell HY.out.1.cn 5
      have c6 := blk_cell HY.out.1.cn 6
      have c7 := blk_cell HY.out.1.cn 7
      have c8 := blk_cell HY.out.1.cn 8
      have c9 := blk_cell HY.out.1.cn 9
      have c10 := blk_cell HY.out.1.cn 10
      simp at c0 c1 c2 c3 c4 c5 c6 c7 c8 c9 c10
      have cf0 := blk_free HY.out.1.cn 0
      have cf1 := blk_free HY.out.1.cn 1
      have cf2 := blk_free HY.out.1.cn 2
      have cf3 := blk_free HY.out.1.cn 3
      have cf4 := blk_free HY.out.1.cn 4
      have cf5 := blk_free HY.out.1.cn 5
      have cf6 := blk_free HY.out.1.cn 6
      have cf7 := blk_free HY.out.1.cn 7
      have cf8 := blk_free HY.out.1.cn 8
      have cf9 := blk_free HY.out.1.cn 9
      have cf10 := blk_free HY.out.1.cn 10
      have d0 := blk_cell HY.out.1.sg 0
      have d1 := blk_cell HY.out.1.sg 1
      have d2 := blk_cell HY.out.1.sg 2
      have d3 := blk_cell HY.out.1.sg 3
      have d4 := blk_cell HY.out.1.sg 4
      have d5 := blk_cell HY.out.1.sg 5
      have d6 := blk_cell HY.out.1.sg 6
      simp at d0 d1 d2 d3 d4 d5 d6
      refine H17.out _ _ ?_
      go_upto_region 25 with (fail)
      obtain ⟨nn, hnn⟩ : ∃ x, ca.inn ++ g.data = x := ⟨_, rfl⟩
      rw [hnn] at HT ⊢
      obtain ⟨x0, hx0, Y0, z0⟩ := HY.out.1.put { ca with inn := nn } 8 (.string nn) (cells_inn ca nn)
      rw [hx0]
      clear hx0 hnn
      clear c0 c1 c2 c3 c4 c5 c6 c7 c8 c9 c10 cf0 cf1 cf2 cf3 cf4 cf5 cf6 cf7 cf8 cf9 cf10 d0 d1 d2 d3 d4 d5 d6
      obtain ⟨t1, ht1⟩ : ∃ t, onw ca.want g.data.size = t := ⟨_, rfl⟩
      have e1 := and_onw ca.want g.data.size t1 HK2.out.want (by have := HK.out.2.data; omega) ht1
      have HT1 := Lib.hid (And.intro ht1 e1)
      have ht1I : (t1 : Int) < 4294967296 := by have := onw_lt ca.want g.data.size; omega
      have c7 : x0.cell? ⟨w.heap.size, 7, none⟩ = some (.int .i64 ca.want) := Y0.ccell 7 _ (Cn.g7 { ca with inn := nn })
      have cf7 := blk_free Y0.cn 7
      have d6 := Y0.gcell 6 _ (Sg.g6 g)
      have d4 := Y0.gcell 4 _ (Sg.g4 g)
      have HZ0 := Lib.hid Y0
      clear Y0 z0 ht1 e1
      go_wp2_with fail
      refine (l10Seq_is _ t1 HT1.out.2 x0).mono ?_
      rintro e x0' ⟨rfl, rfl⟩
      go_upto_region 26 with (fail)
      obtain ⟨x1, hx1, Y1, z1⟩ := HZ0.out.put { ca with inn := nn, want := t1 } 7 (.int .i64 t1) (cells_want { ca with inn := nn } t1)
      rw [hx1]
      clear hx1 c7 cf7 d6 d4
      have c7 : x1.cell? ⟨w.heap.size, 7, none⟩ = some (.int .i64 t1) := Y1.ccell 7 _ (Cn.g7 { ca with inn := nn, want := t1 })
      have cf7 := blk_free Y1.cn 7
      have d4 := Y1.gcell 4 _ (Sg.g4 g)
      have HZ1 := Lib.hid Y1
      clear Y1 z1
      obtain ⟨t2, ht2⟩ : ∃ t, onw t1 1 = t := ⟨_, rfl⟩
      have e2 : bits .and .i64 ((t1 : Int) + 1) 4294967295 = (t2 : Int) := and_onw t1 1 t2 (by omega) (by omega) ht2
      have HT2 := Lib.hid (And.intro ht2 e2)
      clear ht2 e2
      go_wp2_with fail
      refine (l10Seq_is _ t2 HT2.out.2 x1).mono ?_
      rintro e x1' ⟨rfl, rfl⟩
      go_upto_region 28 with (fail)
      obtain ⟨wr, hx2, Y2, z2⟩ := HZ1.out.put { ca with inn := nn, want := t2 } 7 (.int .i64 t2) (cells_want { ca with inn := nn, want := t1 } t2)
      rw [hx2]
      clear hx2 c7 cf7 d4
      have HW := Lib.hid Y2
      clear Y2 z2
      have HR : Hid (x = ({ ca with inn := nn, want := t2 }, [⟨80, ca.port, ca.nxt, t2, 16, 1000, ⟨#[]⟩⟩])) := Lib.hid (by rw [HT.out, if_neg HN.out, if_pos HS.out, N1.out, ← HT2.out.1, ← HT1.out.1, onw_onw])
      have hblc := (Array.getElem?_eq_some_iff.1 HW.out.cn).1
      have hblr := (Array.getElem?_eq_some_iff.1 HW.out.rs).1
      have hcb : ∀ m W, JQ wr wb.heap.size (Cn.cells { ca with inn := nn, want := t2 }) m W → W.heap[w.heap.size]? = some (.cells (Cn.cells { ca with inn := nn, want := t2 }) 48 (0, 0)) := fun m W hJ => (hJ.1.block _ hblc (by intro e; injection e with e; exact HW.out.ne e.symm)).trans HW.out.cn
      refine wp_region_lex 8 (by kernel_rfl) (by kernel_rfl) (JQ wr wb.heap.size (Cn.cells { ca with inn := nn, want := t2 })) (LeQ wb.heap.size (Cn.cells { ca with inn := nn, want := t2 })) (csφ wr.heap.size wb.heap.size (Cn.cells { ca with inn := nn, want := t2 }) ⟨80, ca.port, ca.nxt, t2, 16, 1000, ⟨#[]⟩⟩) csφ_st JQ.mono ?_ ?_
      · exact ⟨grownBy_of_below ((Below.refl _ _).drew) _, .inl HW.out.rs⟩
      simp only [List.take_succ_cons, List.take_zero, List.drop_succ_cons, List.drop_zero, pairs, List.zipIdx_cons, List.zipIdx_nil, List.map_cons, List.map_nil, Nat.zero_add, Nat.reduceAdd]
      refine lex_load rfl rfl (.agg (Cn.cells { ca with inn := nn, want := t2 })) (fun m W hJ hF => run_exec_load rfl rfl (hcb m W hJ) Try.underlying48 rfl infoCn) ?_
      refine lex_load rfl rfl (.agg (Cn.cells { ca with inn := nn, want := t2 })) (fun m W hJ hF => run_exec_load rfl rfl (hcb m W hJ) Try.underlying48 rfl infoCn) ?_
      refine lex_pure rfl rfl (fun K hK => ?_)
      go_simp
      refine hK _ ?_
      clear hK K
      refine lex_load rfl rfl (.int .i64 ca.nxt) (fun m W hJ hF => (by have cc := (blk_cell (hcb m W hJ) 6).trans (Cn.g6 _); go_simp)) ?_
      refine lex_eff' (sp := fun _ v _ => v = .agg (Sg.cells ⟨80, ca.port, ca.nxt, t2, 16, 1000, ⟨#[]⟩⟩)) rfl rfl (by intro _ _ _ _ h; exact h) (fun m W hJ hF => ?_) (fun v x hh => ?_) rfl
      · refine gives_call Try.call142 ((l10Reply_ok { ca with inn := nn, want := t2 } ca.nxt 16 ⟨#[]⟩ W).mono ?_)
        rintro e w' ⟨rfl, h4⟩
        exact ⟨_, rfl, hJ.step h4, LeQ.of h4, rfl⟩
      obtain ⟨_, _, -, rfl, -⟩ := hh
      refine lex_eff' (sp := OneSp wr.heap.size wb.heap.size ⟨80, ca.port, ca.nxt, t2, 16, 1000, ⟨#[]⟩⟩) rfl rfl (by intro _ _ _ _ h; exact h) (fun m W hJ hF => ?_) (fun v x hh => ?_) rfl
      · have hb : Below W.heap.size W (W.alloc (.cells (Sg.cells ⟨80, ca.port, ca.nxt, t2, 16, 1000, ⟨#[]⟩⟩) 55)) := (Below.refl _ _).alloc (Nat.le_refl _) _
        have hsz := hJ.1.size
        exact gives_value (v := .slice (some ⟨W.heap.size, 0, none⟩) 1 1) (by go_simp; rfl) ⟨hJ.step hb, LeQ.of hb, _, rfl, hsz, by omega, heap_alloc_new _ _⟩
      obtain ⟨_, _, -, ⟨lb, rfl, -, -, -⟩, -⟩ := hh
      refine lexQ_store rfl rfl rfl rfl rfl rfl rfl rfl (fun v14 => ?_)
      (repeat (refine lex_pure rfl rfl (fun K hK => ?_); go_simp; refine hK _ ?_; clear hK K; try simp (disch := omega) only [IntWalk.i64_in, IntWalk.u8_in, Int.add_sub_cancel, Int.tmod_eq_emod_of_nonneg, Int.tdiv_eq_ediv_of_nonneg]))
      refine lex_nil (fun m w5 hJ hF => ?_)
      obtain ⟨lb', hlb, hlB, hln, hlc⟩ := hF 5 rfl _ _ _ rfl rfl
      cases hlb
      have hst := hF 6 rfl _ _ _ rfl rfl
      have HZ := Lib.hid (And.intro hlB (And.intro hlc (And.intro hst (Below.grown HW.out.bl hJ.1 HW.out.bl.size (fun k e => by cases e; exact HW.out.hr)))))
      clear hF hJ hcb hlB hln hlc hst
      go_wp2_with fail
      refine bodyPost_ret (ret_cell_tmp rfl rfl HZ.out.2.2.1 Try.underlying48 rfl infoCn) rfl ?_
      rw [HR.out]
      exact ⟨_, rfl, (OneSg.toL ⟨lb, rfl, HZ.out.1, HZ.out.2.1⟩).more HW.out.bl.size, HZ.out.2.2.2⟩
    · have HS := Lib.hid hs
      have hcase : ((g.seq : Int) == ca.want) = false ∨ ((g.seq : Int) = ca.want ∧ decide ((ca.inn.size : Int) + g.data.size ≤ 300) = false) := by
        by_cases h1 : g.seq = ca.want
        · exact .inr ⟨by omega, by simp; have := fun h => hs ⟨h1, h⟩; omega⟩
        · exact .inl (by simp; omega)
      clear hs
      rcases hcase with h1 | ⟨h1, h2⟩
      all_goals
        go_enter Try.func106, Try.ntmps106
        go_upto_region 2 with (fail)
        generalize hw0 : World.alloc w (.cells c.cells 48) = wa
        have hblk : wa.heap[World.heap w |>.size]? = some (.cells c.cells 48 (0, 0)) := by rw [← hw0]; exact heap_alloc_new _ _
        have hlt : (World.heap w).size < wa.heap.size := (Array.getElem?_eq_some_iff.1 hblk).1
        have hB0 : Below (World.heap w).size w wa := by rw [← hw0]; exact (Below.refl _ _).alloc (Nat.le_refl _) _
        have hsz : (World.heap wa).size = (World.heap w).size + 1 := by rw [← hw0]; simp
        clear hw0
        rw [← hsz]
        have X1 := And.intro hblk (And.intro hlt hB0)
        clear hblk hlt hB0 hsz
        generalize hw0 : World.alloc wa (.cells g.cells 55) = wb
        have hblk : wb.heap[World.heap wa |>.size]? = some (.cells g.cells 55 (0, 0)) := by rw [← hw0]; exact heap_alloc_new _ _
        have hlt : (World.heap wa).size < wb.heap.size := (Array.getElem?_eq_some_iff.1 hblk).1
        have hB0 : Below (World.heap wa).size wa wb := by rw [← hw0]; exact (Below.refl _ _).alloc (Nat.le_refl _) _
        have hsz : (World.heap wb).size = (World.heap wa).size + 1 := by rw [← hw0]; simp
        clear hw0
        rw [← hsz]
        have X2 := And.intro hblk (And.intro hlt hB0)
        clear hblk hlt hB0 hsz
        generalize hw0 : World.alloc wb (.cells #[.string ⟨#[]⟩, .int .i64 0, .int .i64 0, .int .i64 0, .int .i64 0, .int .i64 0, .int .i64 0, .int .i64 0, .string ⟨#[]⟩, .string ⟨#[]⟩, .bool false] 48) = wc
        have hblk : wc.heap[World.heap wb |>.size]? = some (.cells #[.string ⟨#[]⟩, .int .i64 0, .int .i64 0, .int .i64 0, .int .i64 0, .int .i64 0, .int .i64 0, .int .i64 0, .string ⟨#[]⟩, .string ⟨#[]⟩, .bool false] 48 (0, 0)) := by rw [← hw0]; exact heap_alloc_new _ _
        have hlt : (World.heap wb).size < wc.heap.size := (Array.getElem?_eq_some_iff.1 hblk).1
        have hB0 : Below (World.heap wb).size wb wc := by rw [← hw0]; exact (Below.refl _ _).alloc (Nat.le_refl _) _
        have hsz : (World.heap wc).size = (World.heap wb).size + 1 := by rw [← hw0]; simp
        clear hw0
        rw [← hsz]
        have X3 := And.intro hblk (And.intro hlt hB0)
        clear hblk hlt hB0 hsz
        generalize hw0 : World.alloc wc (.cells #[] 55) = wd
        have hblk : wd.heap[World.heap wc |>.size]? = some (.cells #[] 55 (0, 0)) := by rw [← hw0]; exact heap_alloc_new _ _
        have hlt : (World.heap wc).size < wd.heap.size := (Array.getElem?_eq_some_iff.1 hblk).1
        have hB0 : Below (World.heap wc).size wc wd := by rw [← hw0]; exact (Below.refl _ _).alloc (Nat.le_refl _) _
        clear hw0
        have L2 : LeB wb wd := LeB.tr X3.2.2 hB0
        have L1 : LeB wa wd := LeB.tr X2.2.2 L2
        have HX := Lib.hid (CtR.mk (w0 := w) ((L1.block _ X1.2.1).trans X1.1) ((L2.block _ X2.2.1).trans X2.1) ((hB0.block _ X3.2.1).trans X3.1) (LeB.tr X1.2.2 L1) (Nat.le_refl _) (Nat.le_trans X1.2.2.size X2.2.2.size) (Nat.ne_of_gt (Nat.lt_of_lt_of_le X1.2.1 X2.2.2.size)) (Nat.ne_of_gt X1.2.1) (Nat.ne_of_lt X2.2.1))
        have HE := Lib.hid (And.intro (Nat.le_trans X1.2.2.size (Nat.le_trans X2.2.2.size X3.2.2.size)) hlt)
        clear X1 X2 X3 hblk hlt hB0 L1 L2
        have c0 := blk_cell HX.out.cn 0
        have c1 := blk_cell HX.out.cn 1
        have c2 := blk_cell HX.out.cn 2
        have c3 := blk_cell HX.out.cn 3
        have c4 := blk_cell HX.out.cn 4
        have c5 := blk_cell HX.out.cn 5
        have c6 := blk_cell HX.out.cn 6
        have c7 := blk_cell HX.out.cn 7
        have c8 := blk_cell HX.out.cn 8
        have c9 := blk_cell HX.out.cn 9
        have c10 := blk_cell HX.out.cn 10
        simp at c0 c1 c2 c3 c4 c5 c6 c7 c8 c9 c10
        have cf0 := blk_free HX.out.cn 0
        have cf1 := blk_free HX.out.cn 1
        have cf2 := blk_free HX.out.cn 2
        have cf3 := blk_free HX.out.cn 3
        have cf4 := blk_free HX.out.cn 4
        have cf5 := blk_free HX.out.cn 5
        have cf6 := blk_free HX.out.cn 6
        have cf7 := blk_free HX.out.cn 7
        have cf8 := blk_free HX.out.cn 8
        have cf9 := blk_free HX.out.cn 9
        have cf10 := blk_free HX.out.cn 10
        have d0 := blk_cell HX.out.sg 0
        have d1 := blk_cell HX.out.sg 1
        have d2 := blk_cell HX.out.sg 2
        have d3 := blk_cell HX.out.sg 3
        have d4 := blk_cell HX.out.sg 4
        have d5 := blk_cell HX.out.sg 5
        have d6 := blk_cell HX.out.sg 6
        simp at d0 d1 d2 d3 d4 d5 d6
        go_wp2_with fail
        rename_i K17 h17 K18 h18
        have H17 := Lib.hid h17
        clear h17
        refine (l10Acked_ok c g.ack HK.out.1 HK.out.2.ack ca HCA.out _).mono ?_
        rintro e w1 ⟨rfl, hB1⟩
        have HX1 := Lib.hid (HX.out.below hB1)
        have hs1 := hB1.size
        clear hB1 c0 c1 c2 c3 c4 c5 c6 c7 c8 c9 c10 cf0 cf1 cf2 cf3 cf4 cf5 cf6 cf7 cf8 cf9 cf10 d0 d1 d2 d3 d4 d5 d6
        go_wp2_with (refine wpList_store_row rfl _ _ 48 rfl w.heap.size 48 _ _ rfl rfl HX1.out.cn rfl infoCn rfl ?_)
        obtain ⟨w2, hw2, HY0⟩ : ∃ x, w1.setRow w.heap.size ca.cells = x ∧ CtR w x w.heap.size ca wa.heap.size g wb.heap.size ∧ wc.heap.size < x.heap.size := ⟨_, rfl, HX1.out.storeRow ca, by have := HE.out.2; simp [World.setRow]; omega⟩
        show K17 _ (World.setRow w1 w.heap.size ca.cells)
        rw [hw2]
        have HY := Lib.hid HY0
        clear hw2 HY0 hs1 HX1
        have c0 := blk_cell HY.out.1.cn 0
        have c1 := blk_cell HY.out.1.cn 1
        have c2 := blk_cell HY.out.1.cn 2
        have c3 := blk_cell HY.out.1.cn 3
        have c4 := blk_cell HY.out.1.cn 4
        have c5 := blk_cell HY.out.1.cn 5
        have c6 := blk_cell HY.out.1.cn 6
        have c7 := blk_cell HY.out.1.cn 7
        have c8 := blk_cell HY.out.1.cn 8
        have c9 := blk_cell HY.out.1.cn 9
        have c10 := blk_cell HY.out.1.cn 10
        simp at c0 c1 c2 c3 c4 c5 c6 c7 c8 c9 c10
        have cf0 := blk_free HY.out.1.cn 0
        have cf1 := blk_free HY.out.1.cn 1
        have cf2 := blk_free HY.out.1.cn 2
        have cf3 := blk_free HY.out.1.cn 3
        have cf4 := blk_free HY.out.1.cn 4
        have cf5 := blk_free HY.out.1.cn 5
        have cf6 := blk_free HY.out.1.cn 6
        have cf7 := blk_free HY.out.1.cn 7
        have cf8 := blk_free HY.out.1.cn 8
        have cf9 := blk_free HY.out.1.cn 9
        have cf10 := blk_free HY.out.1.cn 10
        have d0 := blk_cell HY.out.1.sg 0
        have d1 := blk_cell HY.out.1.sg 1
        have d2 := blk_cell HY.out.1.sg 2
        have d3 := blk_cell HY.out.1.sg 3
        have d4 := blk_cell HY.out.1.sg 4
        have d5 := blk_cell HY.out.1.sg 5
        have d6 := blk_cell HY.out.1.sg 6
        simp at d0 d1 d2 d3 d4 d5 d6
        refine H17.out _ _ ?_
        go_upto_region 28 with (fail)
        clear c0 c1 c2 c3 c4 c5 c6 c7 c8 c9 c10 cf0 cf1 cf2 cf3 cf4 cf5 cf6 cf7 cf8 cf9 cf10 d0 d1 d2 d3 d4 d5 d6
        have HW := Lib.hid HY.out.1
        obtain ⟨wr, hwr⟩ : ∃ x, w2 = x := ⟨_, rfl⟩
        rw [hwr] at HW ⊢
        clear hwr
        have HR : Hid (x = (ca, [⟨80, ca.port, ca.nxt, ca.want, 16, 1000, ⟨#[]⟩⟩])) := Lib.hid (by rw [HT.out, if_neg HN.out, if_neg HS.out])
        have hblc := (Array.getElem?_eq_some_iff.1 HW.out.cn).1
        have hblr := (Array.getElem?_eq_some_iff.1 HW.out.rs).1
        have hcb : ∀ m W, JQ wr wb.heap.size (Cn.cells ca) m W → W.heap[w.heap.size]? = some (.cells (Cn.cells ca) 48 (0, 0)) := fun m W hJ => (hJ.1.block _ hblc (by intro e; injection e with e; exact HW.out.ne e.symm)).trans HW.out.cn
        refine wp_region_lex 8 (by kernel_rfl) (by kernel_rfl) (JQ wr wb.heap.size (Cn.cells ca)) (LeQ wb.heap.size (Cn.cells ca)) (csφ wr.heap.size wb.heap.size (Cn.cells ca) ⟨80, ca.port, ca.nxt, ca.want, 16, 1000, ⟨#[]⟩⟩) csφ_st JQ.mono ?_ ?_
        · exact ⟨grownBy_of_below ((Below.refl _ _).drew) _, .inl HW.out.rs⟩
        simp only [List.take_succ_cons, List.take_zero, List.drop_succ_cons, List.drop_zero, pairs, List.zipIdx_cons, List.zipIdx_nil, List.map_cons, List.map_nil, Nat.zero_add, Nat.reduceAdd]
        refine lex_load rfl rfl (.agg (Cn.cells ca)) (fun m W hJ hF => run_exec_load rfl rfl (hcb m W hJ) Try.underlying48 rfl infoCn) ?_
        refine lex_load rfl rfl (.agg (Cn.cells ca)) (fun m W hJ hF => run_exec_load rfl rfl (hcb m W hJ) Try.underlying48 rfl infoCn) ?_
        refine lex_pure rfl rfl (fun K hK => ?_)
        go_simp
        refine hK _ ?_
        clear hK K
        refine lex_load rfl rfl (.int .i64 ca.nxt) (fun m W hJ hF => (by have cc := (blk_cell (hcb m W hJ) 6).trans (Cn.g6 _); go_simp)) ?_
        refine lex_eff' (sp := fun _ v _ => v = .agg (Sg.cells ⟨80, ca.port, ca.nxt, ca.want, 16, 1000, ⟨#[]⟩⟩)) rfl rfl (by intro _ _ _ _ h; exact h) (fun m W hJ hF => ?_) (fun v x hh => ?_) rfl
        · refine gives_call Try.call142 ((l10Reply_ok ca ca.nxt 16 ⟨#[]⟩ W).mono ?_)
          rintro e w' ⟨rfl, h4⟩
          exact ⟨_, rfl, hJ.step h4, LeQ.of h4, rfl⟩
        obtain ⟨_, _, -, rfl, -⟩ := hh
        refine lex_eff' (sp := OneSp wr.heap.size wb.heap.size ⟨80, ca.port, ca.nxt, ca.want, 16, 1000, ⟨#[]⟩⟩) rfl rfl (by intro _ _ _ _ h; exact h) (fun m W hJ hF => ?_) (fun v x hh => ?_) rfl
        · have hb : Below W.heap.size W (W.alloc (.cells (Sg.cells ⟨80, ca.port, ca.nxt, ca.want, 16, 1000, ⟨#[]⟩⟩) 55)) := (Below.refl _ _).alloc (Nat.le_refl _) _
          have hsz := hJ.1.size
          exact gives_value (v := .slice (some ⟨W.heap.size, 0, none⟩) 1 1) (by go_simp; rfl) ⟨hJ.step hb, LeQ.of hb, _, rfl, hsz, by omega, heap_alloc_new _ _⟩
        obtain ⟨_, _, -, ⟨lb, rfl, -, -, -⟩, -⟩ := hh
        refine lexQ_store rfl rfl rfl rfl rfl rfl rfl rfl (fun v14 => ?_)
        (repeat (refine lex_pure rfl rfl (fun K hK => ?_); go_simp; refine hK _ ?_; clear hK K; try simp (disch := omega) only [IntWalk.i64_in, IntWalk.u8_in, Int.add_sub_cancel, Int.tmod_eq_emod_of_nonneg, Int.tdiv_eq_ediv_of_nonneg]))
        refine lex_nil (fun m w5 hJ hF => ?_)
        obtain ⟨lb', hlb, hlB, hln, hlc⟩ := hF 5 rfl _ _ _ rfl rfl
        cases hlb
        have hst := hF 6 rfl _ _ _ rfl rfl
        have HZ := Lib.hid (And.intro hlB (And.intro hlc (And.intro hst (Below.grown HW.out.bl hJ.1 HW.out.bl.size (fun k e => by cases e; exact HW.out.hr)))))
        clear hF hJ hcb hlB hln hlc hst
        go_wp2_with fail
        refine bodyPost_ret (ret_cell_tmp rfl rfl HZ.out.2.2.1 Try.underlying48 rfl infoCn) rfl ?_
        rw [HR.out]
        exact ⟨_, rfl, (OneSg.toL ⟨lb, rfl, HZ.out.1, HZ.out.2.1⟩).more HW.out.bl.size, HZ.out.2.2.2⟩
end Go.Proofs.Ytdenjmdngmmodaa
