/- Connections: every segment is taken. | Connections: taking a segment, as called. | Connections: the segments of a text and of an end. | Connections: lists of segments held against one another. | Connections: what is said, and said again. -/
import Derived.Test.YtdenjmdngmmodaaKc05
import Derived.Test.YtdenjmdngmmodaaKcCnI
namespace Go.Proofs.Ytdenjmdngmmodaa
open Go.RowKit
set_option linter.unusedVariables false
set_option linter.unusedSimpArgs false
set_option maxRecDepth 200000
set_option maxHeartbeats 600000

theorem take_ok (c : Cn) (g : Sg) (b : Nat) (w : World) (hc : CnOK c) (hg : SegOK g.src g.dst g.seq g.ack g.flags g.space g.data) (hb : w.heap[b]? = some (.cells c.cells 48 (0, 0))) :
    Calls Try.prog 77 #[.pointer (some ⟨b, 0, none⟩), .agg g.cells] w (TkRet w b (takeC c g)) := by
  have hlt := (Array.getElem?_eq_some_iff.1 hb).1
  have c0 := blk_cell hb 0
  have c1 := blk_cell hb 1
  have c2 := blk_cell hb 2
  have c3 := blk_cell hb 3
  have c4 := blk_cell hb 4
  have c5 := blk_cell hb 5
  have c6 := blk_cell hb 6
  have c7 := blk_cell hb 7
  have c8 := blk_cell hb 8
  have c9 := blk_cell hb 9
  have c10 := blk_cell hb 10
  simp at c0 c1 c2 c3 c4 c5 c6 c7 c8 c9 c10
  have cf0 := blk_free hb 0
  have cf1 := blk_free hb 1
  have cf2 := blk_free hb 2
  have cf3 := blk_free hb 3
  have cf4 := blk_free hb 4
  have cf5 := blk_free hb 5
  have cf6 := blk_free hb 6
  have cf7 := blk_free hb 7
  have cf8 := blk_free hb 8
  have cf9 := blk_free hb 9
  have cf10 := blk_free hb 10
  have B4 : (bits .and .i64 (g.flags : Int) 4 = 0 ∧ Nat.land g.flags 4 = 0) ∨ (bits .and .i64 (g.flags : Int) 4 = 4 ∧ Nat.land g.flags 4 = 4) := bits_and g.flags hg.flags 4 (by simp)
  have B2 : (bits .and .i64 (g.flags : Int) 2 = 0 ∧ Nat.land g.flags 2 = 0) ∨ (bits .and .i64 (g.flags : Int) 2 = 2 ∧ Nat.land g.flags 2 = 2) := bits_and g.flags hg.flags 2 (by simp)
  have B16 : (bits .and .i64 (g.flags : Int) 16 = 0 ∧ Nat.land g.flags 16 = 0) ∨ (bits .and .i64 (g.flags : Int) 16 = 16 ∧ Nat.land g.flags 16 = 16) := bits_and g.flags hg.flags 16 (by simp)
  have B1 : (bits .and .i64 (g.flags : Int) 1 = 0 ∧ Nat.land g.flags 1 = 0) ∨ (bits .and .i64 (g.flags : Int) 1 = 1 ∧ Nat.land g.flags 1 = 1) := bits_and g.flags hg.flags 1 (by simp)
  have HK := Lib.hid (And.intro hb (And.intro hc hg))
  clear hb hc hg
  have L0 : LeB w (w.alloc (.cells g.cells 55)) := (Below.refl _ _).alloc (Nat.le_refl _) _
  have HL := Lib.hid L0
  clear L0
  by_cases h4 : c.st = 4
  · clear B4 B2 B16 B1
    have h4I : (c.st : Int) = 4 := by omega
    go_enter Try.func77, Try.ntmps77
    go_wp2_with fail
    go_ret
    exact tk_same HK.out.1 HL.out (by unfold takeC; rw [if_pos h4])
  have h4I : ((c.st : Int) == 4) = false := by simp; omega
  have H4 := Lib.hid h4
  clear h4
  rcases B4 with ⟨b4, n4⟩ | ⟨b4, n4⟩
  rotate_left
  · clear B2 B16 B1
    have N4 := Lib.hid n4
    clear n4
    by_cases hs : g.seq = c.want
    · have hsI : (g.seq : Int) = c.want := by omega
      have HS := Lib.hid hs
      clear hs
      go_enter Try.func77, Try.ntmps77
      go_wp2_with fail
      go_quiet (fail)
      go_wp2_with fail
      go_ret
      refine ⟨_, rfl, ?_, ?_, grown_own (grown_own (grown_own (grown_own (grown_own (grown_drewN (grownBy_of_below HL.out _) _) _ _) _ _) _ _) _ _) _ _⟩
      · unfold takeC
        rw [if_neg H4.out, if_pos (by rw [N4.out]; decide)]
        exact SgL.nil _ _
      · rw [blk_set (blk_set (blk_set (blk_set (blk_set (blk_drewN ((HL.out.block _ hlt).trans HK.out.1) _) _ _) _ _) _ _) _ _) _ _]
        unfold takeC
        rw [if_neg H4.out, if_pos (by rw [N4.out]; decide), if_pos HS.out]
        simp
    · have hsI : ((g.seq : Int) == c.want) = false := by simp; omega
      have HS := Lib.hid hs
      clear hs
      go_enter Try.func77, Try.ntmps77
      go_wp2_with fail
      go_quiet (fail)
      go_wp2_with fail
      go_ret
      exact tk_same HK.out.1 (below_drewN HL.out _) (by unfold takeC; rw [if_neg H4.out, if_pos (by rw [N4.out]; decide), if_neg HS.out])
  have N4 := Lib.hid n4
  clear n4
  rcases B2 with ⟨b2, n2⟩ | ⟨b2, n2⟩
  rotate_left
  · clear B16 B1
    have N2 := Lib.hid n2
    clear n2
    by_cases hs : c.st = 1 ∧ c.want = onw g.seq 1
    · obtain ⟨hs1, hs2⟩ := hs
      have hs1I : (c.st : Int) = 1 := by omega
      have HS := Lib.hid (And.intro hs1 hs2)
      clear hs1 hs2
      go_enter Try.func77, Try.ntmps77
      go_wp2_with fail
      go_quiet ((exact qs (onward_is g.seq 1 c.want HK.out.2.2.seq (by omega) HS.out.2.symm _)))
      go_wp2_with fail
      refine (opened_ok c b _ ((below_drewN HL.out _ |>.block _ hlt).trans HK.out.1)).mono ?_
      rintro e w1 ⟨bb, rfl, h1, h2, h3⟩
      have L1 : LeB w w1 := LeB.tr (below_drewN HL.out _) h3
      clear h3
      go_wp2_with fail
      go_ret
      unfold takeC
      rw [if_neg H4.out, if_neg (by rw [N4.out]; decide), if_pos (by rw [N2.out]; decide), if_pos HS.out]
      exact ⟨_, rfl, (OneSg.toL ⟨bb, rfl, Nat.le_trans HL.out.size h1, h2⟩), (L1.block _ hlt).trans HK.out.1, grownBy_of_below L1 _⟩
    · obtain ⟨t, ht⟩ : ∃ t, onw g.seq 1 = t := ⟨_, rfl⟩
      have HT := Lib.hid (And.intro ht hs)
      have hcase : c.st = 1 ∧ ((c.want : Int) == t) = false ∨ ((c.st : Int) == 1) = false := by
        by_cases h1 : c.st = 1
        · exact .inl ⟨h1, by simp; intro h; exact hs ⟨h1, by omega⟩⟩
        · exact .inr (by simp; omega)
      clear ht hs
      rcases hcase with ⟨h1, h2⟩ | h1
      · have h1I : (c.st : Int) = 1 := by omega
        clear h1
        go_enter Try.func77, Try.ntmps77
        go_wp2_with fail
        go_quiet ((exact qs (onward_is g.seq 1 t HK.out.2.2.seq (by omega) HT.out.1 _)))
        go_wp2_with fail
        refine (tell_ok c b c.nxt 16 ⟨#[]⟩ _ ((below_drewN HL.out _ |>.block _ hlt).trans HK.out.1)).mono ?_
        rintro e w1 ⟨rfl, h3⟩
        have L1 : LeB w w1 := LeB.tr (below_drewN HL.out _) h3
        clear h3
        go_wp2_with fail
        go_ret
        unfold takeC
        rw [if_neg H4.out, if_neg (by rw [N4.out]; decide), if_pos (by rw [N2.out]; decide), if_neg (by rw [HT.out.1]; exact fun h => HT.out.2 (HT.out.1 ▸ h))]
        exact ⟨_, rfl, OneSg.toL ⟨w1.heap.size, rfl, L1.size, heap_alloc_new _ _⟩, ((L1.alloc L1.size _).block _ hlt).trans HK.out.1, grownBy_of_below (L1.alloc L1.size _) _⟩
      · go_enter Try.func77, Try.ntmps77
        go_wp2_with fail
        go_quiet (fail)
        go_wp2_with fail
        refine (tell_ok c b c.nxt 16 ⟨#[]⟩ _ ((below_drewN HL.out _ |>.block _ hlt).trans HK.out.1)).mono ?_
        rintro e w1 ⟨rfl, h3⟩
        have L1 : LeB w w1 := LeB.tr (below_drewN HL.out _) h3
        clear h3
        go_wp2_with fail
        go_ret
        unfold takeC
        rw [if_neg H4.out, if_neg (by rw [N4.out]; decide), if_pos (by rw [N2.out]; decide), if_neg (by rw [HT.out.1]; exact fun h => HT.out.2 (HT.out.1 ▸ h))]
        exact ⟨_, rfl, OneSg.toL ⟨w1.heap.size, rfl, L1.size, heap_alloc_new _ _⟩, ((L1.alloc L1.size _).block _ hlt).trans HK.out.1, grownBy_of_below (L1.alloc L1.size _) _⟩
  have N2 := Lib.hid n2
  clear n2
  rcases B16 with ⟨b16, n16⟩ | ⟨b16, n16⟩
  · clear B1
    have N16 := Lib.hid n16
    clear n16
    go_enter Try.func77, Try.ntmps77
    go_wp2_with fail
    go_ret
    exact tk_same HK.out.1 HL.out (by unfold takeC; rw [if_neg H4.out, if_neg (by rw [N4.out]; decide), if_neg (by rw [N2.out]; decide), if_pos N16.out])
  rcases B1 with ⟨b1, n1⟩ | ⟨b1, n1⟩
  · exact take_m0 c g b w HK.out.2.1 HK.out.2.2 HK.out.1 H4.out b4 N4.out b2 N2.out b16 n16 b1 n1
  · exact take_m1 c g b w HK.out.2.1 HK.out.2.2 HK.out.1 H4.out b4 N4.out b2 N2.out b16 n16 b1 n1 _ rfl
end Go.Proofs.Ytdenjmdngmmodaa
namespace Go.Proofs.Ytdenjmdngmmodaa
open Go.RowKit
set_option linter.unusedVariables false
set_option linter.unusedSimpArgs false
set_option maxRecDepth 200000
set_option maxHeartbeats 600000

theorem onw_lt (a n : Nat) : onw a n < 4294967296 := by unfold onw; omega
theorem takeC_OK {c : Cn} {g : Sg} (h : CnOK c) (hg : SegOK g.src g.dst g.seq g.ack g.flags g.space g.data) : CnOK (takeC c g).1 := by
  have ha := acked_OK h hg.ack
  obtain ⟨ca, hca⟩ : ∃ x, acked c g.ack = x := ⟨_, rfl⟩
  unfold takeC
  rw [hca] at ha ⊢
  clear hca
  split
  · exact h
  split
  · dsimp only
    split
    · exact ⟨h.mac, h.ip, h.port, h.dst, h.nxt, h.nxt, h.want, by show 0 ≤ 300; omega, by show 0 ≤ 300; omega, .inr (.inr (.inr ⟨rfl, rfl, rfl, by unfold bhd; simp only; have := h.nxt; omega⟩))⟩
    · exact h
  split
  · exact h
  split
  · exact h
  split
  · exact ha
  rename_i hn
  split
  · rename_i hs
    refine ⟨ha.mac, ha.ip, ha.port, ha.dst, ha.una, ha.nxt, onw_lt _ _, by simp only [ByteArray.size_append]; omega, ha.out, ?_⟩
    rcases ha.mode with m | m | m | m
    · exact absurd (.inl m.1) hn
    · exact .inr (.inl m)
    · exact .inr (.inr (.inl m))
    · exact absurd (.inr (.inl m.1)) hn
  · exact ha

theorem SgL.setRow {B : Nat} {l : List Sg} {v : Value} {w : World} (h : SgL B l v w) {k : Nat} (hk : k < B) (cs : Array Value) : SgL B l v (w.setRow k cs) := by
  obtain ⟨A, c, h1, h2, h3, h4⟩ := h
  exact ⟨A, c, h1, h2, h3.keep fun ad e => setRow_other w k ad.block cs (by have := (h4 ad e).1; omega), fun ad e => ⟨(h4 ad e).1, by simpa [World.setRow] using (h4 ad e).2⟩⟩
theorem ConnTake_ok (c : Cn) (g : Sg) (hc : CnOK c) (hg : SegOK g.src g.dst g.seq g.ack g.flags g.space g.data) (w : World) :
    Calls Try.prog 27 #[.agg c.cells, .agg g.cells] w fun e w' => ∃ v, e = .returned (.tuple #[.agg (takeC c g).1.cells, v, .int .i64 0]) ∧ SgL w.heap.size (takeC c g).2 v w' ∧ Below w.heap.size w w' := by
  obtain ⟨r, hr⟩ : ∃ r, takeC c g = r := ⟨_, rfl⟩
  rw [hr]
  have HR := Lib.hid hr
  have HK := Lib.hid (And.intro hc hg)
  clear hc hg hr
  go_enter Try.func27, Try.ntmps27
  go_wp2_with fail
  generalize hw0 : World.alloc w (.cells c.cells 48) = wa
  have hblk : wa.heap[World.heap w |>.size]? = some (.cells c.cells 48 (0, 0)) := by rw [← hw0]; exact heap_alloc_new _ _
  have hlt : (World.heap w).size < wa.heap.size := (Array.getElem?_eq_some_iff.1 hblk).1
  have hB0 : Below (World.heap w).size w wa := by rw [← hw0]; exact (Below.refl _ _).alloc (Nat.le_refl _) _
  have hsz : (World.heap wa).size = (World.heap w).size + 1 := by rw [← hw0]; simp
  clear hw0
  rw [← hsz]
  have X1 := And.intro hblk (And.intro hlt hB0)
  clear hblk hlt hB0 hsz
  generalize hw0 : World.alloc wa (.cells g.cells 55) = wb
  have hblk : wb.heap[World.heap wa |>.size]? = some (.cells g.cells 55 (0, 0)) := by rw [← hw0]; exact heap_alloc_new _ _
  have hlt : (World.heap wa).size < wb.heap.size := (Array.getElem?_eq_some_iff.1 hblk).1
  have hB0 : Below (World.heap wa).size wa wb := by rw [← hw0]; exact (Below.refl _ _).alloc (Nat.le_refl _) _
  have hsz : (World.heap wb).size = (World.heap wa).size + 1 := by rw [← hw0]; simp
  clear hw0
  rw [← hsz]
  have X2 := And.intro hblk (And.intro hlt hB0)
  clear hblk hlt hB0 hsz
  generalize hw0 : World.alloc wb (.cells #[.string ⟨#[]⟩, .int .i64 0, .int .i64 0, .int .i64 0, .int .i64 0, .int .i64 0, .int .i64 0, .int .i64 0, .string ⟨#[]⟩, .string ⟨#[]⟩, .bool false] 48) = wc
  have hblk : wc.heap[World.heap wb |>.size]? = some (.cells #[.string ⟨#[]⟩, .int .i64 0, .int .i64 0, .int .i64 0, .int .i64 0, .int .i64 0, .int .i64 0, .int .i64 0, .string ⟨#[]⟩, .string ⟨#[]⟩, .bool false] 48 (0, 0)) := by rw [← hw0]; exact heap_alloc_new _ _
  have hlt : (World.heap wb).size < wc.heap.size := (Array.getElem?_eq_some_iff.1 hblk).1
  have hB0 : Below (World.heap wb).size wb wc := by rw [← hw0]; exact (Below.refl _ _).alloc (Nat.le_refl _) _
  clear hw0
  have L1 : LeB wa wc := LeB.tr X2.2.2 hB0
  have L0 : LeB w wc := LeB.tr X1.2.2 L1
  have F0 := Lib.hid (And.intro ((L1.block _ X1.2.1).trans X1.1) (And.intro (Nat.lt_of_lt_of_le X1.2.1 L1.size) (And.intro ((hB0.block _ X2.2.1).trans X2.1) (And.intro (Nat.lt_of_lt_of_le X2.2.1 hB0.size) (And.intro hblk (And.intro hlt (And.intro L0 (And.intro X1.2.1 (And.intro X2.2.1 X1.2.2.size)))))))))
  clear X1 X2 hblk hlt hB0 L1 L0
  refine (ConnOK_true c HK.out.1 wc).mono ?_
  rintro e w1 ⟨rfl, hB1⟩
  have hg1 := (hB1.block _ F0.out.2.2.2.1).trans F0.out.2.2.1
  have c0 := blk_cell hg1 0
  have c1 := blk_cell hg1 1
  have c2 := blk_cell hg1 2
  have c3 := blk_cell hg1 3
  have c4 := blk_cell hg1 4
  have c5 := blk_cell hg1 5
  have c6 := blk_cell hg1 6
  simp at c0 c1 c2 c3 c4 c5 c6
  have H1 := Lib.hid (And.intro hg1 hB1)
  clear hg1 hB1
  go_wp2_with fail
  refine (segmentOK_true _ _ _ _ _ _ _ HK.out.2 w1).mono ?_
  rintro e w2 ⟨rfl, hB2⟩
  have L2 : LeB wc w2 := LeB.tr H1.out.2 hB2
  clear H1 hB2 c0 c1 c2 c3 c4 c5 c6
  have hg2 := (L2.block _ F0.out.2.2.2.1).trans F0.out.2.2.1
  have c0 := blk_cell hg2 0
  have c1 := blk_cell hg2 1
  have c2 := blk_cell hg2 2
  have c3 := blk_cell hg2 3
  have c4 := blk_cell hg2 4
  have c5 := blk_cell hg2 5
  have c6 := blk_cell hg2 6
  simp at c0 c1 c2 c3 c4 c5 c6
  have hc2 := (L2.block _ F0.out.2.1).trans F0.out.1
  have H2 := Lib.hid (And.intro hc2 L2)
  clear hg2 L2 hc2
  go_wp2_with fail
  refine (take_ok c g w.heap.size w2 HK.out.1 HK.out.2 H2.out.1).mono ?_
  rintro e w3 ⟨v, rfl, hl, hc3, hg3⟩
  rw [HR.out] at hl hc3
  have G0 := grown_trans (grownBy_of_below (LeB.tr F0.out.2.2.2.2.2.2.1 H2.out.2) (some w.heap.size)) hg3
  have B3 : Below w.heap.size w w3 := Below.grown (LeB.tr F0.out.2.2.2.2.2.2.1 H2.out.2) hg3 (LeB.tr F0.out.2.2.2.2.2.2.1 H2.out.2).size (fun k e => by cases e; exact Nat.le_refl _)
  have hd3 := (hg3.block wb.heap.size (Nat.lt_of_lt_of_le F0.out.2.2.2.2.2.1 H2.out.2.size) (by intro e; injection e with e; have := F0.out; omega)).trans ((H2.out.2.block _ F0.out.2.2.2.2.2.1).trans F0.out.2.2.2.2.1)
  clear c0 c1 c2 c3 c4 c5 c6
  obtain ⟨rc, rl⟩ := r
  dsimp only at hl hc3 ⊢
  have c0 := blk_cell hc3 0
  have c1 := blk_cell hc3 1
  have c2 := blk_cell hc3 2
  have c3 := blk_cell hc3 3
  have c4 := blk_cell hc3 4
  have c5 := blk_cell hc3 5
  have c6 := blk_cell hc3 6
  have c7 := blk_cell hc3 7
  have c8 := blk_cell hc3 8
  have c9 := blk_cell hc3 9
  have c10 := blk_cell hc3 10
  simp at c0 c1 c2 c3 c4 c5 c6 c7 c8 c9 c10
  have H3 := Lib.hid (And.intro hd3 (And.intro hl (And.intro B3 G0)))
  clear hd3 hl B3 G0 hg3
  go_wp2_with (refine wpList_store_row rfl _ _ 48 rfl wb.heap.size 48 _ _ rfl rfl H3.out.1 rfl infoCn rfl ?_)
  refine bodyPost_ret (ret_cell3 (x := v) (y := .int .i64 0) rfl rfl rfl rfl (setRow_heap _ _ _ _ _ _ H3.out.1) Try.underlying48 rfl infoCn) rfl ?_
  have hle := F0.out
  exact ⟨v, rfl, (H3.out.2.1.setRow (by have := H2.out.2.size; omega) _).more (by have := H2.out.2.size; have := hle.2.2.2.2.2.2.1.size; omega), below_setRow H3.out.2.2.1 (by omega) _⟩
end Go.Proofs.Ytdenjmdngmmodaa
namespace Go.Proofs.Ytdenjmdngmmodaa
open Go.RowKit
set_option linter.unusedVariables false
set_option linter.unusedSimpArgs false
set_option maxRecDepth 200000
set_option maxHeartbeats 600000

theorem info_sg : (Try.prog.info? 55).map (fun i => (i.zero, i.size, i.bytes)) = some (some (.agg #[.int .i64 0, .int .i64 0, .int .i64 0, .int .i64 0, .int .i64 0, .int .i64 0, .string ⟨#[]⟩]), 7, 64) := by kernel_rfl
def sgC (l : List Sg) : List Value := l.flatMap (·.cells.toList)
theorem sgC_len (l : List Sg) : (sgC l).length = l.length * 7 := by
  induction l with
  | nil => rfl
  | cons a r ih =>
    have h1 : (sgC (a :: r)).length = 7 + (sgC r).length := by rw [sgC, List.flatMap_cons, List.length_append]; rfl
    rw [h1, ih, List.length_cons]; omega
theorem sgC_app (a b : List Sg) : sgC (a ++ b) = sgC a ++ sgC b := List.flatMap_append
theorem sgC_one (l : List Sg) : ∀ u ∈ sgC l, u.oneCell' = true := by
  intro u hu
  obtain ⟨g, _, hg⟩ := List.mem_flatMap.1 hu
  simp at hg
  rcases hg with rfl | rfl | rfl | rfl | rfl | rfl | rfl <;> rfl
theorem append_sg (w : World) (base : Nat) (v : Value) (l : List Sg) (hown : w.ownsRow base 55 7 v l.length (sgC l)) (A : Option Addr) (c : Nat) (ns : List Sg) (hr : Rd w A (sgC ns)) (h : l.length + ns.length ≤ 1000000) (hb : base ≤ w.heap.size) :
    ∃ v' w', (Builtin.append_ #[49, 49] 49 #[v, .slice A ns.length c]).run Try.prog w = .ok v' w' ∧ w'.ownsRow base 55 7 v' (l ++ ns).length (sgC (l ++ ns)) ∧ w.grownBy w' v.ownBlock := by
  obtain ⟨i, hi, hz, hs, hby⟩ := info_parts info_sg
  obtain ⟨v', w', h1, h2, h3, _⟩ := run_append_rd (P := Try.prog) w base 49 49 55 i _ 7 64 Try.underlying49 hi hz hs hby rfl (by omega) v l.length (sgC l) hown A ns.length c (sgC ns) (sgC_len ns) hr
    (sgC_one ns) (by simp only [maxLen]; omega) (by omega) hb
  exact ⟨v', w', h1, by rw [List.length_append, sgC_app]; exact h2, h3⟩
theorem own_SgL {w : World} {B : Nat} {v : Value} {l : List Sg} (h : w.ownsRow B 55 7 v l.length (sgC l)) : SgL B l v w := by
  obtain ⟨A, c, h1, h2, h3, h4⟩ := own_slice h
  exact ⟨A, c, h1, h2, h3, h4⟩

theorem own_below {w w' : World} {B : Nat} {e : TypeId} {size : Nat} {v : Value} {n : Nat} {xs : List Value} (h : w.ownsRow B e size v n xs) (hb : Below w.heap.size w w') : w'.ownsRow B e size v n xs :=
  h.kept (grownBy_of_below hb none) (by
    cases hv : v.ownBlock with
    | none => exact Or.inl rfl
    | some b => exact Or.inr (by intro e; cases e))
def sgP (c : Cn) (fr : Nat) (t : ByteArray) : Sg := ⟨80, c.port, fr, c.want, 24, 1000, t⟩
def sgE (c : Cn) (fr : Nat) : Sg := ⟨80, c.port, fr, c.want, 17, 1000, ⟨#[]⟩⟩
def piecesC (c : Cn) (fr : Nat) (t : ByteArray) : List Sg :=
  if t.size = 0 then [sgE c fr] else if t.size ≤ 200 then [sgP c fr t, sgE c (onw fr t.size)]
  else [sgP c fr (t.extract 0 200), sgP c (onw fr 200) (t.extract 200 t.size), sgE c (onw (onw fr 200) (t.size - 200))]
theorem pieces_step (c : Cn) (fr : Nat) (t : ByteArray) (h0 : t.size ≠ 0) (h : t.size ≤ 400) (n : Nat) (hn : n = min t.size 200) : piecesC c fr t = sgP c fr (t.extract 0 n) :: piecesC c (onw fr n) (t.extract n t.size) := by
  by_cases h2 : t.size ≤ 200
  · obtain rfl : n = t.size := by omega
    rw [piecesC, if_neg h0, if_pos h2, piecesC, if_pos (by simp), ByteArray.extract_zero_size]
  · obtain rfl : n = 200 := by omega
    have hs : (t.extract 200 t.size).size = t.size - 200 := by simp
    rw [piecesC, if_neg h0, if_neg h2, piecesC, if_neg (by omega), if_pos (by omega), hs]
theorem str_eq0 {s : ByteArray} (h : s.size = 0) : s = ⟨#[]⟩ := by
  obtain ⟨d⟩ := s
  obtain ⟨l⟩ := d
  cases l with
  | nil => rfl
  | cons a r => simp [ByteArray.size] at h
theorem pieces_step1 (c : Cn) (fr : Nat) (t : ByteArray) (h0 : t.size ≠ 0) (h : t.size ≤ 200) : piecesC c fr t = [sgP c fr t] ++ piecesC c (onw fr t.size) ByteArray.empty := by
  rw [pieces_step c fr t h0 (by omega) t.size (by omega), ByteArray.extract_zero_size, show t.extract t.size t.size = ByteArray.empty from str_eq0 (by simp), List.singleton_append]
theorem pieces_step2 (c : Cn) (fr : Nat) (t : ByteArray) (h : 200 < t.size) (h2 : t.size ≤ 400) : piecesC c fr t = [sgP c fr (t.extract 0 200)] ++ piecesC c (onw fr 200) (t.extract 200 t.size) := by
  rw [List.singleton_append]
  exact pieces_step c fr t (by omega) h2 200 (by omega)
def strSz : Value → Nat
  | .string s => s.size
  | _ => 0
theorem pieces_ok (c : Cn) (b fr : Nat) (t : ByteArray) (w : World) (hb : w.heap[b]? = some (.cells c.cells 48 (0, 0))) (hf : fr < 4294967296) (ht : t.size ≤ 400) :
    Calls Try.prog 122 #[.pointer (some ⟨b, 0, none⟩), .int .i64 fr, .string t] w fun e w' => ∃ v, e = .returned v ∧ SgL w.heap.size (piecesC c fr t) v w' ∧ Below w.heap.size w w' := by
  have hlt := (Array.getElem?_eq_some_iff.1 hb).1
  obtain ⟨L, hL⟩ : ∃ L, piecesC c fr t = L := ⟨_, rfl⟩
  rw [hL]
  have HL := Lib.hid hL
  have HB := Lib.hid hb
  clear hL hb
  have hLl : L.length ≤ 3 := by rw [← HL.out]; unfold piecesC; split; simp; split <;> simp
  have HLl := Lib.hid hLl
  clear hLl
  go_enter Try.func122, Try.ntmps122
  go_wp2_with fail
  have hown0 : (w.alloc (.cells #[] 55)).ownsRow w.heap.size 55 7 (.slice (some ⟨w.heap.size, 0, none⟩) 0 0) ([] : List Sg).length (sgC []) := World.ownsRow_lit w #[] 0 (Nat.le_refl _) (by simp [maxLen]) (by simp)
  have hB0 : Below w.heap.size w (w.alloc (.cells #[] 55)) := (Below.refl _ _).alloc (Nat.le_refl _) _
  go_loopw [1, 2, 7] (fun fv tv v wr => ∃ (k : Nat) (s : ByteArray) (l : List Sg), fv = .int .i64 k ∧ k < 4294967296 ∧ tv = .string s ∧ s.size ≤ 400 ∧ l ++ piecesC c k s = L ∧ wr.ownsRow w.heap.size 55 7 v l.length (sgC l) ∧ Below w.heap.size w wr) (fun _ tv _ _ => strSz tv)
  case atStart => exact ⟨fr, t, [], rfl, hf, rfl, ht, HL.out, hown0, hB0⟩
  case round =>
    obtain ⟨k, s, l, rfl, hk, rfl, hs, hl, hown, hBr⟩ := hrel
    have HO := Lib.hid (And.intro hown (And.intro hBr hl))
    clear hown hBr hl hown0 hB0
    have hll : l.length ≤ 3 := by have := HLl.out; have h2 := congrArg List.length HO.out.2.2; simp at h2; omega
    by_cases h0 : s.size = 0
    · obtain rfl := str_eq0 h0
      go_wp2_with fail
      refine (tell_ok c b k 17 ⟨#[]⟩ wr ((HO.out.2.1.block b hlt).trans HB.out)).mono ?_
      rintro e w1 ⟨rfl, hB1⟩
      go_wp2_with (at_builtin; refine Hid.out ?_)
      refine Lib.hid ?_
      have hB2 : Below wr.heap.size wr (w1.alloc (.cells (Sg.cells (sgE c k)) 55)) := Below.trans hB1 ((Below.refl _ _).alloc hB1.size _)
      have hrd : Rd (w1.alloc (.cells (Sg.cells (sgE c k)) 55)) (some ⟨w1.heap.size, 0, none⟩) (sgC [sgE c k]) := by simpa [sgC] using Rd.block (heap_alloc_new w1 (.cells (Sg.cells (sgE c k)) 55)) 0
      have hB3 : Below w.heap.size w (w1.alloc (.cells (Sg.cells (sgE c k)) 55)) := Below.trans HO.out.2.1 (hB2.mono HO.out.2.1.size)
      have hown2 := own_below HO.out.1 hB2
      obtain ⟨v3, w3, hrun, hown3, hg3⟩ := append_sg _ w.heap.size u7 l hown2 (some ⟨w1.heap.size, 0, none⟩) 1 [sgE c k] hrd (by simp; omega) hB3.size
      have hB4 : Below w.heap.size w w3 := hB3.grown hg3 hB3.size (fun g hg => (hown2.lt g hg).1)
      refine wpList_append_run rfl _ _ _ _ rfl rfl rfl hrun ?_
      have hfin : l ++ [sgE c k] = L := by rw [← HO.out.2.2]; rfl
      rw [hfin] at hown3
      have H3 := Lib.hid (And.intro hown3 hB4)
      clear hrun hrd hown2 hB1 hB2 hB3 hown3 hB4 hg3 hfin
      go_wp2_with fail
      go_ret
      exact ⟨_, rfl, own_SgL H3.out.1, H3.out.2⟩
    · have hne := str_ne (s := s) (fun e => h0 (by rw [e]; rfl))
      by_cases h2 : s.size ≤ 200
      · have h2I : (s.size : Int) ≤ 200 := by omega
        have hst := pieces_step1 c k s h0 h2
        have HS := Lib.hid hst
        clear hst
        go_wp2_with fail
        refine (tell_ok c b k 24 s wr ((HO.out.2.1.block b hlt).trans HB.out)).mono ?_
        rintro e w1 ⟨rfl, hB1⟩
        go_wp2_with (at_builtin; refine Hid.out ?_)
        refine Lib.hid ?_
        have hB2 : Below wr.heap.size wr (w1.alloc (.cells (Sg.cells (sgP c k s)) 55)) := Below.trans hB1 ((Below.refl _ _).alloc hB1.size _)
        have hrd : Rd (w1.alloc (.cells (Sg.cells (sgP c k s)) 55)) (some ⟨w1.heap.size, 0, none⟩) (sgC [sgP c k s]) := by simpa [sgC] using Rd.block (heap_alloc_new w1 (.cells (Sg.cells (sgP c k s)) 55)) 0
        have hB3 : Below w.heap.size w (w1.alloc (.cells (Sg.cells (sgP c k s)) 55)) := Below.trans HO.out.2.1 (hB2.mono HO.out.2.1.size)
        have hown2 := own_below HO.out.1 hB2
        obtain ⟨v3, w3, hrun, hown3, hg3⟩ := append_sg _ w.heap.size u7 l hown2 (some ⟨w1.heap.size, 0, none⟩) 1 [sgP c k s] hrd (by simp; omega) hB3.size
        have hB4 : Below w.heap.size w w3 := hB3.grown hg3 hB3.size (fun g hg => (hown2.lt g hg).1)
        refine wpList_append_run rfl _ _ _ _ rfl rfl rfl hrun ?_
        have H3 := Lib.hid (And.intro hown3 hB4)
        clear hrun hrd hown2 hB1 hB2 hB3 hown3 hB4 hg3
        go_wp2_with fail
        go_quiet ((exact qs (onward_ok k s.size hk (by omega) _)))
        go_wp2_with fail
        go_roundw
        case rel => exact ⟨onw k s.size, ByteArray.empty, l ++ [sgP c k s], rfl, onw_lt _ _, rfl, by show 0 ≤ 400; omega, by rw [← HO.out.2.2, HS.out, List.append_assoc], H3.out.1, below_drewN H3.out.2 _⟩
        case measure => simp [strSz]; omega
      · have h2I : (200 : Int) < s.size := by omega
        have hst := pieces_step2 c k s (by omega) hs
        have HS := Lib.hid hst
        clear hst
        go_wp2_with fail
        refine (tell_ok c b k 24 (s.extract 0 200) wr ((HO.out.2.1.block b hlt).trans HB.out)).mono ?_
        rintro e w1 ⟨rfl, hB1⟩
        go_wp2_with (at_builtin; refine Hid.out ?_)
        refine Lib.hid ?_
        have hB2 : Below wr.heap.size wr (w1.alloc (.cells (Sg.cells (sgP c k (s.extract 0 200))) 55)) := Below.trans hB1 ((Below.refl _ _).alloc hB1.size _)
        have hrd : Rd (w1.alloc (.cells (Sg.cells (sgP c k (s.extract 0 200))) 55)) (some ⟨w1.heap.size, 0, none⟩) (sgC [sgP c k (s.extract 0 200)]) := by simpa [sgC] using Rd.block (heap_alloc_new w1 (.cells (Sg.cells (sgP c k (s.extract 0 200))) 55)) 0
        have hB3 : Below w.heap.size w (w1.alloc (.cells (Sg.cells (sgP c k (s.extract 0 200))) 55)) := Below.trans HO.out.2.1 (hB2.mono HO.out.2.1.size)
        have hown2 := own_below HO.out.1 hB2
        obtain ⟨v3, w3, hrun, hown3, hg3⟩ := append_sg _ w.heap.size u7 l hown2 (some ⟨w1.heap.size, 0, none⟩) 1 [sgP c k (s.extract 0 200)] hrd (by simp; omega) hB3.size
        have hB4 : Below w.heap.size w w3 := hB3.grown hg3 hB3.size (fun g hg => (hown2.lt g hg).1)
        refine wpList_append_run rfl _ _ _ _ rfl rfl rfl hrun ?_
        have H3 := Lib.hid (And.intro hown3 hB4)
        clear hrun hrd hown2 hB1 hB2 hB3 hown3 hB4 hg3
        go_wp2_with fail
        go_quiet ((exact qs (onward_ok k 200 hk (by omega) _)))
        go_wp2_with fail
        go_roundw
        case rel => exact ⟨onw k 200, s.extract 200 s.size, l ++ [sgP c k (s.extract 0 200)], rfl, onw_lt _ _, rfl, by simp only [ByteArray.size_extract]; omega, by rw [← HO.out.2.2, HS.out, List.append_assoc], H3.out.1, below_drewN H3.out.2 _⟩
        case measure => simp [strSz]; omega
end Go.Proofs.Ytdenjmdngmmodaa
namespace Go.Proofs.Ytdenjmdngmmodaa
open Go.RowKit
set_option linter.unusedVariables false
set_option linter.unusedSimpArgs false
set_option maxRecDepth 200000
set_option maxHeartbeats 600000

theorem sgC_at (l : List Sg) (i : Nat) (h : i < l.length) (j : Nat) (hj : j < 7) : (sgC l)[i * 7 + j]? = l[i].cells[j]? := by
  induction l generalizing i with
  | nil => simp at h
  | cons a r ih =>
    have e : sgC (a :: r) = a.cells.toList ++ sgC r := by rw [sgC, List.flatMap_cons]; rfl
    have e7 : a.cells.toList.length = 7 := rfl
    rw [e]
    cases i with
    | zero => rw [List.getElem?_append_left (by rw [e7]; omega)]; simp
    | succ i =>
      rw [List.getElem?_append_right (by rw [e7]; omega), e7, show (i + 1) * 7 + j - 7 = i * 7 + j by omega, ih i (by simpa using h)]
      simp
theorem addr_addj (a : Addr) (j : Nat) (h : j ≠ 0) : a.add j = ⟨a.block, a.off + j, none⟩ := by unfold Addr.add; rw [if_neg h]
/-- The cells of the k-th segment of a list, as the walk asks for them. -/
structure SgAt (w : World) (a : Addr) (g : Sg) : Prop where
  c0 : w.cell? a = some (.int .i64 g.src)
  c1 : w.cell? ⟨a.block, a.off + 1, none⟩ = some (.int .i64 g.dst)
  c2 : w.cell? ⟨a.block, a.off + 2, none⟩ = some (.int .i64 g.seq)
  c3 : w.cell? ⟨a.block, a.off + 3, none⟩ = some (.int .i64 g.ack)
  c4 : w.cell? ⟨a.block, a.off + 4, none⟩ = some (.int .i64 g.flags)
  c5 : w.cell? ⟨a.block, a.off + 5, none⟩ = some (.int .i64 g.space)
  c6 : w.cell? ⟨a.block, a.off + 6, none⟩ = some (.string g.data)
theorem SgAt.of {w : World} {A : Option Addr} {l : List Sg} (h : Rd w A (sgC l)) (k : Nat) (hk : k < l.length) : ∃ ad, A = some ad ∧ SgAt w (ad.add (k * 7)) l[k] := by
  have q : ∀ j u, l[k].cells[j]? = some u → ∃ ad, A = some ad ∧ w.cell? ((ad.add (k * 7)).add j) = some u := fun j u hu => by
    have hj : j < 7 := by have := (Array.getElem?_eq_some_iff.1 hu).1; simpa using this
    obtain ⟨ad, e, hc⟩ := h (k * 7 + j) u ((sgC_at l k hk j hj).trans hu)
    exact ⟨ad, e, by rw [addr_add]; exact hc⟩
  obtain ⟨ad, rfl, h0⟩ := q 0 _ (Sg.g0 _)
  have q' : ∀ j u, j ≠ 0 → l[k].cells[j]? = some u → w.cell? ⟨(ad.add (k * 7)).block, (ad.add (k * 7)).off + j, none⟩ = some u := fun j u hj hu => by
    obtain ⟨ad', e, hc⟩ := q j u hu
    cases e
    rw [addr_addj _ _ hj] at hc
    exact hc
  exact ⟨ad, rfl, by rw [show (ad.add (k * 7)).add 0 = ad.add (k * 7) from by unfold Addr.add; simp] at h0; exact h0, q' 1 _ (by omega) (Sg.g1 _), q' 2 _ (by omega) (Sg.g2 _), q' 3 _ (by omega) (Sg.g3 _), q' 4 _ (by omega) (Sg.g4 _), q' 5 _ (by omega) (Sg.g5 _), q' 6 _ (by omega) (Sg.g6 _)⟩
theorem sameSegments_ok (l : List Sg) (v1 v2 : Value) (B1 B2 : Nat) (w : World) (h1 : SgL B1 l v1 w) (h2 : SgL B2 l v2 w) (hl : l.length ≤ 1000) :
    Calls Try.prog 30 #[v1, v2] w fun e w' => e = .returned (.bool true) ∧ ∃ n, w' = w.drewN n := by
  obtain ⟨A1, c1, rfl, hc1, hr1, -⟩ := h1
  obtain ⟨A2, c2, rfl, hc2, hr2, -⟩ := h2
  have hlI : (l.length : Int) ≤ 1000 := by omega
  have hc1I : (l.length : Int) ≤ c1 := by omega
  have hc2I : (l.length : Int) ≤ c2 := by omega
  go_enter Try.func30, Try.ntmps30
  go_wp2_with fail
  go_loopw [5] (fun i wr => ∃ k n : Nat, i = .int .i64 k ∧ k ≤ l.length ∧ wr = w.drewN n) (fun i _ => (l.length - (intOf i).toNat))
  case atStart => exact ⟨0, 0, rfl, Nat.zero_le _, rfl⟩
  case round =>
    obtain ⟨k, n, rfl, hk, rfl⟩ := hrel
    by_cases hlt : k < l.length
    · have hltI : (k : Int) < l.length := by omega
      obtain ⟨ad1, rfl, q1⟩ := SgAt.of hr1 k hlt
      obtain ⟨ad2, rfl, q2⟩ := SgAt.of hr2 k hlt
      obtain ⟨g, hg⟩ : ∃ g, l[k] = g := ⟨_, rfl⟩
      rw [hg] at q1 q2
      clear hg
      obtain ⟨c0, c1', c2', c3, c4, c5, c6⟩ := q1
      obtain ⟨d0, d1, d2, d3, d4, d5, d6⟩ := q2
      go_wp2_with fail
      go_quiet (fail)
      go_wp2_with fail
      go_roundw
      case rel => exact ⟨k + 1, n + nq, by go_num, by omega, rfl⟩
      case measure => simp [intOf]; omega
    · obtain rfl : k = l.length := by omega
      go_wp2_with fail
      go_ret
      exact ⟨rfl, n, rfl⟩
end Go.Proofs.Ytdenjmdngmmodaa
namespace Go.Proofs.Ytdenjmdngmmodaa
open Go.RowKit
set_option linter.unusedVariables false
set_option linter.unusedSimpArgs false
set_option maxRecDepth 200000
set_option maxHeartbeats 600000

def sayC (c : Cn) (t : ByteArray) : Cn := { c with st := 3, fin := true, out := t, nxt := onw c.nxt (t.size + 1) }
theorem cells_say (c : Cn) (t : ByteArray) (n : Nat) : (((c.cells.setIfInBounds 4 (.int .i64 3)).setIfInBounds 10 (.bool true)).setIfInBounds 9 (.string t)).setIfInBounds 6 (.int .i64 n) = Cn.cells { c with st := 3, fin := true, out := t, nxt := n } := rfl
theorem say_ok (c : Cn) (t : ByteArray) (b : Nat) (w : World) (hb : w.heap[b]? = some (.cells c.cells 48 (0, 0))) (hs : c.st = 2) (hn : c.nxt < 4294967296) (ht : t.size ≤ 300) :
    Calls Try.prog 78 #[.pointer (some ⟨b, 0, none⟩), .string t] w fun e w' => ∃ v, e = .returned (.tuple #[v, .int .i64 0]) ∧ SgL w.heap.size (piecesC c c.nxt t) v w' ∧ w'.heap[b]? = some (.cells (sayC c t).cells 48 (0, 0)) ∧ w.grownBy w' (some b) := by
  have hlt := (Array.getElem?_eq_some_iff.1 hb).1
  obtain ⟨L, hL⟩ : ∃ L, piecesC c c.nxt t = L := ⟨_, rfl⟩
  obtain ⟨m, hm⟩ : ∃ m, onw c.nxt (t.size + 1) = m := ⟨_, rfl⟩
  rw [hL, sayC, hm]
  have c4 : w.cell? ⟨b, 4, none⟩ = some (.int .i64 2) := (blk_cell hb 4).trans (by rw [Cn.g4, hs]; rfl)
  have c6 := (blk_cell hb 6).trans (Cn.g6 _)
  have HL := Lib.hid (And.intro hL (And.intro hm (And.intro hb hn)))
  have htI : (t.size : Int) ≤ 300 := by omega
  clear hL hm hb hs hn
  go_enter Try.func78, Try.ntmps78
  go_wp2_with fail
  refine (pieces_ok c b c.nxt t w HL.out.2.2.1 HL.out.2.2.2 (by omega)).mono ?_
  rintro e w1 ⟨v, rfl, hl, hB⟩
  rw [HL.out.1] at hl
  have hb1 := (hB.block b hlt).trans HL.out.2.2.1
  clear c4 c6
  have c6 := (blk_cell hb1 6).trans (Cn.g6 _)
  have f4 := blk_free hb1 4
  have f6 := blk_free hb1 6
  have f9 := blk_free hb1 9
  have f10 := blk_free hb1 10
  have c4 := (blk_cell hb1 4).trans (Cn.g4 _)
  have c9 := (blk_cell hb1 9).trans (Cn.g9 _)
  have c10 := (blk_cell hb1 10).trans (Cn.g10 _)
  have H1 := Lib.hid (And.intro hl (And.intro hB hb1))
  clear hl hB hb1
  go_wp2_with fail
  refine (onward_is c.nxt (t.size + 1) m HL.out.2.2.2 (by omega) HL.out.2.1 w1).mono ?_
  rintro e w2 ⟨rfl, rfl⟩
  go_wp2_with fail
  go_ret2
  refine ⟨v, rfl, ?_, ?_, grown_own (grown_own (grown_own (grown_own (grownBy_of_below H1.out.2.1 (some b)) _ _) _ _) _ _) _ _⟩
  · obtain ⟨A, cc, h1, h2, h3, h4⟩ := H1.out.1
    refine ⟨A, cc, h1, h2, h3.keep fun ad e => ?_, fun ad e => ⟨(h4 ad e).1, by simpa [World.setCell] using (h4 ad e).2⟩⟩
    have hne : ad.block ≠ b := by have := (h4 ad e).1; omega
    rw [Below.heap_setCell _ _ _ _ hne, Below.heap_setCell _ _ _ _ hne, Below.heap_setCell _ _ _ _ hne, Below.heap_setCell _ _ _ _ hne]
  · rw [blk_set (blk_set (blk_set (blk_set H1.out.2.2 _ _) _ _) _ _) _ _, cells_say]
theorem say_busy (c : Cn) (t : ByteArray) (b : Nat) (w : World) (hb : w.heap[b]? = some (.cells c.cells 48 (0, 0))) (hs : c.st = 3) :
    Calls Try.prog 78 #[.pointer (some ⟨b, 0, none⟩), .string t] w fun e w' => e = .returned (.tuple #[.slice none 0 0, .int .i64 12]) ∧ w = w' := by
  have c4 : w.cell? ⟨b, 4, none⟩ = some (.int .i64 3) := (blk_cell hb 4).trans (by rw [Cn.g4, hs]; rfl)
  clear hb
  go_enter Try.func78, Try.ntmps78
  go_wp2_with fail
  go_ret2
  exact ⟨rfl, rfl⟩
def againC (c : Cn) : List Sg := if c.st = 1 then [⟨80, c.port, c.una, c.want, 18, 1000, ⟨#[]⟩⟩] else if c.fin = true then piecesC c c.una c.out else []
def againφ (B : Nat) (L : List Sg) : Nat → Option Spec
  | 9 => some fun _ v w => SgL B L v w
  | _ => none
theorem again_ok (c : Cn) (b : Nat) (w : World) (hb : w.heap[b]? = some (.cells c.cells 48 (0, 0))) (hc : CnOK c) :
    Calls Try.prog 79 #[.pointer (some ⟨b, 0, none⟩)] w fun e w' => ∃ v, e = .returned v ∧ SgL w.heap.size (againC c) v w' ∧ Below w.heap.size w w' := by
  obtain ⟨L, hL⟩ : ∃ L, againC c = L := ⟨_, rfl⟩
  rw [hL]
  have c4 := (blk_cell hb 4).trans (Cn.g4 _)
  have c5 := (blk_cell hb 5).trans (Cn.g5 _)
  have c9 := (blk_cell hb 9).trans (Cn.g9 _)
  have c10 := (blk_cell hb 10).trans (Cn.g10 _)
  have HK := Lib.hid (And.intro hL (And.intro hb hc))
  have hm := hc.mode
  clear hL hb hc
  have hcs : c.st = 1 ∨ ((c.st ≠ 1) ∧ c.fin = true) ∨ (c.st ≠ 1 ∧ c.fin = false) := by
    rcases hm with ⟨m, m2, -⟩ | ⟨m, m2, -⟩ | ⟨m, m2, -⟩ | ⟨m, m2, -⟩
    · exact .inl m
    · exact .inr (.inr ⟨by omega, m2⟩)
    · exact .inr (.inl ⟨by omega, m2⟩)
    · exact .inr (.inr ⟨by omega, m2⟩)
  clear hm
  rcases hcs with h1 | ⟨h1, h2⟩ | ⟨h1, h2⟩
  · have h1I : (c.st : Int) = 1 := by omega
    have H1 := Lib.hid h1
    clear h1
    go_enter Try.func79, Try.ntmps79
    go_wp2_with fail
    refine (opened_ok c b w HK.out.2.1).mono ?_
    rintro e w1 ⟨bb, rfl, q1, q2, q3⟩
    go_wp2_with fail
    go_ret
    refine ⟨_, rfl, ?_, q3⟩
    rw [← HK.out.1, againC, if_pos H1.out]
    exact OneSg.toL ⟨bb, rfl, q1, q2⟩
  · have h1I : ((c.st : Int) == 1) = false := by simp; omega
    have H1 := Lib.hid (And.intro h1 h2)
    clear h1
    rw [h2] at c10
    clear h2
    go_enter Try.func79, Try.ntmps79
    go_wp2_with fail
    have hlt := (Array.getElem?_eq_some_iff.1 HK.out.2.1).1
    clear c4 c5 c9 c10 h1I
    have hcell : ∀ W, Below w.heap.size w W → W.cell? ⟨b, 5, none⟩ = some (.int .i64 c.una) ∧ W.cell? ⟨b, 9, none⟩ = some (.string c.out) := fun W hW => ⟨(blk_cell ((hW.block b hlt).trans HK.out.2.1) 5).trans (Cn.g5 _), (blk_cell ((hW.block b hlt).trans HK.out.2.1) 9).trans (Cn.g9 _)⟩
    refine wp_region_lex 10 (by kernel_rfl) (by kernel_rfl) (JB w) LeB (againφ w.heap.size L) ?_ JB.mono ?_ ?_
    · intro j sp x v W W' hj hL h
      unfold againφ at hj
      split at hj <;> first | (cases hj; exact h.below hL) | cases hj
    · exact (Below.refl _ _).drew
    simp only [List.take_succ_cons, List.take_zero, List.drop_succ_cons, List.drop_zero, pairs, List.zipIdx_cons, List.zipIdx_nil, List.map_cons, List.map_nil, Nat.zero_add, Nat.reduceAdd]
    (repeat (first | (refine lex_pure rfl rfl (fun K hK => ?_); go_simp; refine hK _ ?_; clear hK K; try simp (disch := omega) only [IntWalk.i64_in, IntWalk.u8_in, Int.add_sub_cancel, Int.tmod_eq_emod_of_nonneg, Int.tdiv_eq_ediv_of_nonneg]) | (refine lex_load rfl rfl _ (fun m W hJ hF => (by have cc := hcell W hJ; go_simp; rfl)) ?_; try simp (disch := omega) only [IntWalk.i64_in, IntWalk.u8_in, Int.add_sub_cancel, Int.tmod_eq_emod_of_nonneg, Int.tdiv_eq_ediv_of_nonneg]) | (refine lex_sadd rfl rfl rfl rfl rfl (by first | omega | (simp only [ByteArray.size_append]; omega)) ?_; go_simp)))
    refine lex_eff' (sp := fun _ v W => SgL w.heap.size L v W) rfl rfl (by intro _ _ _ _ h; exact h) (fun m W hJ hF => ?_) (fun v x hh => ?_) rfl
    · refine gives_call Try.call122 ((pieces_ok c b c.una c.out W ((hJ.block b hlt).trans HK.out.2.1) HK.out.2.2.una (by have := HK.out.2.2.out; omega)).mono ?_)
      rintro e w' ⟨v, rfl, h2, h3⟩
      refine ⟨_, rfl, hJ.step h3, h3, ?_⟩
      rw [← HK.out.1, againC, if_neg H1.out.1, if_pos H1.out.2]
      exact h2.more hJ.size
    refine lex_nil (fun m W hJ hF => ?_)
    have hv := hF 9 rfl _ _ _ (by simp [upd]; exact ⟨rfl, rfl⟩) rfl
    have HV := Lib.hid (And.intro hv hJ)
    clear hF hJ hv hh hcell
    go_wp2_with fail
    go_ret
    exact ⟨_, rfl, HV.out.1, HV.out.2⟩
  · have h1I : ((c.st : Int) == 1) = false := by simp; omega
    have H1 := Lib.hid (And.intro h1 h2)
    clear h1
    rw [h2] at c10
    clear h2
    go_enter Try.func79, Try.ntmps79
    go_wp2_with fail
    go_ret
    refine ⟨_, rfl, ?_, Below.refl _ _⟩
    rw [← HK.out.1, againC, if_neg H1.out.1, if_neg (by rw [H1.out.2]; simp)]
    exact SgL.nil _ _
theorem ConnAgain_ok (c : Cn) (hc : CnOK c) (w : World) :
    Calls Try.prog 29 #[.agg c.cells] w fun e w' => ∃ v, e = .returned (.tuple #[v, .int .i64 0]) ∧ SgL w.heap.size (againC c) v w' ∧ Below w.heap.size w w' := by
  obtain ⟨L, hL⟩ : ∃ L, againC c = L := ⟨_, rfl⟩
  rw [hL]
  have HK := Lib.hid (And.intro hL hc)
  clear hL hc
  go_enter Try.func29, Try.ntmps29
  go_wp2_with fail
  generalize hw0 : World.alloc w (.cells c.cells 48) = wa
  have hblk : wa.heap[World.heap w |>.size]? = some (.cells c.cells 48 (0, 0)) := by rw [← hw0]; exact heap_alloc_new _ _
  have hlt : (World.heap w).size < wa.heap.size := (Array.getElem?_eq_some_iff.1 hblk).1
  have hB0 : Below (World.heap w).size w wa := by rw [← hw0]; exact (Below.refl _ _).alloc (Nat.le_refl _) _
  clear hw0
  have F0 := Lib.hid (And.intro hblk (And.intro hlt hB0))
  clear hblk hlt hB0
  refine (ConnOK_true c HK.out.2 wa).mono ?_
  rintro e w1 ⟨rfl, hB1⟩
  have H1 := Lib.hid hB1
  clear hB1
  go_wp2_with fail
  refine (again_ok c w.heap.size w1 ((H1.out.block _ F0.out.2.1).trans F0.out.1) HK.out.2).mono ?_
  rintro e w2 ⟨v, rfl, hl, hB2⟩
  rw [HK.out.1] at hl
  have L2 : LeB w w2 := LeB.tr F0.out.2.2 (LeB.tr H1.out hB2)
  have H2 := Lib.hid (And.intro (hl.more (LeB.tr F0.out.2.2 H1.out).size) L2)
  clear hl hB2 L2
  go_wp2_with fail
  go_ret2
  exact ⟨_, rfl, H2.out.1, H2.out.2⟩
theorem ConnSay_ok (c : Cn) (t : ByteArray) (hc : CnOK c) (hs : c.st = 2) (ht : t.size ≤ 300) (w : World) :
    Calls Try.prog 28 #[.agg c.cells, .string t] w fun e w' => ∃ v, e = .returned (.tuple #[.agg (sayC c t).cells, v, .int .i64 0]) ∧ SgL w.heap.size (piecesC c c.nxt t) v w' ∧ Below w.heap.size w w' := by
  obtain ⟨L, hL⟩ : ∃ L, piecesC c c.nxt t = L := ⟨_, rfl⟩
  obtain ⟨d, hd⟩ : ∃ d, sayC c t = d := ⟨_, rfl⟩
  rw [hL, hd]
  have HK := Lib.hid (And.intro hL (And.intro hd (And.intro hc (And.intro hs ht))))
  have htI : (t.size : Int) ≤ 300 := by omega
  clear hL hd hc hs ht
  go_enter Try.func28, Try.ntmps28
  go_wp2_with fail
  generalize hw0 : World.alloc w (.cells c.cells 48) = wa
  have hblk : wa.heap[World.heap w |>.size]? = some (.cells c.cells 48 (0, 0)) := by rw [← hw0]; exact heap_alloc_new _ _
  have hlt : (World.heap w).size < wa.heap.size := (Array.getElem?_eq_some_iff.1 hblk).1
  have hB0 : Below (World.heap w).size w wa := by rw [← hw0]; exact (Below.refl _ _).alloc (Nat.le_refl _) _
  have hsz : (World.heap wa).size = (World.heap w).size + 1 := by rw [← hw0]; simp
  clear hw0
  rw [← hsz]
  have X1 := And.intro hblk (And.intro hlt hB0)
  clear hblk hlt hB0 hsz
  generalize hw0 : World.alloc wa (.cells #[.string ⟨#[]⟩, .int .i64 0, .int .i64 0, .int .i64 0, .int .i64 0, .int .i64 0, .int .i64 0, .int .i64 0, .string ⟨#[]⟩, .string ⟨#[]⟩, .bool false] 48) = wc
  have hblk : wc.heap[World.heap wa |>.size]? = some (.cells #[.string ⟨#[]⟩, .int .i64 0, .int .i64 0, .int .i64 0, .int .i64 0, .int .i64 0, .int .i64 0, .int .i64 0, .string ⟨#[]⟩, .string ⟨#[]⟩, .bool false] 48 (0, 0)) := by rw [← hw0]; exact heap_alloc_new _ _
  have hlt : (World.heap wa).size < wc.heap.size := (Array.getElem?_eq_some_iff.1 hblk).1
  have hB0 : Below (World.heap wa).size wa wc := by rw [← hw0]; exact (Below.refl _ _).alloc (Nat.le_refl _) _
  clear hw0
  have F0 := Lib.hid (And.intro ((hB0.block _ X1.2.1).trans X1.1) (And.intro (Nat.lt_of_lt_of_le X1.2.1 hB0.size) (And.intro hblk (And.intro hlt (And.intro (LeB.tr X1.2.2 hB0) (And.intro X1.2.1 X1.2.2.size))))))
  clear X1 hblk hlt hB0
  refine (ConnOK_true c HK.out.2.2.1 wc).mono ?_
  rintro e w1 ⟨rfl, hB1⟩
  have H1 := Lib.hid (And.intro hB1 (LeB.tr F0.out.2.2.2.2.1 hB1))
  clear hB1
  go_wp2_with fail
  refine (say_ok c t w.heap.size w1 ((H1.out.1.block _ F0.out.2.1).trans F0.out.1) HK.out.2.2.2.1 HK.out.2.2.1.nxt HK.out.2.2.2.2).mono ?_
  rintro e w2 ⟨v, rfl, hl, hc2, hg2⟩
  rw [HK.out.1] at hl
  rw [HK.out.2.1] at hc2
  have B2 : Below w.heap.size w w2 := Below.grown H1.out.2 hg2 H1.out.2.size (fun k e => by cases e; exact Nat.le_refl _)
  have hd2 := (hg2.block wa.heap.size (Nat.lt_of_lt_of_le F0.out.2.2.2.1 H1.out.1.size) (by intro e; injection e with e; have := F0.out; omega)).trans ((H1.out.1.block _ F0.out.2.2.2.1).trans F0.out.2.2.1)
  have c0 := blk_cell hc2 0
  have c1 := blk_cell hc2 1
  have c2 := blk_cell hc2 2
  have c3 := blk_cell hc2 3
  have c4 := blk_cell hc2 4
  have c5 := blk_cell hc2 5
  have c6 := blk_cell hc2 6
  have c7 := blk_cell hc2 7
  have c8 := blk_cell hc2 8
  have c9 := blk_cell hc2 9
  have c10 := blk_cell hc2 10
  simp at c0 c1 c2 c3 c4 c5 c6 c7 c8 c9 c10
  have hsz1 := Nat.lt_of_lt_of_le F0.out.2.2.2.1 H1.out.1.size
  have H3 := Lib.hid (And.intro hd2 (And.intro hl (And.intro B2 hsz1)))
  clear hd2 hl B2 hg2 hsz1
  go_wp2_with (refine wpList_store_row rfl _ _ 48 rfl wa.heap.size 48 _ _ rfl rfl H3.out.1 rfl infoCn rfl ?_)
  refine bodyPost_ret (ret_cell3 (x := v) (y := .int .i64 0) rfl rfl rfl rfl (setRow_heap _ _ _ _ _ _ H3.out.1) Try.underlying48 rfl infoCn) rfl ?_
  exact ⟨v, rfl, (H3.out.2.1.setRow H3.out.2.2.2 _).more H1.out.2.size, below_setRow H3.out.2.2.1 F0.out.2.2.2.2.2.2 _⟩
theorem ConnSay_busy (c : Cn) (t : ByteArray) (hc : CnOK c) (hs : c.st = 3) (ht : t.size ≤ 300) (w : World) :
    Calls Try.prog 28 #[.agg c.cells, .string t] w fun e w' => ∃ v, e = .returned (.tuple #[.agg c.cells, v, .int .i64 12]) ∧ Below w.heap.size w w' := by
  have HK := Lib.hid (And.intro hc hs)
  have htI : (t.size : Int) ≤ 300 := by omega
  clear hc hs ht
  go_enter Try.func28, Try.ntmps28
  go_wp2_with fail
  generalize hw0 : World.alloc w (.cells c.cells 48) = wa
  have hblk : wa.heap[World.heap w |>.size]? = some (.cells c.cells 48 (0, 0)) := by rw [← hw0]; exact heap_alloc_new _ _
  have hlt : (World.heap w).size < wa.heap.size := (Array.getElem?_eq_some_iff.1 hblk).1
  have hB0 : Below (World.heap w).size w wa := by rw [← hw0]; exact (Below.refl _ _).alloc (Nat.le_refl _) _
  have hsz : (World.heap wa).size = (World.heap w).size + 1 := by rw [← hw0]; simp
  clear hw0
  rw [← hsz]
  have X1 := And.intro hblk (And.intro hlt hB0)
  clear hblk hlt hB0 hsz
  generalize hw0 : World.alloc wa (.cells #[.string ⟨#[]⟩, .int .i64 0, .int .i64 0, .int .i64 0, .int .i64 0, .int .i64 0, .int .i64 0, .int .i64 0, .string ⟨#[]⟩, .string ⟨#[]⟩, .bool false] 48) = wc
  have hblk : wc.heap[World.heap wa |>.size]? = some (.cells #[.string ⟨#[]⟩, .int .i64 0, .int .i64 0, .int .i64 0, .int .i64 0, .int .i64 0, .int .i64 0, .int .i64 0, .string ⟨#[]⟩, .string ⟨#[]⟩, .bool false] 48 (0, 0)) := by rw [← hw0]; exact heap_alloc_new _ _
  have hlt : (World.heap wa).size < wc.heap.size := (Array.getElem?_eq_some_iff.1 hblk).1
  have hB0 : Below (World.heap wa).size wa wc := by rw [← hw0]; exact (Below.refl _ _).alloc (Nat.le_refl _) _
  clear hw0
  have F0 := Lib.hid (And.intro ((hB0.block _ X1.2.1).trans X1.1) (And.intro (Nat.lt_of_lt_of_le X1.2.1 hB0.size) (And.intro hblk (And.intro hlt (And.intro (LeB.tr X1.2.2 hB0) (And.intro X1.2.1 X1.2.2.size))))))
  clear X1 hblk hlt hB0
  refine (ConnOK_true c HK.out.1 wc).mono ?_
  rintro e w1 ⟨rfl, hB1⟩
  have H1 := Lib.hid (And.intro hB1 (LeB.tr F0.out.2.2.2.2.1 hB1))
  have hc1 := (hB1.block _ F0.out.2.1).trans F0.out.1
  have hd1 := (hB1.block _ F0.out.2.2.2.1).trans F0.out.2.2.1
  clear hB1
  have c0 := blk_cell hc1 0
  have c1 := blk_cell hc1 1
  have c2 := blk_cell hc1 2
  have c3 := blk_cell hc1 3
  have c4 := blk_cell hc1 4
  have c5 := blk_cell hc1 5
  have c6 := blk_cell hc1 6
  have c7 := blk_cell hc1 7
  have c8 := blk_cell hc1 8
  have c9 := blk_cell hc1 9
  have c10 := blk_cell hc1 10
  simp at c0 c1 c2 c3 c4 c5 c6 c7 c8 c9 c10
  have HC := Lib.hid (And.intro hc1 hd1)
  clear hc1 hd1
  go_wp2_with fail
  refine (say_busy c t w.heap.size w1 HC.out.1 HK.out.2).mono ?_
  rintro e w2 ⟨rfl, rfl⟩
  go_wp2_with (refine wpList_store_row rfl _ _ 48 rfl wa.heap.size 48 _ _ rfl rfl HC.out.2 rfl infoCn rfl ?_)
  refine bodyPost_ret (ret_cell3 (x := .slice none 0 0) (y := .int .i64 12) rfl rfl rfl rfl (setRow_heap _ _ _ _ _ _ HC.out.2) Try.underlying48 rfl infoCn) rfl ?_
  exact ⟨_, rfl, below_setRow H1.out.2 F0.out.2.2.2.2.2.2 _⟩
end Go.Proofs.Ytdenjmdngmmodaa
