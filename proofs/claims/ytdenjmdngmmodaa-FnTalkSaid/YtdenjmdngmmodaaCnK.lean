/- Connections: taking a segment, as called. -/
import Derived.Test.YtdenjmdngmmodaaCnJ
namespace Go.Proofs.Ytdenjmdngmmodaa
open Go.RowKit
set_option linter.unusedVariables false
set_option linter.unusedSimpArgs false
set_option maxRecDepth 200000
set_option maxHeartbeats 600000

theorem onw_lt (a n : Nat) : onw a n < 4294967296 := by unfold onw; omega
theorem takeC_OK {c : Cn} {g : Sg} (h : CnOK c) (hg : SegOK g.src g.dst g.seq g.ack g.flags g.space g.data) : CnOK (takeC c g).1 := by
  have ha := acked_OK h hg.ack
  obtain ⟨ca, hca⟩ : ∃ x, acked c g.ack = x := ⟨_, rfl⟩
  unfold takeC
  rw [hca] at ha ⊢
  clear hca
  split
  · exact h
  split
  · dsimp only
    split
    · exact ⟨h.mac, h.ip, h.port, h.dst, h.nxt, h.nxt, h.want, by show 0 ≤ 300; omega, by show 0 ≤ 300; omega, .inr (.inr (.inr ⟨rfl, rfl, rfl, by unfold bhd; simp only; have := h.nxt; omega⟩))⟩
    · exact h
  split
  · exact h
  split
  · exact h
  split
  · exact ha
  rename_i hn
  split
  · rename_i hs
    refine ⟨ha.mac, ha.ip, ha.port, ha.dst, ha.una, ha.nxt, onw_lt _ _, by simp only [ByteArray.size_append]; omega, ha.out, ?_⟩
    rcases ha.mode with m | m | m | m
    · exact absurd (.inl m.1) hn
    · exact .inr (.inl m)
    · exact .inr (.inr (.inl m))
    · exact absurd (.inr (.inl m.1)) hn
  · exact ha

theorem SgL.setRow {B : Nat} {l : List Sg} {v : Value} {w : World} (h : SgL B l v w) {k : Nat} (hk : k < B) (cs : Array Value) : SgL B l v (w.setRow k cs) := by
  obtain ⟨A, c, h1, h2, h3, h4⟩ := h
  exact ⟨A, c, h1, h2, h3.keep fun ad e => setRow_other w k ad.block cs (by have := (h4 ad e).1; omega), fun ad e => ⟨(h4 ad e).1, by simpa [World.setRow] using (h4 ad e).2⟩⟩
theorem ConnTake_ok (c : Cn) (g : Sg) (hc : CnOK c) (hg : SegOK g.src g.dst g.seq g.ack g.flags g.space g.data) (w : World) :
    Calls Try.prog 27 #[.agg c.cells, .agg g.cells] w fun e w' => ∃ v, e = .returned (.tuple #[.agg (takeC c g).1.cells, v, .int .i64 0]) ∧ SgL w.heap.size (takeC c g).2 v w' ∧ Below w.heap.size w w' := by
  obtain ⟨r, hr⟩ : ∃ r, takeC c g = r := ⟨_, rfl⟩
  rw [hr]
  have HR := Lib.hid hr
  have HK := Lib.hid (And.intro hc hg)
  clear hc hg hr
  go_enter Try.func27, Try.ntmps27
  go_wp2_with fail
  generalize hw0 : World.alloc w (.cells c.cells 48) = wa
  have hblk : wa.heap[World.heap w |>.size]? = some (.cells c.cells 48 (0, 0)) := by rw [← hw0]; exact heap_alloc_new _ _
  have hlt : (World.heap w).size < wa.heap.size := (Array.getElem?_eq_some_iff.1 hblk).1
  have hB0 : Below (World.heap w).size w wa := by rw [← hw0]; exact (Below.refl _ _).alloc (Nat.le_refl _) _
  have hsz : (World.heap wa).size = (World.heap w).size + 1 := by rw [← hw0]; simp
  clear hw0
  rw [← hsz]
  have X1 := And.intro hblk (And.intro hlt hB0)
  clear hblk hlt hB0 hsz
  generalize hw0 : World.alloc wa (.cells g.cells 55) = wb
  have hblk : wb.heap[World.heap wa |>.size]? = some (.cells g.cells 55 (0, 0)) := by rw [← hw0]; exact heap_alloc_new _ _
  have hlt : (World.heap wa).size < wb.heap.size := (Array.getElem?_eq_some_iff.1 hblk).1
  have hB0 : Below (World.heap wa).size wa wb := by rw [← hw0]; exact (Below.refl _ _).alloc (Nat.le_refl _) _
  have hsz : (World.heap wb).size = (World.heap wa).size + 1 := by rw [← hw0]; simp
  clear hw0
  rw [← hsz]
  have X2 := And.intro hblk (And.intro hlt hB0)
  clear hblk hlt hB0 hsz
  generalize hw0 : World.alloc wb (.cells #[.string ⟨#[]⟩, .int .i64 0, .int .i64 0, .int .i64 0, .int .i64 0, .int .i64 0, .int .i64 0, .int .i64 0, .string ⟨#[]⟩, .string ⟨#[]⟩, .bool false] 48) = wc
  have hblk : wc.heap[World.heap wb |>.size]? = some (.cells #[.string ⟨#[]⟩, .int .i64 0, .int .i64 0, .int .i64 0, .int .i64 0, .int .i64 0, .int .i64 0, .int .i64 0, .string ⟨#[]⟩, .string ⟨#[]⟩, .bool false] 48 (0, 0)) := by rw [← hw0]; exact heap_alloc_new _ _
  have hlt : (World.heap wb).size < wc.heap.size := (Array.getElem?_eq_some_iff.1 hblk).1
  have hB0 : Below (World.heap wb).size wb wc := by rw [← hw0]; exact (Below.refl _ _).alloc (Nat.le_refl _) _
  clear hw0
  have L1 : LeB wa wc := LeB.tr X2.2.2 hB0
  have L0 : LeB w wc := LeB.tr X1.2.2 L1
  have F0 := Lib.hid (And.intro ((L1.block _ X1.2.1).trans X1.1) (And.intro (Nat.lt_of_lt_of_le X1.2.1 L1.size) (And.intro ((hB0.block _ X2.2.1).trans X2.1) (And.intro (Nat.lt_of_lt_of_le X2.2.1 hB0.size) (And.intro hblk (And.intro hlt (And.intro L0 (And.intro X1.2.1 (And.intro X2.2.1 X1.2.2.size)))))))))
  clear X1 X2 hblk hlt hB0 L1 L0
  refine (ConnOK_true c HK.out.1 wc).mono ?_
  rintro e w1 ⟨rfl, hB1⟩
  have hg1 := (hB1.block _ F0.out.2.2.2.1).trans F0.out.2.2.1
  have c0 := blk_cell hg1 0
  have c1 := blk_cell hg1 1
  have c2 := blk_cell hg1 2
  have c3 := blk_cell hg1 3
  have c4 := blk_cell hg1 4
  have c5 := blk_cell hg1 5
  have c6 := blk_cell hg1 6
  simp at c0 c1 c2 c3 c4 c5 c6
  have H1 := Lib.hid (And.intro hg1 hB1)
  clear hg1 hB1
  go_wp2_with fail
  refine (segmentOK_true _ _ _ _ _ _ _ HK.out.2 w1).mono ?_
  rintro e w2 ⟨rfl, hB2⟩
  have L2 : LeB wc w2 := LeB.tr H1.out.2 hB2
  clear H1 hB2 c0 c1 c2 c3 c4 c5 c6
  have hg2 := (L2.block _ F0.out.2.2.2.1).trans F0.out.2.2.1
  have c0 := blk_cell hg2 0
  have c1 := blk_cell hg2 1
  have c2 := blk_cell hg2 2
  have c3 := blk_cell hg2 3
  have c4 := blk_cell hg2 4
  have c5 := blk_cell hg2 5
  have c6 := blk_cell hg2 6
  simp at c0 c1 c2 c3 c4 c5 c6
  have hc2 := (L2.block _ F0.out.2.1).trans F0.out.1
  have H2 := Lib.hid (And.intro hc2 L2)
  clear hg2 L2 hc2
  go_wp2_with fail
  refine (take_ok c g w.heap.size w2 HK.out.1 HK.out.2 H2.out.1).mono ?_
  rintro e w3 ⟨v, rfl, hl, hc3, hg3⟩
  rw [HR.out] at hl hc3
  have G0 := grown_trans (grownBy_of_below (LeB.tr F0.out.2.2.2.2.2.2.1 H2.out.2) (some w.heap.size)) hg3
  have B3 : Below w.heap.size w w3 := Below.grown (LeB.tr F0.out.2.2.2.2.2.2.1 H2.out.2) hg3 (LeB.tr F0.out.2.2.2.2.2.2.1 H2.out.2).size (fun k e => by cases e; exact Nat.le_refl _)
  have hd3 := (hg3.block wb.heap.size (Nat.lt_of_lt_of_le F0.out.2.2.2.2.2.1 H2.out.2.size) (by intro e; injection e with e; have := F0.out; omega)).trans ((H2.out.2.block _ F0.out.2.2.2.2.2.1).trans F0.out.2.2.2.2.1)
  clear c0 c1 c2 c3 c4 c5 c6
  obtain ⟨rc, rl⟩ := r
  dsimp only at hl hc3 ⊢
  have c0 := blk_cell hc3 0
  have c1 := blk_cell hc3 1
  have c2 := blk_cell hc3 2
  have c3 := blk_cell hc3 3
  have c4 := blk_cell hc3 4
  have c5 := blk_cell hc3 5
  have c6 := blk_cell hc3 6
  have c7 := blk_cell hc3 7
  have c8 := blk_cell hc3 8
  have c9 := blk_cell hc3 9
  have c10 := blk_cell hc3 10
  simp at c0 c1 c2 c3 c4 c5 c6 c7 c8 c9 c10
  have H3 := Lib.hid (And.intro hd3 (And.intro hl (And.intro B3 G0)))
  clear hd3 hl B3 G0 hg3
  go_wp2_with (refine wpList_store_row rfl _ _ 48 rfl wb.heap.size 48 _ _ rfl rfl H3.out.1 rfl infoCn rfl ?_)
  refine bodyPost_ret (ret_cell3 (x := v) (y := .int .i64 0) rfl rfl rfl rfl (setRow_heap _ _ _ _ _ _ H3.out.1) Try.underlying48 rfl infoCn) rfl ?_
  have hle := F0.out
  exact ⟨v, rfl, (H3.out.2.1.setRow (by have := H2.out.2.size; omega) _).more (by have := H2.out.2.size; have := hle.2.2.2.2.2.2.1.size; omega), below_setRow H3.out.2.2.1 (by omega) _⟩
end Go.Proofs.Ytdenjmdngmmodaa
