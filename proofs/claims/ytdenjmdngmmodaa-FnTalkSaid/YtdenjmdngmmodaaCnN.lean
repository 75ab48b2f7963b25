/- Connections: what is said, and said again. -/
import Derived.Test.YtdenjmdngmmodaaCnM
namespace Go.Proofs.Ytdenjmdngmmodaa
open Go.RowKit
set_option linter.unusedVariables false
set_option linter.unusedSimpArgs false
set_option maxRecDepth 200000
set_option maxHeartbeats 600000

def sayC (c : Cn) (t : ByteArray) : Cn := { c with st := 3, fin := true, out := t, nxt := onw c.nxt (t.size + 1) }
theorem cells_say (c : Cn) (t : ByteArray) (n : Nat) : (((c.cells.setIfInBounds 4 (.int .i64 3)).setIfInBounds 10 (.bool true)).setIfInBounds 9 (.string t)).setIfInBounds 6 (.int .i64 n) = Cn.cells { c with st := 3, fin := true, out := t, nxt := n } := rfl
theorem say_ok (c : Cn) (t : ByteArray) (b : Nat) (w : World) (hb : w.heap[b]? = some (.cells c.cells 48 (0, 0))) (hs : c.st = 2) (hn : c.nxt < 4294967296) (ht : t.size ≤ 300) :
    Calls Try.prog 78 #[.pointer (some ⟨b, 0, none⟩), .string t] w fun e w' => ∃ v, e = .returned (.tuple #[v, .int .i64 0]) ∧ SgL w.heap.size (piecesC c c.nxt t) v w' ∧ w'.heap[b]? = some (.cells (sayC c t).cells 48 (0, 0)) ∧ w.grownBy w' (some b) := by
  have hlt := (Array.getElem?_eq_some_iff.1 hb).1
  obtain ⟨L, hL⟩ : ∃ L, piecesC c c.nxt t = L := ⟨_, rfl⟩
  obtain ⟨m, hm⟩ : ∃ m, onw c.nxt (t.size + 1) = m := ⟨_, rfl⟩
  rw [hL, sayC, hm]
  have c4 : w.cell? ⟨b, 4, none⟩ = some (.int .i64 2) := (blk_cell hb 4).trans (by rw [Cn.g4, hs]; rfl)
  have c6 := (blk_cell hb 6).trans (Cn.g6 _)
  have HL := Lib.hid (And.intro hL (And.intro hm (And.intro hb hn)))
  have htI : (t.size : Int) ≤ 300 := by omega
  clear hL hm hb hs hn
  go_enter Try.func78, Try.ntmps78
  go_wp2_with fail
  refine (pieces_ok c b c.nxt t w HL.out.2.2.1 HL.out.2.2.2 (by omega)).mono ?_
  rintro e w1 ⟨v, rfl, hl, hB⟩
  rw [HL.out.1] at hl
  have hb1 := (hB.block b hlt).trans HL.out.2.2.1
  clear c4 c6
  have c6 := (blk_cell hb1 6).trans (Cn.g6 _)
  have f4 := blk_free hb1 4
  have f6 := blk_free hb1 6
  have f9 := blk_free hb1 9
  have f10 := blk_free hb1 10
  have c4 := (blk_cell hb1 4).trans (Cn.g4 _)
  have c9 := (blk_cell hb1 9).trans (Cn.g9 _)
  have c10 := (blk_cell hb1 10).trans (Cn.g10 _)
  have H1 := Lib.hid (And.intro hl (And.intro hB hb1))
  clear hl hB hb1
  go_wp2_with fail
  refine (onward_is c.nxt (t.size + 1) m HL.out.2.2.2 (by omega) HL.out.2.1 w1).mono ?_
  rintro e w2 ⟨rfl, rfl⟩
  go_wp2_with fail
  go_ret2
  refine ⟨v, rfl, ?_, ?_, grown_own (grown_own (grown_own (grown_own (grownBy_of_below H1.out.2.1 (some b)) _ _) _ _) _ _) _ _⟩
  · obtain ⟨A, cc, h1, h2, h3, h4⟩ := H1.out.1
    refine ⟨A, cc, h1, h2, h3.keep fun ad e => ?_, fun ad e => ⟨(h4 ad e).1, by simpa [World.setCell] using (h4 ad e).2⟩⟩
    have hne : ad.block ≠ b := by have := (h4 ad e).1; omega
    rw [Below.heap_setCell _ _ _ _ hne, Below.heap_setCell _ _ _ _ hne, Below.heap_setCell _ _ _ _ hne, Below.heap_setCell _ _ _ _ hne]
  · rw [blk_set (blk_set (blk_set (blk_set H1.out.2.2 _ _) _ _) _ _) _ _, cells_say]
theorem say_busy (c : Cn) (t : ByteArray) (b : Nat) (w : World) (hb : w.heap[b]? = some (.cells c.cells 48 (0, 0))) (hs : c.st = 3) :
    Calls Try.prog 78 #[.pointer (some ⟨b, 0, none⟩), .string t] w fun e w' => e = .returned (.tuple #[.slice none 0 0, .int .i64 12]) ∧ w = w' := by
  have c4 : w.cell? ⟨b, 4, none⟩ = some (.int .i64 3) := (blk_cell hb 4).trans (by rw [Cn.g4, hs]; rfl)
  clear hb
  go_enter Try.func78, Try.ntmps78
  go_wp2_with fail
  go_ret2
  exact ⟨rfl, rfl⟩
def againC (c : Cn) : List Sg := if c.st = 1 then [⟨80, c.port, c.una, c.want, 18, 1000, ⟨#[]⟩⟩] else if c.fin = true then piecesC c c.una c.out else []
def againφ (B : Nat) (L : List Sg) : Nat → Option Spec
  | 9 => some fun _ v w => SgL B L v w
  | _ => none
theorem again_ok (c : Cn) (b : Nat) (w : World) (hb : w.heap[b]? = some (.cells c.cells 48 (0, 0))) (hc : CnOK c) :
    Calls Try.prog 79 #[.pointer (some ⟨b, 0, none⟩)] w fun e w' => ∃ v, e = .returned v ∧ SgL w.heap.size (againC c) v w' ∧ Below w.heap.size w w' := by
  obtain ⟨L, hL⟩ : ∃ L, againC c = L := ⟨_, rfl⟩
  rw [hL]
  have c4 := (blk_cell hb 4).trans (Cn.g4 _)
  have c5 := (blk_cell hb 5).trans (Cn.g5 _)
  have c9 := (blk_cell hb 9).trans (Cn.g9 _)
  have c10 := (blk_cell hb 10).trans (Cn.g10 _)
  have HK := Lib.hid (And.intro hL (And.intro hb hc))
  have hm := hc.mode
  clear hL hb hc
  have hcs : c.st = 1 ∨ ((c.st ≠ 1) ∧ c.fin = true) ∨ (c.st ≠ 1 ∧ c.fin = false) := by
    rcases hm with ⟨m, m2, -⟩ | ⟨m, m2, -⟩ | ⟨m, m2, -⟩ | ⟨m, m2, -⟩
    · exact .inl m
    · exact .inr (.inr ⟨by omega, m2⟩)
    · exact .inr (.inl ⟨by omega, m2⟩)
    · exact .inr (.inr ⟨by omega, m2⟩)
  clear hm
  rcases hcs with h1 | ⟨h1, h2⟩ | ⟨h1, h2⟩
  · have h1I : (c.st : Int) = 1 := by omega
    have H1 := Lib.hid h1
    clear h1
    go_enter Try.func79, Try.ntmps79
    go_wp2_with fail
    refine (opened_ok c b w HK.out.2.1).mono ?_
    rintro e w1 ⟨bb, rfl, q1, q2, q3⟩
    go_wp2_with fail
    go_ret
    refine ⟨_, rfl, ?_, q3⟩
    rw [← HK.out.1, againC, if_pos H1.out]
    exact OneSg.toL ⟨bb, rfl, q1, q2⟩
  · have h1I : ((c.st : Int) == 1) = false := by simp; omega
    have H1 := Lib.hid (And.intro h1 h2)
    clear h1
    rw [h2] at c10
    clear h2
    go_enter Try.func79, Try.ntmps79
    go_wp2_with fail
    have hlt := (Array.getElem?_eq_some_iff.1 HK.out.2.1).1
    clear c4 c5 c9 c10 h1I
    have hcell : ∀ W, Below w.heap.size w W → W.cell? ⟨b, 5, none⟩ = some (.int .i64 c.una) ∧ W.cell? ⟨b, 9, none⟩ = some (.string c.out) := fun W hW => ⟨(blk_cell ((hW.block b hlt).trans HK.out.2.1) 5).trans (Cn.g5 _), (blk_cell ((hW.block b hlt).trans HK.out.2.1) 9).trans (Cn.g9 _)⟩
    refine wp_region_lex 10 (by kernel_rfl) (by kernel_rfl) (JB w) LeB (againφ w.heap.size L) ?_ JB.mono ?_ ?_
    · intro j sp x v W W' hj hL h
      unfold againφ at hj
      split at hj <;> first | (cases hj; exact h.below hL) | cases hj
    · exact (Below.refl _ _).drew
    simp only [List.take_succ_cons, List.take_zero, List.drop_succ_cons, List.drop_zero, pairs, List.zipIdx_cons, List.zipIdx_nil, List.map_cons, List.map_nil, Nat.zero_add, Nat.reduceAdd]
    (repeat (first | (refine lex_pure rfl rfl (fun K hK => ?_); go_simp; refine hK _ ?_; clear hK K; try simp (disch := omega) only [IntWalk.i64_in, IntWalk.u8_in, Int.add_sub_cancel, Int.tmod_eq_emod_of_nonneg, Int.tdiv_eq_ediv_of_nonneg]) | (refine lex_load rfl rfl _ (fun m W hJ hF => (by have cc := hcell W hJ; go_simp; rfl)) ?_; try simp (disch := omega) only [IntWalk.i64_in, IntWalk.u8_in, Int.add_sub_cancel, Int.tmod_eq_emod_of_nonneg, Int.tdiv_eq_ediv_of_nonneg]) | (refine lex_sadd rfl rfl rfl rfl rfl (by first | omega | (simp only [ByteArray.size_append]; omega)) ?_; go_simp)))
    refine lex_eff' (sp := fun _ v W => SgL w.heap.size L v W) rfl rfl (by intro _ _ _ _ h; exact h) (fun m W hJ hF => ?_) (fun v x hh => ?_) rfl
    · refine gives_call Try.call122 ((pieces_ok c b c.una c.out W ((hJ.block b hlt).trans HK.out.2.1) HK.out.2.2.una (by have := HK.out.2.2.out; omega)).mono ?_)
      rintro e w' ⟨v, rfl, h2, h3⟩
      refine ⟨_, rfl, hJ.step h3, h3, ?_⟩
      rw [← HK.out.1, againC, if_neg H1.out.1, if_pos H1.out.2]
      exact h2.more hJ.size
    refine lex_nil (fun m W hJ hF => ?_)
    have hv := hF 9 rfl _ _ _ (by simp [upd]; exact ⟨rfl, rfl⟩) rfl
    have HV := Lib.hid (And.intro hv hJ)
    clear hF hJ hv hh hcell
    go_wp2_with fail
    go_ret
    exact ⟨_, rfl, HV.out.1, HV.out.2⟩
  · have h1I : ((c.st : Int) == 1) = false := by simp; omega
    have H1 := Lib.hid (And.intro h1 h2)
    clear h1
    rw [h2] at c10
    clear h2
    go_enter Try.func79, Try.ntmps79
    go_wp2_with fail
    go_ret
    refine ⟨_, rfl, ?_, Below.refl _ _⟩
    rw [← HK.out.1, againC, if_neg H1.out.1, if_neg (by rw [H1.out.2]; simp)]
    exact SgL.nil _ _
theorem ConnAgain_ok (c : Cn) (hc : CnOK c) (w : World) :
    Calls Try.prog 29 #[.agg c.cells] w fun e w' => ∃ v, e = .returned (.tuple #[v, .int .i64 0]) ∧ SgL w.heap.size (againC c) v w' ∧ Below w.heap.size w w' := by
  obtain ⟨L, hL⟩ : ∃ L, againC c = L := ⟨_, rfl⟩
  rw [hL]
  have HK := Lib.hid (And.intro hL hc)
  clear hL hc
  go_enter Try.func29, Try.ntmps29
  go_wp2_with fail
  generalize hw0 : World.alloc w (.cells c.cells 48) = wa
  have hblk : wa.heap[World.heap w |>.size]? = some (.cells c.cells 48 (0, 0)) := by rw [← hw0]; exact heap_alloc_new _ _
  have hlt : (World.heap w).size < wa.heap.size := (Array.getElem?_eq_some_iff.1 hblk).1
  have hB0 : Below (World.heap w).size w wa := by rw [← hw0]; exact (Below.refl _ _).alloc (Nat.le_refl _) _
  clear hw0
  have F0 := Lib.hid (And.intro hblk (And.intro hlt hB0))
  clear hblk hlt hB0
  refine (ConnOK_true c HK.out.2 wa).mono ?_
  rintro e w1 ⟨rfl, hB1⟩
  have H1 := Lib.hid hB1
  clear hB1
  go_wp2_with fail
  refine (again_ok c w.heap.size w1 ((H1.out.block _ F0.out.2.1).trans F0.out.1) HK.out.2).mono ?_
  rintro e w2 ⟨v, rfl, hl, hB2⟩
  rw [HK.out.1] at hl
  have L2 : LeB w w2 := LeB.tr F0.out.2.2 (LeB.tr H1.out hB2)
  have H2 := Lib.hid (And.intro (hl.more (LeB.tr F0.out.2.2 H1.out).size) L2)
  clear hl hB2 L2
  go_wp2_with fail
  go_ret2
  exact ⟨_, rfl, H2.out.1, H2.out.2⟩
theorem ConnSay_ok (c : Cn) (t : ByteArray) (hc : CnOK c) (hs : c.st = 2) (ht : t.size ≤ 300) (w : World) :
    Calls Try.prog 28 #[.agg c.cells, .string t] w fun e w' => ∃ v, e = .returned (.tuple #[.agg (sayC c t).cells, v, .int .i64 0]) ∧ SgL w.heap.size (piecesC c c.nxt t) v w' ∧ Below w.heap.size w w' := by
  obtain ⟨L, hL⟩ : ∃ L, piecesC c c.nxt t = L := ⟨_, rfl⟩
  obtain ⟨d, hd⟩ : ∃ d, sayC c t = d := ⟨_, rfl⟩
  rw [hL, hd]
  have HK := Lib.hid (And.intro hL (And.intro hd (And.intro hc (And.intro hs ht))))
  have htI : (t.size : Int) ≤ 300 := by omega
  clear hL hd hc hs ht
  go_enter Try.func28, Try.ntmps28
  go_wp2_with fail
  generalize hw0 : World.alloc w (.cells c.cells 48) = wa
  have hblk : wa.heap[World.heap w |>.size]? = some (.cells c.cells 48 (0, 0)) := by rw [← hw0]; exact heap_alloc_new _ _
  have hlt : (World.heap w).size < wa.heap.size := (Array.getElem?_eq_some_iff.1 hblk).1
  have hB0 : Below (World.heap w).size w wa := by rw [← hw0]; exact (Below.refl _ _).alloc (Nat.le_refl _) _
  have hsz : (World.heap wa).size = (World.heap w).size + 1 := by rw [← hw0]; simp
  clear hw0
  rw [← hsz]
  have X1 := And.intro hblk (And.intro hlt hB0)
  clear hblk hlt hB0 hsz
  generalize hw0 : World.alloc wa (.cells #[.string ⟨#[]⟩, .int .i64 0, .int .i64 0, .int .i64 0, .int .i64 0, .int .i64 0, .int .i64 0, .int .i64 0, .string ⟨#[]⟩, .string ⟨#[]⟩, .bool false] 48) = wc
  have hblk : wc.heap[World.heap wa |>.size]? = some (.cells #[.string ⟨#[]⟩, .int .i64 0, .int .i64 0, .int .i64 0, .int .i64 0, .int .i64 0, .int .i64 0, .int .i64 0, .string ⟨#[]⟩, .string ⟨#[]⟩, .bool false] 48 (0, 0)) := by rw [← hw0]; exact heap_alloc_new _ _
  have hlt : (World.heap wa).size < wc.heap.size := (Array.getElem?_eq_some_iff.1 hblk).1
  have hB0 : Below (World.heap wa).size wa wc := by rw [← hw0]; exact (Below.refl _ _).alloc (Nat.le_refl _) _
  clear hw0
  have F0 := Lib.hid (And.intro ((hB0.block _ X1.2.1).trans X1.1) (And.intro (Nat.lt_of_lt_of_le X1.2.1 hB0.size) (And.intro hblk (And.intro hlt (And.intro (LeB.tr X1.2.2 hB0) (And.intro X1.2.1 X1.2.2.size))))))
  clear X1 hblk hlt hB0
  refine (ConnOK_true c HK.out.2.2.1 wc).mono ?_
  rintro e w1 ⟨rfl, hB1⟩
  have H1 := Lib.hid (And.intro hB1 (LeB.tr F0.out.2.2.2.2.1 hB1))
  clear hB1
  go_wp2_with fail
  refine (say_ok c t w.heap.size w1 ((H1.out.1.block _ F0.out.2.1).trans F0.out.1) HK.out.2.2.2.1 HK.out.2.2.1.nxt HK.out.2.2.2.2).mono ?_
  rintro e w2 ⟨v, rfl, hl, hc2, hg2⟩
  rw [HK.out.1] at hl
  rw [HK.out.2.1] at hc2
  have B2 : Below w.heap.size w w2 := Below.grown H1.out.2 hg2 H1.out.2.size (fun k e => by cases e; exact Nat.le_refl _)
  have hd2 := (hg2.block wa.heap.size (Nat.lt_of_lt_of_le F0.out.2.2.2.1 H1.out.1.size) (by intro e; injection e with e; have := F0.out; omega)).trans ((H1.out.1.block _ F0.out.2.2.2.1).trans F0.out.2.2.1)
  have c0 := blk_cell hc2 0
  have c1 := blk_cell hc2 1
  have c2 := blk_cell hc2 2
  have c3 := blk_cell hc2 3
  have c4 := blk_cell hc2 4
  have c5 := blk_cell hc2 5
  have c6 := blk_cell hc2 6
  have c7 := blk_cell hc2 7
  have c8 := blk_cell hc2 8
  have c9 := blk_cell hc2 9
  have c10 := blk_cell hc2 10
  simp at c0 c1 c2 c3 c4 c5 c6 c7 c8 c9 c10
  have hsz1 := Nat.lt_of_lt_of_le F0.out.2.2.2.1 H1.out.1.size
  have H3 := Lib.hid (And.intro hd2 (And.intro hl (And.intro B2 hsz1)))
  clear hd2 hl B2 hg2 hsz1
  go_wp2_with (refine wpList_store_row rfl _ _ 48 rfl wa.heap.size 48 _ _ rfl rfl H3.out.1 rfl infoCn rfl ?_)
  refine bodyPost_ret (ret_cell3 (x := v) (y := .int .i64 0) rfl rfl rfl rfl (setRow_heap _ _ _ _ _ _ H3.out.1) Try.underlying48 rfl infoCn) rfl ?_
  exact ⟨v, rfl, (H3.out.2.1.setRow H3.out.2.2.2 _).more H1.out.2.size, below_setRow H3.out.2.2.1 F0.out.2.2.2.2.2.2 _⟩
theorem ConnSay_busy (c : Cn) (t : ByteArray) (hc : CnOK c) (hs : c.st = 3) (ht : t.size ≤ 300) (w : World) :
    Calls Try.prog 28 #[.agg c.cells, .string t] w fun e w' => ∃ v, e = .returned (.tuple #[.agg c.cells, v, .int .i64 12]) ∧ Below w.heap.size w w' := by
  have HK := Lib.hid (And.intro hc hs)
  have htI : (t.size : Int) ≤ 300 := by omega
  clear hc hs ht
  go_enter Try.func28, Try.ntmps28
  go_wp2_with fail
  generalize hw0 : World.alloc w (.cells c.cells 48) = wa
  have hblk : wa.heap[World.heap w |>.size]? = some (.cells c.cells 48 (0, 0)) := by rw [← hw0]; exact heap_alloc_new _ _
  have hlt : (World.heap w).size < wa.heap.size := (Array.getElem?_eq_some_iff.1 hblk).1
  have hB0 : Below (World.heap w).size w wa := by rw [← hw0]; exact (Below.refl _ _).alloc (Nat.le_refl _) _
  have hsz : (World.heap wa).size = (World.heap w).size + 1 := by rw [← hw0]; simp
  clear hw0
  rw [← hsz]
  have X1 := And.intro hblk (And.intro hlt hB0)
  clear hblk hlt hB0 hsz
  generalize hw0 : World.alloc wa (.cells #[.string ⟨#[]⟩, .int .i64 0, .int .i64 0, .int .i64 0, .int .i64 0, .int .i64 0, .int .i64 0, .int .i64 0, .string ⟨#[]⟩, .string ⟨#[]⟩, .bool false] 48) = wc
  have hblk : wc.heap[World.heap wa |>.size]? = some (.cells #[.string ⟨#[]⟩, .int .i64 0, .int .i64 0, .int .i64 0, .int .i64 0, .int .i64 0, .int .i64 0, .int .i64 0, .string ⟨#[]⟩, .string ⟨#[]⟩, .bool false] 48 (0, 0)) := by rw [← hw0]; exact heap_alloc_new _ _
  have hlt : (World.heap wa).size < wc.heap.size := (Array.getElem?_eq_some_iff.1 hblk).1
  have hB0 : Below (World.heap wa).size wa wc := by rw [← hw0]; exact (Below.refl _ _).alloc (Nat.le_refl _) _
  clear hw0
  have F0 := Lib.hid (And.intro ((hB0.block _ X1.2.1).trans X1.1) (And.intro (Nat.lt_of_lt_of_le X1.2.1 hB0.size) (And.intro hblk (And.intro hlt (And.intro (LeB.tr X1.2.2 hB0) (And.intro X1.2.1 X1.2.2.size))))))
  clear X1 hblk hlt hB0
  refine (ConnOK_true c HK.out.1 wc).mono ?_
  rintro e w1 ⟨rfl, hB1⟩
  have H1 := Lib.hid (And.intro hB1 (LeB.tr F0.out.2.2.2.2.1 hB1))
  have hc1 := (hB1.block _ F0.out.2.1).trans F0.out.1
  have hd1 := (hB1.block _ F0.out.2.2.2.1).trans F0.out.2.2.1
  clear hB1
  have c0 := blk_cell hc1 0
  have c1 := blk_cell hc1 1
  have c2 := blk_cell hc1 2
  have c3 := blk_cell hc1 3
  have c4 := blk_cell hc1 4
  have c5 := blk_cell hc1 5
  have c6 := blk_cell hc1 6
  have c7 := blk_cell hc1 7
  have c8 := blk_cell hc1 8
  have c9 := blk_cell hc1 9
  have c10 := blk_cell hc1 10
  simp at c0 c1 c2 c3 c4 c5 c6 c7 c8 c9 c10
  have HC := Lib.hid (And.intro hc1 hd1)
  clear hc1 hd1
  go_wp2_with fail
  refine (say_busy c t w.heap.size w1 HC.out.1 HK.out.2).mono ?_
  rintro e w2 ⟨rfl, rfl⟩
  go_wp2_with (refine wpList_store_row rfl _ _ 48 rfl wa.heap.size 48 _ _ rfl rfl HC.out.2 rfl infoCn rfl ?_)
  refine bodyPost_ret (ret_cell3 (x := .slice none 0 0) (y := .int .i64 12) rfl rfl rfl rfl (setRow_heap _ _ _ _ _ _ HC.out.2) Try.underlying48 rfl infoCn) rfl ?_
  exact ⟨_, rfl, below_setRow H1.out.2 F0.out.2.2.2.2.2.2 _⟩
end Go.Proofs.Ytdenjmdngmmodaa
