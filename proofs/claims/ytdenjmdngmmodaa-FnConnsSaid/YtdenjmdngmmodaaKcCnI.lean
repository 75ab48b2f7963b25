/- Connections: a segment with an end is taken. -/
import Derived.Test.YtdenjmdngmmodaaKc05
namespace Go.Proofs.Ytdenjmdngmmodaa
open Go.RowKit
set_option linter.unusedVariables false
set_option linter.unusedSimpArgs false
set_option maxRecDepth 200000
set_option maxHeartbeats 600000

theorem take_m1 (c : Cn) (g : Sg) (b : Nat) (w : World) (hc : CnOK c) (hg : SegOK g.src g.dst g.seq g.ack g.flags g.space g.data) (hb : w.heap[b]? = some (.cells c.cells 48 (0, 0))) (h4 : ¬ c.st = 4) (b4 : bits .and .i64 (g.flags : Int) 4 = 0) (n4 : Nat.land g.flags 4 = 0) (b2 : bits .and .i64 (g.flags : Int) 2 = 0) (n2 : Nat.land g.flags 2 = 0) (b16 : bits .and .i64 (g.flags : Int) 16 = 16) (n16 : Nat.land g.flags 16 = 16) (b1 : bits .and .i64 (g.flags : Int) 1 = 1) (n1 : Nat.land g.flags 1 = 1) (e : Bool) (hd1 : g.data.toList.isEmpty = e) :
    Calls Try.prog 77 #[.pointer (some ⟨b, 0, none⟩), .agg g.cells] w (TkRet w b (takeC c g)) := by
  have hlt := (Array.getElem?_eq_some_iff.1 hb).1
  have c0 := blk_cell hb 0
  have c1 := blk_cell hb 1
  have c2 := blk_cell hb 2
  have c3 := blk_cell hb 3
  have c4 := blk_cell hb 4
  have c5 := blk_cell hb 5
  have c6 := blk_cell hb 6
  have c7 := blk_cell hb 7
  have c8 := blk_cell hb 8
  have c9 := blk_cell hb 9
  have c10 := blk_cell hb 10
  simp at c0 c1 c2 c3 c4 c5 c6 c7 c8 c9 c10
  have cf0 := blk_free hb 0
  have cf1 := blk_free hb 1
  have cf2 := blk_free hb 2
  have cf3 := blk_free hb 3
  have cf4 := blk_free hb 4
  have cf5 := blk_free hb 5
  have cf6 := blk_free hb 6
  have cf7 := blk_free hb 7
  have cf8 := blk_free hb 8
  have cf9 := blk_free hb 9
  have cf10 := blk_free hb 10
  have HK := Lib.hid (And.intro hb (And.intro hc hg))
  clear hb hc hg
  have L0 : LeB w (w.alloc (.cells g.cells 55)) := (Below.refl _ _).alloc (Nat.le_refl _) _
  have HL := Lib.hid L0
  clear L0
  have h4I : ((c.st : Int) == 4) = false := by simp; omega
  have H4 := Lib.hid h4
  have N4 := Lib.hid n4
  have N2 := Lib.hid n2
  have N16 := Lib.hid n16
  have N1 := Lib.hid n1
  clear h4 n4 n2 n16 n1
  cases e
  all_goals
    have hT : takeC c g = (if (acked c g.ack).st = 1 ∨ (acked c g.ack).st = 4 ∨ (g.data = ⟨#[]⟩ ∧ Nat.land g.flags 1 = 0) then (acked c g.ack, [])
      else if g.seq = (acked c g.ack).want ∧ (acked c g.ack).inn.size + g.data.size ≤ 300 then
        ({ acked c g.ack with inn := (acked c g.ack).inn ++ g.data, want := onw (acked c g.ack).want (g.data.size + Nat.land g.flags 1) }, [⟨80, (acked c g.ack).port, (acked c g.ack).nxt, onw (acked c g.ack).want (g.data.size + Nat.land g.flags 1), 16, 1000, ⟨#[]⟩⟩])
      else (acked c g.ack, [⟨80, (acked c g.ack).port, (acked c g.ack).nxt, (acked c g.ack).want, 16, 1000, ⟨#[]⟩⟩])) := by
      rw [takeC, if_neg H4.out, if_neg (by rw [N4.out]; decide), if_neg (by rw [N2.out]; decide), if_neg (by rw [N16.out]; decide)]
    have HT := Lib.hid hT
    clear hT
    go_enter Try.func77, Try.ntmps77
    go_wp2_with fail
    refine (acknowledge_ok c b g.ack _ ((HL.out.block _ hlt).trans HK.out.1) HK.out.2.2.ack HK.out.2.1.una HK.out.2.1.nxt HK.out.2.1.out).mono ?_
    rintro e w1 ⟨⟨v, rfl⟩, hb1, hg1⟩
    have hsg : w1.heap[w.heap.size]? = some (.cells g.cells 55 (0, 0)) := (hg1.block _ (by simp) (fun e => by injection e with e; omega)).trans (heap_alloc_new _ _)
    have hG := grown_trans (grownBy_of_below HL.out (some b)) hg1
    have hca := acked_OK HK.out.2.1 HK.out.2.2.ack
    have hgd := HK.out.2.2.data
    have hlt1 := Nat.lt_of_lt_of_le hlt hG.size
    have hgl := Array.getElem?_eq_some_iff.1 hsg |>.1
    clear c0 c1 c2 c3 c4 c5 c6 c7 c8 c9 c10 cf0 cf1 cf2 cf3 cf4 cf5 cf6 cf7 cf8 cf9 cf10 h4I b4 b2 b16 H4 N4 N2 N16 hg1
    obtain ⟨ca, hcaE⟩ : ∃ x, acked c g.ack = x := ⟨_, rfl⟩
    rw [hcaE] at hb1 hca HT
    clear hcaE
    generalize hgs : w.heap.size = gs at *
    have c0 := blk_cell hb1 0
    have c1 := blk_cell hb1 1
    have c2 := blk_cell hb1 2
    have c3 := blk_cell hb1 3
    have c4 := blk_cell hb1 4
    have c5 := blk_cell hb1 5
    have c6 := blk_cell hb1 6
    have c7 := blk_cell hb1 7
    have c8 := blk_cell hb1 8
    have c9 := blk_cell hb1 9
    have c10 := blk_cell hb1 10
    simp at c0 c1 c2 c3 c4 c5 c6 c7 c8 c9 c10
    have cf0 := blk_free hb1 0
    have cf1 := blk_free hb1 1
    have cf2 := blk_free hb1 2
    have cf3 := blk_free hb1 3
    have cf4 := blk_free hb1 4
    have cf5 := blk_free hb1 5
    have cf6 := blk_free hb1 6
    have cf7 := blk_free hb1 7
    have cf8 := blk_free hb1 8
    have cf9 := blk_free hb1 9
    have cf10 := blk_free hb1 10
    have d0 := blk_cell hsg 0
    have d1 := blk_cell hsg 1
    have d2 := blk_cell hsg 2
    have d3 := blk_cell hsg 3
    have d4 := blk_cell hsg 4
    have d5 := blk_cell hsg 5
    have d6 := blk_cell hsg 6
    simp at d0 d1 d2 d3 d4 d5 d6
    have h8 : (ca.inn.size : Int) ≤ 300 := by have := hca.inn; omega
    have hd8 : (g.data.size : Int) ≤ 360 := by omega
    have h7 : (ca.want : Int) < 4294967296 := by have := hca.want; omega
    have HC := Lib.hid (And.intro (CnW.mk hb1 hsg hG (by omega)) hca)
    have HK2 := Lib.hid HK.out.2.2
    have HGS := Lib.hid hgs
    clear hb1 hsg hG hca HK HL hgd hgs
    go_wp2_with fail
    refine (oneIf_t _).mono ?_
    rintro e w2 ⟨rfl, rfl⟩
    by_cases q1 : ca.st = 1
    · have q1I : (ca.st : Int) = 1 := by omega
      go_wp2_with fail
      go_ret
      exact ⟨_, rfl, by rw [HT.out, if_pos (.inl q1)]; exact SgL.nil _ _, by rw [HT.out, if_pos (.inl q1)]; exact HC.out.1.cn, HC.out.1.gr⟩
    have q1I : ((ca.st : Int) == 1) = false := by simp; omega
    by_cases q4 : ca.st = 4
    · have q4I : (ca.st : Int) = 4 := by omega
      go_wp2_with fail
      go_ret
      exact ⟨_, rfl, by rw [HT.out, if_pos (.inr (.inl q4))]; exact SgL.nil _ _, by rw [HT.out, if_pos (.inr (.inl q4))]; exact HC.out.1.cn, HC.out.1.gr⟩
    have q4I : ((ca.st : Int) == 4) = false := by simp; omega
    have HN := Lib.hid (show ¬ (ca.st = 1 ∨ ca.st = 4 ∨ (g.data = ⟨#[]⟩ ∧ Nat.land g.flags 1 = 0)) from fun h => by rcases h with h | h | h; exact q1 h; exact q4 h; exact absurd h.2 (by rw [N1.out]; decide))
    clear q1 q4
    go_wp2_with fail
    by_cases hs : g.seq = ca.want ∧ ca.inn.size + g.data.size ≤ 300
    · obtain ⟨hs1, hs2⟩ := hs
      have hs1I : (g.seq : Int) = ca.want := by omega
      have hs2I : (ca.inn.size : Int) + g.data.size ≤ 300 := by omega
      have HS := Lib.hid (And.intro hs1 hs2)
      clear hs1 hs2
      go_quiet (fail)
      go_wp2_with fail
      clear c0 c1 c2 c3 c4 c5 c6 c7 c8 c9 c10 cf0 cf1 cf2 cf3 cf4 cf5 cf6 cf7 cf8 cf9 cf10 d0 d1 d2 d3 d4 d5 d6
      have X2 := HC.out.1.drewN nq
      have hcell : ∀ W, Below (w1.drewN nq).heap.size (w1.drewN nq) W → W.cell? ⟨b, 8, none⟩ = some (.string ca.inn) ∧ W.cell? ⟨gs, 6, none⟩ = some (.string g.data) := fun W hW => ⟨(X2.below hW).ccell 8 _ (Cn.g8 _), (X2.below hW).gcell 6 _ (Sg.g6 _)⟩
      have hin := HC.out.2.inn
      have hda := HK2.out.data
      refine wp_region_lex 7 (by kernel_rfl) (by kernel_rfl) (JB (w1.drewN nq)) LeB (qphi []) qphi_st JB.mono ?_ ?_
      · exact (Below.refl _ _).drew
      simp only [List.take_succ_cons, List.take_zero, List.drop_succ_cons, List.drop_zero, pairs, List.zipIdx_cons, List.zipIdx_nil, List.map_cons, List.map_nil, Nat.zero_add, Nat.reduceAdd]
      (repeat (first | (refine lex_pure rfl rfl (fun K hK => ?_); go_simp; refine hK _ ?_; clear hK K; try simp (disch := omega) only [IntWalk.i64_in, IntWalk.u8_in, Int.add_sub_cancel, Int.tmod_eq_emod_of_nonneg, Int.tdiv_eq_ediv_of_nonneg]) | (refine lex_load rfl rfl _ (fun m W hJ hF => (by have cc := hcell W hJ; go_simp; rfl)) ?_; try simp (disch := omega) only [IntWalk.i64_in, IntWalk.u8_in, Int.add_sub_cancel, Int.tmod_eq_emod_of_nonneg, Int.tdiv_eq_ediv_of_nonneg]) | (refine lex_sadd rfl rfl rfl rfl rfl (by first | omega | (simp only [ByteArray.size_append]; omega)) ?_; go_simp)))
      refine lex_nil (fun m W hJ hF => ?_)
      have X3 := X2.below hJ
      clear hF hJ hcell X2
      obtain ⟨nn, hnn⟩ : ∃ x, ca.inn ++ g.data = x := ⟨_, rfl⟩
      rw [hnn] at HT ⊢
      clear hnn
      have c8 := X3.ccell 8 _ (Cn.g8 _)
      have cf8 := X3.free 8
      have H3 := Lib.hid X3
      clear X3
      go_wp2_with fail
      obtain ⟨w4, hw4, X4⟩ := H3.out.store { ca with inn := nn } 8 (.string nn) (cells_inn ca nn)
      rw [hw4]
      clear hw4 c8 cf8 H3
      obtain ⟨t, ht⟩ : ∃ t, onw ca.want (g.data.size + 1) = t := ⟨_, rfl⟩
      have HTT := Lib.hid ht
      clear ht
      have hcell : ∀ W, Below w4.heap.size w4 W → W.cell? ⟨b, 7, none⟩ = some (.int .i64 ca.want) ∧ W.cell? ⟨gs, 6, none⟩ = some (.string g.data) := fun W hW => ⟨(X4.below hW).ccell 7 _ (Cn.g7 { ca with inn := nn }), (X4.below hW).gcell 6 _ (Sg.g6 _)⟩
      refine wp_region_lex 11 (by kernel_rfl) (by kernel_rfl) (JB w4) LeB (qphi [(10, .int .i64 t)]) qphi_st JB.mono ?_ ?_
      · exact (Below.refl _ _).drew
      simp only [List.take_succ_cons, List.take_zero, List.drop_succ_cons, List.drop_zero, pairs, List.zipIdx_cons, List.zipIdx_nil, List.map_cons, List.map_nil, Nat.zero_add, Nat.reduceAdd]
      (repeat (first | (refine lex_pure rfl rfl (fun K hK => ?_); go_simp; refine hK _ ?_; clear hK K; try simp (disch := omega) only [IntWalk.i64_in, IntWalk.u8_in, Int.add_sub_cancel, Int.tmod_eq_emod_of_nonneg, Int.tdiv_eq_ediv_of_nonneg]) | (refine lex_load rfl rfl _ (fun m W hJ hF => (by have cc := hcell W hJ; go_simp; rfl)) ?_; try simp (disch := omega) only [IntWalk.i64_in, IntWalk.u8_in, Int.add_sub_cancel, Int.tmod_eq_emod_of_nonneg, Int.tdiv_eq_ediv_of_nonneg]) | (refine lex_sadd rfl rfl rfl rfl rfl (by first | omega | (simp only [ByteArray.size_append]; omega)) ?_; go_simp)))
      refine lex_eff' (sp := fun _ v _ => v = .int .i64 t) rfl rfl (by intro _ _ _ _ h; exact h) (fun m W hJ hF => ?_) (fun v x hh => ?_) rfl
      · refine gives_call Try.call119 ((onward_is ca.want (g.data.size + 1) t HC.out.2.want (by omega) HTT.out W).mono ?_)
        rintro e w' ⟨rfl, rfl⟩
        exact ⟨_, rfl, hJ, LeB.of (Below.refl _ _), rfl⟩
      obtain ⟨_, _, -, rfl, -⟩ := hh
      refine lex_nil (fun m W5 hJ hF => ?_)
      have X5 := X4.below hJ
      clear hF hJ hcell X4
      have cf7 := X5.free 7
      have c7 : W5.cell? ⟨b, 7, none⟩ = some (.int .i64 ca.want) := X5.ccell 7 _ (Cn.g7 { ca with inn := nn })
      have c6 : W5.cell? ⟨b, 6, none⟩ = some (.int .i64 ca.nxt) := X5.ccell 6 _ (Cn.g6 { ca with inn := nn })
      have H5 := Lib.hid X5
      clear X5
      go_wp2_with fail
      obtain ⟨w6, hw6, X6⟩ := H5.out.store { ca with inn := nn, want := t } 7 (.int .i64 t) (cells_want { ca with inn := nn } t)
      rw [hw6]
      clear hw6 c7 cf7 H5 c6
      have H6 := Lib.hid X6
      clear X6
      refine (tell_ok { ca with inn := nn, want := t } b ca.nxt 16 ⟨#[]⟩ _ H6.out.cn).mono ?_
      rintro e w7 ⟨rfl, hB7⟩
      have H7 := Lib.hid (H6.out.below hB7)
      clear hB7 H6
      go_wp2_with fail
      go_ret
      exact H7.out.ret ⟨80, ca.port, ca.nxt, t, 16, 1000, ⟨#[]⟩⟩ _ (by rw [HT.out, if_neg HN.out, if_pos HS.out, N1.out, HTT.out])
    · have HS := Lib.hid hs
      have hcase : ((g.seq : Int) == ca.want) = false ∨ ((g.seq : Int) = ca.want ∧ decide ((ca.inn.size : Int) + g.data.size ≤ 300) = false) := by
        by_cases h1 : g.seq = ca.want
        · exact .inr ⟨by omega, by simp; have := fun h => hs ⟨h1, h⟩; omega⟩
        · exact .inl (by simp; omega)
      clear hs
      rcases hcase with h1 | ⟨h1, h2⟩
      all_goals
        go_quiet (fail)
        go_wp2_with fail
        refine (tell_ok ca b ca.nxt 16 ⟨#[]⟩ _ (HC.out.1.drewN nq).cn).mono ?_
        rintro e w7 ⟨rfl, hB7⟩
        have H7 := Lib.hid ((HC.out.1.drewN nq).below hB7)
        clear hB7 c0 c1 c2 c3 c4 c5 c6 c7 c8 c9 c10
        go_wp2_with fail
        go_ret
        exact H7.out.ret ⟨80, ca.port, ca.nxt, ca.want, 16, 1000, ⟨#[]⟩⟩ _ (by rw [HT.out, if_neg HN.out, if_neg HS.out])
end Go.Proofs.Ytdenjmdngmmodaa
