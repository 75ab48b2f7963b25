/- Connections, the other hand: the segments of a text and of an end, and what is said again. | Connections, the other hand: what is said again. | Connections drawn: one is opened. | Connections drawn: one says a text. -/
import Derived.Test.YtdenjmdngmmodaaKc10
import Derived.Test.YtdenjmdngmmodaaKc09
import Derived.Deep.Cut
namespace Go.Proofs.Ytdenjmdngmmodaa
open Go.RowKit
set_option linter.unusedVariables false
set_option linter.unusedSimpArgs false
set_option maxRecDepth 200000
set_option maxHeartbeats 4000000

def pcφ (B : Nat) (g : Sg) : Nat → Option Spec
  | 6 => some fun _ v _ => v = .agg g.cells
  | 7 => some fun _ v w => OneSg B g v w
  | _ => none
theorem l10Pieces_end (c : Cn) (fr : Nat) (t : ByteArray) (hf : fr < 4294967296) (ht : t.size ≤ 400) (w : World) :
    Calls Try.prog 144 #[.agg c.cells, .int .i64 fr, .string t, .bool true] w fun e w' => ∃ v, e = .returned v ∧ SgL w.heap.size (piecesC c fr t) v w' ∧ Below w.heap.size w w' := by
  obtain ⟨L, hL⟩ : ∃ L, piecesC c fr t = L := ⟨_, rfl⟩
  rw [hL]
  have hLl : L.length ≤ 3 := by rw [← hL]; unfold piecesC; split; simp; split <;> simp
  have HL := Lib.hid (And.intro hL hLl)
  clear hL hLl
  go_enter Try.func144, Try.ntmps144
  go_wp2_with fail
  generalize hw0 : World.alloc w (.cells c.cells 48) = wa
  have hblk : wa.heap[World.heap w |>.size]? = some (.cells c.cells 48 (0, 0)) := by rw [← hw0]; exact heap_alloc_new _ _
  have hlt : (World.heap w).size < wa.heap.size := (Array.getElem?_eq_some_iff.1 hblk).1
  have hB0 : Below (World.heap w).size w wa := by rw [← hw0]; exact (Below.refl _ _).alloc (Nat.le_refl _) _
  have hsz : (World.heap wa).size = (World.heap w).size + 1 := by rw [← hw0]; simp
  clear hw0
  rw [← hsz]
  have HX := Lib.hid (And.intro hblk (And.intro hlt hB0))
  clear hblk hlt hB0 hsz
  have hown0 : (wa.alloc (.cells #[] 55)).ownsRow wa.heap.size 55 7 (.slice (some ⟨wa.heap.size, 0, none⟩) 0 0) ([] : List Sg).length (sgC []) := World.ownsRow_lit wa #[] 0 (Nat.le_refl _) (by simp [maxLen]) (by simp)
  have hB0 : Below wa.heap.size wa (wa.alloc (.cells #[] 55)) := (Below.refl _ _).alloc (Nat.le_refl _) _
  go_loopw [1, 2, 9] (fun fv tv v wr => ∃ (k : Nat) (s : ByteArray) (l : List Sg), fv = .int .i64 k ∧ k < 4294967296 ∧ tv = .string s ∧ s.size ≤ 400 ∧ l ++ piecesC c k s = L ∧ wr.ownsRow wa.heap.size 55 7 v l.length (sgC l) ∧ Below wa.heap.size wa wr) (fun _ tv _ _ => strSz tv)
  case atStart => exact ⟨fr, t, [], rfl, hf, rfl, ht, HL.out.1, hown0, hB0⟩
  case round =>
    obtain ⟨k, s, l, rfl, hk, rfl, hs, hl, hown, hBr⟩ := hrel
    have HO := Lib.hid (And.intro hown (And.intro hBr hl))
    clear hown hBr hl hown0 hB0
    have hll : l.length ≤ 3 := by have := HL.out.2; have h2 := congrArg List.length HO.out.2.2; simp at h2; omega
    by_cases h0 : s.size = 0
    · obtain rfl := str_eq0 h0
      have hcb := (HO.out.2.1.block _ HX.out.2.1).trans HX.out.1
      have c0 := blk_cell hcb 0
      have c1 := blk_cell hcb 1
      have c2 := blk_cell hcb 2
      have c3 := blk_cell hcb 3
      have c4 := blk_cell hcb 4
      have c5 := blk_cell hcb 5
      have c6 := blk_cell hcb 6
      have c7 := blk_cell hcb 7
      have c8 := blk_cell hcb 8
      have c9 := blk_cell hcb 9
      have c10 := blk_cell hcb 10
      simp at c0 c1 c2 c3 c4 c5 c6 c7 c8 c9 c10
      have HCB := Lib.hid hcb
      clear hcb
      go_wp2_with fail
      refine (l10Reply_ok c k 17 ⟨#[]⟩ wr).mono ?_
      rintro e w1 ⟨rfl, hB1⟩
      clear c0 c1 c2 c3 c4 c5 c6 c7 c8 c9 c10
      go_wp2_with (at_builtin; refine Hid.out ?_)
      refine Lib.hid ?_
      have hB2 : Below wr.heap.size wr (w1.alloc (.cells (Sg.cells (sgE c k)) 55)) := Below.trans hB1 ((Below.refl _ _).alloc hB1.size _)
      have hrd : Rd (w1.alloc (.cells (Sg.cells (sgE c k)) 55)) (some ⟨w1.heap.size, 0, none⟩) (sgC [sgE c k]) := by simpa [sgC] using Rd.block (heap_alloc_new w1 (.cells (Sg.cells (sgE c k)) 55)) 0
      have hB3 : Below wa.heap.size wa (w1.alloc (.cells (Sg.cells (sgE c k)) 55)) := Below.trans HO.out.2.1 (hB2.mono HO.out.2.1.size)
      have hown2 := own_below HO.out.1 hB2
      obtain ⟨v3, w3, hrun, hown3, hg3⟩ := append_sg _ wa.heap.size _ l hown2 (some ⟨w1.heap.size, 0, none⟩) 1 [sgE c k] hrd (by simp; omega) hB3.size
      have hB4 : Below wa.heap.size wa w3 := hB3.grown hg3 hB3.size (fun g hg => (hown2.lt g hg).1)
      refine wpList_append_run rfl _ _ _ _ rfl rfl rfl hrun ?_
      have hfin : l ++ [sgE c k] = L := by rw [← HO.out.2.2]; rfl
      rw [hfin] at hown3
      have H3 := Lib.hid (And.intro hown3 hB4)
      clear hrun hrd hown2 hB1 hB2 hB3 hown3 hB4 hg3 hfin
      go_wp2_with fail
      go_ret
      exact ⟨_, rfl, (own_SgL H3.out.1).more HX.out.2.2.size, Below.trans HX.out.2.2 (Below.mono H3.out.2 HX.out.2.2.size)⟩
    · have hpos : (0 : Int) < s.size := by omega
      by_cases h2 : s.size ≤ 200
      · have h2I : (s.size : Int) ≤ 200 := by omega
        have hst := pieces_step1 c k s h0 h2
        have HS := Lib.hid hst
        clear hst
        go_wp2_with fail
        have hcb := (HO.out.2.1.block _ HX.out.2.1).trans HX.out.1
        have hbl := (Array.getElem?_eq_some_iff.1 hcb).1
        refine wp_region_lex 8 (by kernel_rfl) (by kernel_rfl) (JB wr) LeB (pcφ wr.heap.size (sgP c k s)) ?_ JB.mono ?_ ?_
        · intro j sp x v W W' hj hL h
          unfold pcφ at hj
          split at hj
          · cases hj; exact h
          · cases hj; exact h.below hL
          · cases hj
        · exact (Below.refl _ _).drew
        simp only [List.take_succ_cons, List.take_zero, List.drop_succ_cons, List.drop_zero, pairs, List.zipIdx_cons, List.zipIdx_nil, List.map_cons, List.map_nil, Nat.zero_add, Nat.reduceAdd]
        (repeat (refine lex_pure rfl rfl (fun K hK => ?_); go_simp; refine hK _ ?_; clear hK K; try simp (disch := omega) only [IntWalk.i64_in, IntWalk.u8_in, Int.add_sub_cancel, Int.tmod_eq_emod_of_nonneg, Int.tdiv_eq_ediv_of_nonneg]))
        refine lex_load rfl rfl (.agg (Cn.cells c)) (fun m W hJ hF => run_exec_load rfl rfl ((hJ.block _ hbl).trans hcb) Try.underlying48 rfl infoCn) ?_
        (repeat (refine lex_pure rfl rfl (fun K hK => ?_); go_simp; refine hK _ ?_; clear hK K; try simp (disch := omega) only [IntWalk.i64_in, IntWalk.u8_in, Int.add_sub_cancel, Int.tmod_eq_emod_of_nonneg, Int.tdiv_eq_ediv_of_nonneg]))
        refine lex_eff' (sp := fun _ v _ => v = .agg (Sg.cells (sgP c k s))) rfl rfl (by intro _ _ _ _ h; exact h) (fun m W hJ hF => ?_) (fun v x hh => ?_) rfl
        · refine gives_call Try.call142 ((l10Reply_ok c k 24 s W).mono ?_)
          rintro e w' ⟨rfl, h4⟩
          exact ⟨_, rfl, hJ.step h4, h4, rfl⟩
        obtain ⟨_, _, -, rfl, -⟩ := hh
        refine lex_eff' (sp := fun _ v W => OneSg wr.heap.size (sgP c k s) v W) rfl rfl (by intro _ _ _ _ h; exact h) (fun m W hJ hF => ?_) (fun v x hh => ?_) rfl
        · have hb : Below W.heap.size W (W.alloc (.cells (Sg.cells (sgP c k s)) 55)) := (Below.refl _ _).alloc (Nat.le_refl _) _
          exact gives_value (v := .slice (some ⟨W.heap.size, 0, none⟩) 1 1) (by go_simp) ⟨hJ.step hb, hb, _, rfl, hJ.size, heap_alloc_new _ _⟩
        obtain ⟨_, _, -, ⟨lb, rfl, -, -⟩, -⟩ := hh
        refine lex_nil (fun m W hJ hF => ?_)
        obtain ⟨lb', hlb, hlB, hlc⟩ := hF 7 rfl _ _ _ rfl rfl
        cases hlb
        have hrd : Rd W (some ⟨lb, 0, none⟩) (sgC [sgP c k s]) := by simpa [sgC] using Rd.block hlc 0
        have hB3 : Below wa.heap.size wa W := Below.trans HO.out.2.1 (Below.mono hJ HO.out.2.1.size)
        have hown2 := own_below HO.out.1 hJ
        obtain ⟨v3, w3, hrun, hown3, hg3⟩ := append_sg W wa.heap.size _ l hown2 (some ⟨lb, 0, none⟩) 1 [sgP c k s] hrd (by simp; omega) hB3.size
        have hB4 : Below wa.heap.size wa w3 := hB3.grown hg3 hB3.size (fun g hg => (hown2.lt g hg).1)
        refine wpList_append_run rfl _ _ _ _ rfl rfl rfl hrun ?_
        obtain ⟨nx, hnx⟩ : ∃ x, onw k s.size = x := ⟨_, rfl⟩
        have e1 := and_onw k s.size nx hk (by omega) hnx
        rw [hnx] at HS
        have hnl : nx < 4294967296 := by rw [← hnx]; exact onw_lt _ _
        have H3 := Lib.hid (And.intro hown3 (And.intro hB4 e1))
        have hkI : (k : Int) < 4294967296 := by omega
        clear hrun hrd hown2 hB3 hown3 hB4 hg3 hF hJ hlB hlc hcb hbl hnx e1
        go_wp2_with fail
        refine (l10Seq_is _ nx H3.out.2.2 _).mono ?_
        rintro e w4 ⟨rfl, rfl⟩
        go_wp2_with fail
        go_roundw
        case rel => exact ⟨nx, ByteArray.empty, l ++ [sgP c k s], rfl, hnl, rfl, by show 0 ≤ 400; omega, by rw [← HO.out.2.2, HS.out, List.append_assoc], H3.out.1, H3.out.2.1⟩
        case measure => simp [strSz]; omega
      · have h2I : (200 : Int) < s.size := by omega
        have h2J : (200 : Int) ≤ s.size := by omega
        have hst := pieces_step2 c k s (by omega) hs
        have HS := Lib.hid hst
        clear hst
        go_wp2_with fail
        have hcb := (HO.out.2.1.block _ HX.out.2.1).trans HX.out.1
        have hbl := (Array.getElem?_eq_some_iff.1 hcb).1
        refine wp_region_lex 8 (by kernel_rfl) (by kernel_rfl) (JB wr) LeB (pcφ wr.heap.size (sgP c k (s.extract 0 200))) ?_ JB.mono ?_ ?_
        · intro j sp x v W W' hj hL h
          unfold pcφ at hj
          split at hj
          · cases hj; exact h
          · cases hj; exact h.below hL
          · cases hj
        · exact (Below.refl _ _).drew
        simp only [List.take_succ_cons, List.take_zero, List.drop_succ_cons, List.drop_zero, pairs, List.zipIdx_cons, List.zipIdx_nil, List.map_cons, List.map_nil, Nat.zero_add, Nat.reduceAdd]
        (repeat (refine lex_pure rfl rfl (fun K hK => ?_); go_simp; refine hK _ ?_; clear hK K; try simp (disch := omega) only [IntWalk.i64_in, IntWalk.u8_in, Int.add_sub_cancel, Int.tmod_eq_emod_of_nonneg, Int.tdiv_eq_ediv_of_nonneg]))
        refine lex_load rfl rfl (.agg (Cn.cells c)) (fun m W hJ hF => run_exec_load rfl rfl ((hJ.block _ hbl).trans hcb) Try.underlying48 rfl infoCn) ?_
        (repeat (refine lex_pure rfl rfl (fun K hK => ?_); go_simp; refine hK _ ?_; clear hK K; try simp (disch := omega) only [IntWalk.i64_in, IntWalk.u8_in, Int.add_sub_cancel, Int.tmod_eq_emod_of_nonneg, Int.tdiv_eq_ediv_of_nonneg]))
        refine lex_eff' (sp := fun _ v _ => v = .agg (Sg.cells (sgP c k (s.extract 0 200)))) rfl rfl (by intro _ _ _ _ h; exact h) (fun m W hJ hF => ?_) (fun v x hh => ?_) rfl
        · refine gives_call Try.call142 ((l10Reply_ok c k 24 (s.extract 0 200) W).mono ?_)
          rintro e w' ⟨rfl, h4⟩
          exact ⟨_, rfl, hJ.step h4, h4, rfl⟩
        obtain ⟨_, _, -, rfl, -⟩ := hh
        refine lex_eff' (sp := fun _ v W => OneSg wr.heap.size (sgP c k (s.extract 0 200)) v W) rfl rfl (by intro _ _ _ _ h; exact h) (fun m W hJ hF => ?_) (fun v x hh => ?_) rfl
        · have hb : Below W.heap.size W (W.alloc (.cells (Sg.cells (sgP c k (s.extract 0 200))) 55)) := (Below.refl _ _).alloc (Nat.le_refl _) _
          exact gives_value (v := .slice (some ⟨W.heap.size, 0, none⟩) 1 1) (by go_simp) ⟨hJ.step hb, hb, _, rfl, hJ.size, heap_alloc_new _ _⟩
        obtain ⟨_, _, -, ⟨lb, rfl, -, -⟩, -⟩ := hh
        refine lex_nil (fun m W hJ hF => ?_)
        obtain ⟨lb', hlb, hlB, hlc⟩ := hF 7 rfl _ _ _ rfl rfl
        cases hlb
        have hrd : Rd W (some ⟨lb, 0, none⟩) (sgC [sgP c k (s.extract 0 200)]) := by simpa [sgC] using Rd.block hlc 0
        have hB3 : Below wa.heap.size wa W := Below.trans HO.out.2.1 (Below.mono hJ HO.out.2.1.size)
        have hown2 := own_below HO.out.1 hJ
        obtain ⟨v3, w3, hrun, hown3, hg3⟩ := append_sg W wa.heap.size _ l hown2 (some ⟨lb, 0, none⟩) 1 [sgP c k (s.extract 0 200)] hrd (by simp; omega) hB3.size
        have hB4 : Below wa.heap.size wa w3 := hB3.grown hg3 hB3.size (fun g hg => (hown2.lt g hg).1)
        refine wpList_append_run rfl _ _ _ _ rfl rfl rfl hrun ?_
        obtain ⟨nx, hnx⟩ : ∃ x, onw k 200 = x := ⟨_, rfl⟩
        have e1 := and_onw k 200 nx hk (by omega) hnx
        rw [hnx] at HS
        have hnl : nx < 4294967296 := by rw [← hnx]; exact onw_lt _ _
        have H3 := Lib.hid (And.intro hown3 (And.intro hB4 e1))
        have hkI : (k : Int) < 4294967296 := by omega
        clear hrun hrd hown2 hB3 hown3 hB4 hg3 hF hJ hlB hlc hcb hbl hnx e1
        go_wp2_with fail
        refine (l10Seq_is _ nx H3.out.2.2 _).mono ?_
        rintro e w4 ⟨rfl, rfl⟩
        go_wp2_with fail
        go_roundw
        case rel => exact ⟨nx, s.extract 200 s.size, l ++ [sgP c k (s.extract 0 200)], rfl, hnl, rfl, by simp only [ByteArray.size_extract]; omega, by rw [← HO.out.2.2, HS.out, List.append_assoc], H3.out.1, H3.out.2.1⟩
        case measure => simp [strSz]; omega
end Go.Proofs.Ytdenjmdngmmodaa
namespace Go.Proofs.Ytdenjmdngmmodaa
open Go.RowKit
set_option linter.unusedVariables false
set_option linter.unusedSimpArgs false
set_option maxRecDepth 200000
set_option maxHeartbeats 4000000

theorem l10Pieces_none (c : Cn) (fr : Nat) (w : World) :
    Calls Try.prog 144 #[.agg c.cells, .int .i64 fr, .string ⟨#[]⟩, .bool false] w fun e w' => ∃ v, e = .returned v ∧ SgL w.heap.size [] v w' ∧ Below w.heap.size w w' := by
  go_enter Try.func144, Try.ntmps144
  go_wp2_with fail
  generalize hw0 : World.alloc w (.cells c.cells 48) = wa
  have hblk : wa.heap[World.heap w |>.size]? = some (.cells c.cells 48 (0, 0)) := by rw [← hw0]; exact heap_alloc_new _ _
  have hlt : (World.heap w).size < wa.heap.size := (Array.getElem?_eq_some_iff.1 hblk).1
  have hB0 : Below (World.heap w).size w wa := by rw [← hw0]; exact (Below.refl _ _).alloc (Nat.le_refl _) _
  have hsz : (World.heap wa).size = (World.heap w).size + 1 := by rw [← hw0]; simp
  clear hw0
  rw [← hsz]
  have HX := Lib.hid (And.intro hblk (And.intro hlt hB0))
  clear hblk hlt hB0 hsz
  generalize hw0 : World.alloc wa (.cells #[] 55) = wb
  have hblk : wb.heap[World.heap wa |>.size]? = some (.cells #[] 55 (0, 0)) := by rw [← hw0]; exact heap_alloc_new _ _
  have hlt : (World.heap wa).size < wb.heap.size := (Array.getElem?_eq_some_iff.1 hblk).1
  have hB0 : Below (World.heap wa).size wa wb := by rw [← hw0]; exact (Below.refl _ _).alloc (Nat.le_refl _) _
  clear hw0
  have HY := Lib.hid (And.intro (LeB.tr HX.out.2.2 hB0) hlt)
  clear hblk hlt hB0
  go_loopw [1, 2, 9] (fun fv tv v wr => fv = .int .i64 fr ∧ tv = .string ⟨#[]⟩ ∧ v = .slice (some ⟨wa.heap.size, 0, none⟩) 0 0 ∧ wr = wb) (fun _ tv _ _ => strSz tv)
  case atStart => exact ⟨rfl, rfl, rfl, rfl⟩
  case round =>
    obtain ⟨rfl, rfl, rfl, rfl⟩ := hrel
    go_wp2_with fail
    go_ret
    exact ⟨_, rfl, SgL_empty HX.out.2.2.size HY.out.2, HY.out.1⟩
theorem l10Again_ok (c : Cn) (hc : CnOK c) (w : World) :
    Calls Try.prog 108 #[.agg c.cells] w fun e w' => ∃ v, e = .returned v ∧ SgL w.heap.size (againC c) v w' ∧ Below w.heap.size w w' := by
  obtain ⟨L, hL⟩ : ∃ L, againC c = L := ⟨_, rfl⟩
  rw [hL]
  have hm := hc.mode
  have HK := Lib.hid (And.intro hL hc)
  clear hL hc
  obtain ⟨mac, ip, port, dst, st, una, nxt, want, inn, out, fin⟩ := c
  dsimp only at hm
  rcases hm with ⟨rfl, rfl, rfl, rfl, -⟩ | ⟨rfl, rfl, rfl, -⟩ | ⟨rfl, rfl, -⟩ | ⟨rfl, rfl, rfl, -⟩
  · go_enter Try.func108, Try.ntmps108
    go_wp2_with fail
    generalize hw0 : World.alloc w (.cells (Cn.cells ⟨mac, ip, port, dst, 1, una, nxt, want, ⟨#[]⟩, ⟨#[]⟩, false⟩) 48) = wa
    have hblk : wa.heap[World.heap w |>.size]? = some (.cells (Cn.cells ⟨mac, ip, port, dst, 1, una, nxt, want, ⟨#[]⟩, ⟨#[]⟩, false⟩) 48 (0, 0)) := by rw [← hw0]; exact heap_alloc_new _ _
    have hlt : (World.heap w).size < wa.heap.size := (Array.getElem?_eq_some_iff.1 hblk).1
    have hB0 : Below (World.heap w).size w wa := by rw [← hw0]; exact (Below.refl _ _).alloc (Nat.le_refl _) _
    clear hw0
    have HX := Lib.hid hB0
    clear hblk hlt hB0
    refine (l10Reply_ok ⟨mac, ip, port, dst, 1, una, nxt, want, ⟨#[]⟩, ⟨#[]⟩, false⟩ una 18 ⟨#[]⟩ wa).mono ?_
    rintro e w1 ⟨rfl, hB1⟩
    have H1 := Lib.hid (LeB.tr HX.out hB1)
    clear hB1
    go_wp2_with fail
    go_ret
    have hb : LeB w1 (w1.alloc (.cells (Sg.cells ⟨80, port, una, want, 18, 1000, ⟨#[]⟩⟩) 55)) := (Below.refl _ _).alloc (Nat.le_refl _) _
    refine ⟨_, rfl, ?_, LeB.tr H1.out hb⟩
    rw [← HK.out.1, againC, if_pos rfl]
    exact OneSg.toL ⟨w1.heap.size, rfl, H1.out.size, heap_alloc_new _ _⟩
  · go_enter Try.func108, Try.ntmps108
    go_wp2_with fail
    generalize hw0 : World.alloc w (.cells (Cn.cells ⟨mac, ip, port, dst, 2, una, nxt, want, inn, ⟨#[]⟩, false⟩) 48) = wa
    have hblk : wa.heap[World.heap w |>.size]? = some (.cells (Cn.cells ⟨mac, ip, port, dst, 2, una, nxt, want, inn, ⟨#[]⟩, false⟩) 48 (0, 0)) := by rw [← hw0]; exact heap_alloc_new _ _
    have hlt : (World.heap w).size < wa.heap.size := (Array.getElem?_eq_some_iff.1 hblk).1
    have hB0 : Below (World.heap w).size w wa := by rw [← hw0]; exact (Below.refl _ _).alloc (Nat.le_refl _) _
    clear hw0
    have HX := Lib.hid hB0
    clear hblk hlt hB0
    refine (l10Pieces_none ⟨mac, ip, port, dst, 2, una, nxt, want, inn, ⟨#[]⟩, false⟩ una wa).mono ?_
    rintro e w1 ⟨v, rfl, hl, hB1⟩
    have H1 := Lib.hid (And.intro (hl.more HX.out.size) (LeB.tr HX.out hB1))
    clear hl hB1
    go_wp2_with fail
    go_ret
    refine ⟨_, rfl, ?_, H1.out.2⟩
    rw [← HK.out.1, againC, if_neg (by show ¬ 2 = 1; omega), if_neg (by simp)]
    exact H1.out.1
  · go_enter Try.func108, Try.ntmps108
    go_wp2_with fail
    generalize hw0 : World.alloc w (.cells (Cn.cells ⟨mac, ip, port, dst, 3, una, nxt, want, inn, out, true⟩) 48) = wa
    have hblk : wa.heap[World.heap w |>.size]? = some (.cells (Cn.cells ⟨mac, ip, port, dst, 3, una, nxt, want, inn, out, true⟩) 48 (0, 0)) := by rw [← hw0]; exact heap_alloc_new _ _
    have hlt : (World.heap w).size < wa.heap.size := (Array.getElem?_eq_some_iff.1 hblk).1
    have hB0 : Below (World.heap w).size w wa := by rw [← hw0]; exact (Below.refl _ _).alloc (Nat.le_refl _) _
    clear hw0
    have HX := Lib.hid hB0
    clear hblk hlt hB0
    refine (l10Pieces_end ⟨mac, ip, port, dst, 3, una, nxt, want, inn, out, true⟩ una out HK.out.2.una (by have := HK.out.2.out; dsimp only at this; omega) wa).mono ?_
    rintro e w1 ⟨v, rfl, hl, hB1⟩
    have H1 := Lib.hid (And.intro (hl.more HX.out.size) (LeB.tr HX.out hB1))
    clear hl hB1
    go_wp2_with fail
    go_ret
    refine ⟨_, rfl, ?_, H1.out.2⟩
    rw [← HK.out.1, againC, if_neg (by show ¬ 3 = 1; omega), if_pos rfl]
    exact H1.out.1
  · go_enter Try.func108, Try.ntmps108
    go_wp2_with fail
    go_ret
    refine ⟨_, rfl, ?_, ?_⟩
    · rw [← HK.out.1, againC, if_neg (by show ¬ 4 = 1; omega), if_neg (by simp)]
      exact SgL_empty (by simp) (by simp)
    · exact ((Below.refl _ _).alloc (Nat.le_refl _) _).alloc (by simp) _
theorem sConnAgain_ok (c : Cn) (hc : CnOK c) (w : World) :
    Calls Try.prog 48 #[.agg c.cells] w fun e w' => ∃ v, e = .returned (.tuple #[v, .int .i64 0]) ∧ SgL w.heap.size (againC c) v w' ∧ Below w.heap.size w w' := by
  obtain ⟨L, hL⟩ : ∃ L, againC c = L := ⟨_, rfl⟩
  rw [hL]
  have HK := Lib.hid (And.intro hL hc)
  clear hL hc
  go_enter Try.func48, Try.ntmps48
  go_wp2_with fail
  generalize hw0 : World.alloc w (.cells c.cells 48) = wa
  have hblk : wa.heap[World.heap w |>.size]? = some (.cells c.cells 48 (0, 0)) := by rw [← hw0]; exact heap_alloc_new _ _
  have hlt : (World.heap w).size < wa.heap.size := (Array.getElem?_eq_some_iff.1 hblk).1
  have hB0 : Below (World.heap w).size w wa := by rw [← hw0]; exact (Below.refl _ _).alloc (Nat.le_refl _) _
  clear hw0
  have F0 := Lib.hid (And.intro hblk (And.intro hlt hB0))
  clear hblk hlt hB0
  refine (sConnOK_true c HK.out.2 wa).mono ?_
  rintro e w1 ⟨rfl, hB1⟩
  have hb1 := (hB1.block _ F0.out.2.1).trans F0.out.1
  have c0 := blk_cell hb1 0
  have c1 := blk_cell hb1 1
  have c2 := blk_cell hb1 2
  have c3 := blk_cell hb1 3
  have c4 := blk_cell hb1 4
  have c5 := blk_cell hb1 5
  have c6 := blk_cell hb1 6
  have c7 := blk_cell hb1 7
  have c8 := blk_cell hb1 8
  have c9 := blk_cell hb1 9
  have c10 := blk_cell hb1 10
  simp at c0 c1 c2 c3 c4 c5 c6 c7 c8 c9 c10
  have H1 := Lib.hid (LeB.tr F0.out.2.2 hB1)
  clear hB1 hb1
  go_wp2_with fail
  refine (l10Again_ok c HK.out.2 w1).mono ?_
  rintro e w2 ⟨v, rfl, hl, hB2⟩
  rw [HK.out.1] at hl
  have H2 := Lib.hid (And.intro (hl.more H1.out.size) (LeB.tr H1.out hB2))
  clear hl hB2 c0 c1 c2 c3 c4 c5 c6 c7 c8 c9 c10
  go_wp2_with fail
  go_ret2
  exact ⟨_, rfl, H2.out.1, H2.out.2⟩
end Go.Proofs.Ytdenjmdngmmodaa
namespace Go.Proofs.Ytdenjmdngmmodaa
open Go.RowKit
set_option linter.unusedVariables false
set_option linter.unusedSimpArgs false
set_option maxRecDepth 200000
set_option maxHeartbeats 4000000

def opφ1 (B a b : Nat) : Nat → Option Spec
  | 8 => some fun _ v _ => v = .int .i64 a
  | 12 => some fun _ v _ => v = .int .i64 b
  | 14 => some fun _ v w => ∃ g, v = .pointer (some ⟨g, 0, none⟩) ∧ B ≤ g ∧ w.heap[g]? = some (.cells cnZero 48 (0, 0))
  | _ => none
def opφ2 (B rb : Nat) (N : Array Value) (g : Sg) : Nat → Option Spec
  | 3 => some fun _ v _ => v = .agg g.cells
  | 4 => some (OneSp B rb g)
  | 5 => some (StoQ rb N)
  | _ => none
theorem l10Open_ok (mac : ByteArray) (ip dst seq isn : Nat) (hs : seq < 4294967296) (hi : isn < 4294967296) (w : World) :
    Calls Try.prog 137 #[.string mac, .int .i64 ip, .int .i64 dst, .agg #[.int .i64 1000, .int .i64 80, .int .i64 seq, .int .i64 0, .int .i64 2, .int .i64 0, .string ⟨#[]⟩], .int .i64 isn] w fun e w' => ∃ v, e = .returned (.tuple #[.agg (tk0 mac ip dst isn seq).cells, v]) ∧ Below w.heap.size w w' := by
  obtain ⟨a, ha⟩ : ∃ x, onw isn 1 = x := ⟨_, rfl⟩
  obtain ⟨b, hb⟩ : ∃ x, onw seq 1 = x := ⟨_, rfl⟩
  have e1 : bits .and .i64 ((isn : Int) + 1) 4294967295 = (a : Int) := and_onw isn 1 a hi (by omega) ha
  have e2 : bits .and .i64 ((seq : Int) + 1) 4294967295 = (b : Int) := and_onw seq 1 b hs (by omega) hb
  have hk : tk0 mac ip dst isn seq = ⟨mac, ip, 1000, dst, 1, isn, a, b, ⟨#[]⟩, ⟨#[]⟩, false⟩ := by unfold tk0; rw [ha, hb]
  rw [hk]
  have HE := Lib.hid (And.intro e1 e2)
  have hsI : (seq : Int) < 4294967296 := by omega
  have hiI : (isn : Int) < 4294967296 := by omega
  clear ha hb e1 e2 hk hs hi
  go_enter Try.func137, Try.ntmps137
  go_wp2_with fail
  generalize hw0 : World.alloc w (.cells #[.int .i64 1000, .int .i64 80, .int .i64 seq, .int .i64 0, .int .i64 2, .int .i64 0, .string ⟨#[]⟩] 55) = wa
  have hblk : wa.heap[World.heap w |>.size]? = some (.cells #[.int .i64 1000, .int .i64 80, .int .i64 seq, .int .i64 0, .int .i64 2, .int .i64 0, .string ⟨#[]⟩] 55 (0, 0)) := by rw [← hw0]; exact heap_alloc_new _ _
  have hlt : (World.heap w).size < wa.heap.size := (Array.getElem?_eq_some_iff.1 hblk).1
  have hB0 : Below (World.heap w).size w wa := by rw [← hw0]; exact (Below.refl _ _).alloc (Nat.le_refl _) _
  have hsz : (World.heap wa).size = (World.heap w).size + 1 := by rw [← hw0]; simp
  clear hw0
  rw [← hsz]
  have X1 := And.intro hblk (And.intro hlt hB0)
  clear hblk hlt hB0 hsz
  generalize hw0 : World.alloc wa (.cells #[.string ⟨#[]⟩, .int .i64 0, .int .i64 0, .int .i64 0, .int .i64 0, .int .i64 0, .int .i64 0, .int .i64 0, .string ⟨#[]⟩, .string ⟨#[]⟩, .bool false] 48) = wb
  have hblk : wb.heap[World.heap wa |>.size]? = some (.cells #[.string ⟨#[]⟩, .int .i64 0, .int .i64 0, .int .i64 0, .int .i64 0, .int .i64 0, .int .i64 0, .int .i64 0, .string ⟨#[]⟩, .string ⟨#[]⟩, .bool false] 48 (0, 0)) := by rw [← hw0]; exact heap_alloc_new _ _
  have hlt : (World.heap wa).size < wb.heap.size := (Array.getElem?_eq_some_iff.1 hblk).1
  have hB0 : Below (World.heap wa).size wa wb := by rw [← hw0]; exact (Below.refl _ _).alloc (Nat.le_refl _) _
  clear hw0
  have HX := Lib.hid (And.intro ((hB0.block _ X1.2.1).trans X1.1) (And.intro (Nat.lt_of_lt_of_le X1.2.1 hB0.size) (And.intro hblk (And.intro hlt (And.intro (LeB.tr X1.2.2 hB0) X1.2.2.size)))))
  clear X1 hblk hlt hB0
  have hcell : ∀ W, Below wb.heap.size wb W → W.cell? ⟨w.heap.size, 0, none⟩ = some (.int .i64 1000) ∧ W.cell? ⟨w.heap.size, 2, none⟩ = some (.int .i64 seq) := fun W hW => ⟨blk_cell ((hW.block _ HX.out.2.1).trans HX.out.1) 0, blk_cell ((hW.block _ HX.out.2.1).trans HX.out.1) 2⟩
  rename_i K1 h1
  have H1 := Lib.hid h1
  clear h1
  refine wp_region_lex 15 (by kernel_rfl) (by kernel_rfl) (JB wb) LeB (opφ1 wb.heap.size a b) ?_ JB.mono ?_ ?_
  · intro j sp x v W W' hj hL h
    unfold opφ1 at hj
    split at hj
    · cases hj; exact h
    · cases hj; exact h
    · cases hj
      obtain ⟨g, q1, q2, q3⟩ := h
      exact ⟨g, q1, q2, (hL.block g (Array.getElem?_eq_some_iff.1 q3).1).trans q3⟩
    · cases hj
  · exact (Below.refl _ _).drew
  simp only [List.take_succ_cons, List.take_zero, List.drop_succ_cons, List.drop_zero, pairs, List.zipIdx_cons, List.zipIdx_nil, List.map_cons, List.map_nil, Nat.zero_add, Nat.reduceAdd]
  (repeat (first | (refine lex_pure rfl rfl (fun K hK => ?_); go_simp; refine hK _ ?_; clear hK K; try simp (disch := omega) only [IntWalk.i64_in, IntWalk.u8_in, Int.add_sub_cancel, Int.tmod_eq_emod_of_nonneg, Int.tdiv_eq_ediv_of_nonneg]) | (refine lex_load rfl rfl _ (fun m W hJ hF => (by have cc := hcell W hJ; go_simp; rfl)) ?_; try simp (disch := omega) only [IntWalk.i64_in, IntWalk.u8_in, Int.add_sub_cancel, Int.tmod_eq_emod_of_nonneg, Int.tdiv_eq_ediv_of_nonneg]) | (refine lex_sadd rfl rfl rfl rfl rfl (by first | omega | (simp only [ByteArray.size_append]; omega)) ?_; go_simp)))
  refine lex_eff' (sp := fun _ v _ => v = .int .i64 a) rfl rfl (by intro _ _ _ _ h; exact h) (fun m W hJ hF => ?_) (fun v x hh => ?_) rfl
  · refine gives_call Try.call139 ((l10Seq_is _ a HE.out.1 W).mono ?_)
    rintro e w' ⟨rfl, rfl⟩
    exact ⟨_, rfl, hJ, LeB.of (Below.refl _ _), rfl⟩
  obtain ⟨_, _, -, rfl, -⟩ := hh
  (repeat (first | (refine lex_pure rfl rfl (fun K hK => ?_); go_simp; refine hK _ ?_; clear hK K; try simp (disch := omega) only [IntWalk.i64_in, IntWalk.u8_in, Int.add_sub_cancel, Int.tmod_eq_emod_of_nonneg, Int.tdiv_eq_ediv_of_nonneg]) | (refine lex_load rfl rfl _ (fun m W hJ hF => (by have cc := hcell W hJ; go_simp; rfl)) ?_; try simp (disch := omega) only [IntWalk.i64_in, IntWalk.u8_in, Int.add_sub_cancel, Int.tmod_eq_emod_of_nonneg, Int.tdiv_eq_ediv_of_nonneg]) | (refine lex_sadd rfl rfl rfl rfl rfl (by first | omega | (simp only [ByteArray.size_append]; omega)) ?_; go_simp)))
  refine lex_eff' (sp := fun _ v _ => v = .int .i64 b) rfl rfl (by intro _ _ _ _ h; exact h) (fun m W hJ hF => ?_) (fun v x hh => ?_) rfl
  · refine gives_call Try.call139 ((l10Seq_is _ b HE.out.2 W).mono ?_)
    rintro e w' ⟨rfl, rfl⟩
    exact ⟨_, rfl, hJ, LeB.of (Below.refl _ _), rfl⟩
  obtain ⟨_, _, -, rfl, -⟩ := hh
  (repeat (first | (refine lex_pure rfl rfl (fun K hK => ?_); go_simp; refine hK _ ?_; clear hK K; try simp (disch := omega) only [IntWalk.i64_in, IntWalk.u8_in, Int.add_sub_cancel, Int.tmod_eq_emod_of_nonneg, Int.tdiv_eq_ediv_of_nonneg]) | (refine lex_load rfl rfl _ (fun m W hJ hF => (by have cc := hcell W hJ; go_simp; rfl)) ?_; try simp (disch := omega) only [IntWalk.i64_in, IntWalk.u8_in, Int.add_sub_cancel, Int.tmod_eq_emod_of_nonneg, Int.tdiv_eq_ediv_of_nonneg]) | (refine lex_sadd rfl rfl rfl rfl rfl (by first | omega | (simp only [ByteArray.size_append]; omega)) ?_; go_simp)))
  refine lex_eff' (sp := fun _ v W => ∃ g, v = .pointer (some ⟨g, 0, none⟩) ∧ wb.heap.size ≤ g ∧ W.heap[g]? = some (.cells cnZero 48 (0, 0))) rfl rfl (by intro _ _ _ _ h; exact h) (fun m W hJ hF => ?_) (fun v x hh => ?_) rfl
  · have hb : Below W.heap.size W (W.alloc (.cells cnZero 48)) := (Below.refl _ _).alloc (Nat.le_refl _) _
    exact gives_value (v := .pointer (some ⟨W.heap.size, 0, none⟩)) (by go_simp; rfl) ⟨hJ.step hb, hb, _, rfl, hJ.size, heap_alloc_new _ _⟩
  obtain ⟨_, _, -, ⟨gb, rfl, -, -⟩, -⟩ := hh
  refine lex_nil (fun m W hJ hF => ?_)
  obtain ⟨gb', hg', hgB, hgz⟩ := hF 14 rfl _ _ _ rfl rfl
  cases hg'
  have HY := Lib.hid (And.intro hgB (And.intro hgz hJ))
  clear hF hJ hcell hgB hgz
  go_wp2_with (refine wpList_store_row rfl _ _ 48 rfl gb 48 _ _ rfl rfl HY.out.2.1 rfl infoCn rfl ?_)
  obtain ⟨wr, hwr⟩ : ∃ x, World.setRow W gb (Cn.cells ⟨mac, ip, 1000, dst, 1, isn, a, b, ⟨#[]⟩, ⟨#[]⟩, false⟩) = x := ⟨_, rfl⟩
  show K1 _ (World.setRow W gb (Cn.cells ⟨mac, ip, 1000, dst, 1, isn, a, b, ⟨#[]⟩, ⟨#[]⟩, false⟩))
  rw [hwr]
  have q1 : wr.heap[gb]? = some (.cells (Cn.cells ⟨mac, ip, 1000, dst, 1, isn, a, b, ⟨#[]⟩, ⟨#[]⟩, false⟩) 48 (0, 0)) := by rw [← hwr]; exact setRow_heap _ _ _ _ _ _ HY.out.2.1
  have hlr : wa.heap.size < wb.heap.size := HX.out.2.2.2.1
  have q2 : wr.heap[wa.heap.size]? = some (.cells cnZero 48 (0, 0)) := by rw [← hwr]; exact (setRow_other W gb _ _ (by have := HY.out.1; omega)).trans ((HY.out.2.2.block _ hlr).trans HX.out.2.2.1)
  have q3 : Below w.heap.size w wr := by rw [← hwr]; exact below_setRow (LeB.tr HX.out.2.2.2.2.1 HY.out.2.2) (by have := HY.out.1; have := HX.out.2.2.2.2.1.size; omega) _
  have hgl := (Array.getElem?_eq_some_iff.1 q1).1
  have hne : gb ≠ wa.heap.size := by have := HY.out.1; omega
  have hnw : wa.heap.size < wr.heap.size := (Array.getElem?_eq_some_iff.1 q2).1
  have HW := Lib.hid (And.intro q1 (And.intro q2 q3))
  clear hwr q1 q3
  refine H1.out _ _ ?_
  have hcb : ∀ m W, JQ wr wa.heap.size (Cn.cells ⟨mac, ip, 1000, dst, 1, isn, a, b, ⟨#[]⟩, ⟨#[]⟩, false⟩) m W → W.heap[gb]? = some (.cells (Cn.cells ⟨mac, ip, 1000, dst, 1, isn, a, b, ⟨#[]⟩, ⟨#[]⟩, false⟩) 48 (0, 0)) := fun m W hJ => (hJ.1.block _ hgl (by intro e; injection e with e; exact hne e)).trans HW.out.1
  go_upto_region 2 with (fail)
  refine wp_region_lex 7 (by kernel_rfl) (by kernel_rfl) (JQ wr wa.heap.size (Cn.cells ⟨mac, ip, 1000, dst, 1, isn, a, b, ⟨#[]⟩, ⟨#[]⟩, false⟩)) (LeQ wa.heap.size (Cn.cells ⟨mac, ip, 1000, dst, 1, isn, a, b, ⟨#[]⟩, ⟨#[]⟩, false⟩)) (opφ2 wr.heap.size wa.heap.size (Cn.cells ⟨mac, ip, 1000, dst, 1, isn, a, b, ⟨#[]⟩, ⟨#[]⟩, false⟩) ⟨80, 1000, isn, b, 18, 1000, ⟨#[]⟩⟩) ?_ JQ.mono ?_ ?_
  · intro j sp x v W W' hj hL h
    unfold opφ2 at hj
    split at hj
    · cases hj; exact h
    · cases hj
      obtain ⟨b, h1, h2, h3, h4⟩ := h
      exact ⟨b, h1, h2, h3, (hL.2.1 b (Array.getElem?_eq_some_iff.1 h4).1 h3).trans h4⟩
    · cases hj
      exact hL.2.2 h
    · cases hj
  · exact ⟨grownBy_of_below ((Below.refl _ _).drew) _, .inl HW.out.2.1⟩
  simp only [List.take_succ_cons, List.take_zero, List.drop_succ_cons, List.drop_zero, pairs, List.zipIdx_cons, List.zipIdx_nil, List.map_cons, List.map_nil, Nat.zero_add, Nat.reduceAdd]
  refine lex_load rfl rfl (.agg (Cn.cells ⟨mac, ip, 1000, dst, 1, isn, a, b, ⟨#[]⟩, ⟨#[]⟩, false⟩)) (fun m W hJ hF => run_exec_load rfl rfl (hcb m W hJ) Try.underlying48 rfl infoCn) ?_
  refine lex_load rfl rfl (.agg (Cn.cells ⟨mac, ip, 1000, dst, 1, isn, a, b, ⟨#[]⟩, ⟨#[]⟩, false⟩)) (fun m W hJ hF => run_exec_load rfl rfl (hcb m W hJ) Try.underlying48 rfl infoCn) ?_
  (repeat (refine lex_pure rfl rfl (fun K hK => ?_); go_simp; refine hK _ ?_; clear hK K; try simp (disch := omega) only [IntWalk.i64_in, IntWalk.u8_in, Int.add_sub_cancel, Int.tmod_eq_emod_of_nonneg, Int.tdiv_eq_ediv_of_nonneg]))
  refine lex_eff' (sp := fun _ v _ => v = .agg (Sg.cells ⟨80, 1000, isn, b, 18, 1000, ⟨#[]⟩⟩)) rfl rfl (by intro _ _ _ _ h; exact h) (fun m W hJ hF => ?_) (fun v x hh => ?_) rfl
  · refine gives_call Try.call142 ((l10Reply_ok ⟨mac, ip, 1000, dst, 1, isn, a, b, ⟨#[]⟩, ⟨#[]⟩, false⟩ isn 18 ⟨#[]⟩ W).mono ?_)
    rintro e w' ⟨rfl, h4⟩
    exact ⟨_, rfl, hJ.step h4, LeQ.of h4, rfl⟩
  obtain ⟨_, _, -, rfl, -⟩ := hh
  refine lex_eff' (sp := OneSp wr.heap.size wa.heap.size ⟨80, 1000, isn, b, 18, 1000, ⟨#[]⟩⟩) rfl rfl (by intro _ _ _ _ h; exact h) (fun m W hJ hF => ?_) (fun v x hh => ?_) rfl
  · have hb : Below W.heap.size W (W.alloc (.cells (Sg.cells ⟨80, 1000, isn, b, 18, 1000, ⟨#[]⟩⟩) 55)) := (Below.refl _ _).alloc (Nat.le_refl _) _
    have hsz := hJ.1.size
    exact gives_value (v := .slice (some ⟨W.heap.size, 0, none⟩) 1 1) (by go_simp; rfl) ⟨hJ.step hb, LeQ.of hb, _, rfl, hsz, by omega, heap_alloc_new _ _⟩
  obtain ⟨_, _, -, ⟨lb, rfl, -, -, -⟩, -⟩ := hh
  refine lexQ_store rfl rfl rfl rfl rfl rfl rfl rfl (fun v14 => ?_)
  (repeat (refine lex_pure rfl rfl (fun K hK => ?_); go_simp; refine hK _ ?_; clear hK K; try simp (disch := omega) only [IntWalk.i64_in, IntWalk.u8_in, Int.add_sub_cancel, Int.tmod_eq_emod_of_nonneg, Int.tdiv_eq_ediv_of_nonneg]))
  refine lex_nil (fun m w5 hJ hF => ?_)
  have hst := hF 5 rfl _ _ _ rfl rfl
  have hra : w.heap.size ≤ wa.heap.size := HX.out.2.2.2.2.2
  have HZ := Lib.hid (And.intro hst (Below.grown HW.out.2.2 hJ.1 HW.out.2.2.size (fun k e => by cases e; exact hra)))
  clear hF hJ hcb hst
  go_wp2_with fail
  refine bodyPost_ret (ret_cell_tmp rfl rfl HZ.out.1 Try.underlying48 rfl infoCn) rfl ?_
  exact ⟨_, rfl, HZ.out.2⟩
end Go.Proofs.Ytdenjmdngmmodaa
namespace Go.Proofs.Ytdenjmdngmmodaa
open Go.RowKit
set_option linter.unusedVariables false
set_option linter.unusedSimpArgs false
set_option maxRecDepth 200000
set_option maxHeartbeats 4000000

theorem cells_nxt (c : Cn) (x : Nat) : c.cells.setIfInBounds 6 (.int .i64 x) = Cn.cells { c with nxt := x } := rfl
theorem l10Say_ok (c : Cn) (t : ByteArray) (hc : CnOK c) (h2 : c.st = 2) (ht : t.size ≤ 300) (w : World) :
    Calls Try.prog 138 #[.agg c.cells, .string t] w fun e w' => ∃ v, e = .returned (.tuple #[.agg (sayC c t).cells, v]) ∧ Below w.heap.size w w' := by
  have hm := hc.mode
  have hn := hc.nxt
  obtain ⟨mac, ip, port, dst, st, una, nxt, want, inn, out, fin⟩ := c
  dsimp only at hm hn h2
  subst h2
  have ho : out = ⟨#[]⟩ := by
    rcases hm with m | m | m | m
    · exact m.2.2.1
    · exact m.2.2.1
    · omega
    · omega
  subst ho
  obtain ⟨n1, hn1⟩ : ∃ x, onw nxt (t.size + 1) = x := ⟨_, rfl⟩
  have hsay : sayC ⟨mac, ip, port, dst, 2, una, nxt, want, inn, ⟨#[]⟩, fin⟩ t = ⟨mac, ip, port, dst, 3, una, n1, want, inn, t, true⟩ := by unfold sayC; dsimp only; rw [hn1]
  rw [hsay]
  have e1 : bits .and .i64 ((nxt : Int) + t.size + 1) 4294967295 = (n1 : Int) := by
    have := and_onw nxt (t.size + 1) n1 hn (by omega) hn1
    rw [show (nxt : Int) + t.size + 1 = (nxt : Int) + ((t.size + 1 : Nat) : Int) by omega]
    exact this
  have HK := Lib.hid (And.intro hc (And.intro hn (And.intro ht e1)))
  have htI : (t.size : Int) ≤ 8388608 := by omega
  have htJ : (t.size : Int) ≤ 300 := by omega
  have hnI : (nxt : Int) < 4294967296 := by omega
  clear hm hn hc ht hn1 hsay e1
  go_enter Try.func138, Try.ntmps138
  go_wp2_with fail
  generalize hw0 : World.alloc w (.cells (Cn.cells ⟨mac, ip, port, dst, 2, una, nxt, want, inn, ⟨#[]⟩, fin⟩) 48) = wa
  have hblk : wa.heap[World.heap w |>.size]? = some (.cells (Cn.cells ⟨mac, ip, port, dst, 2, una, nxt, want, inn, ⟨#[]⟩, fin⟩) 48 (0, 0)) := by rw [← hw0]; exact heap_alloc_new _ _
  have hlt : (World.heap w).size < wa.heap.size := (Array.getElem?_eq_some_iff.1 hblk).1
  have hB0 : Below (World.heap w).size w wa := by rw [← hw0]; exact (Below.refl _ _).alloc (Nat.le_refl _) _
  have hsz : (World.heap wa).size = (World.heap w).size + 1 := by rw [← hw0]; simp
  clear hw0
  rw [← hsz]
  have X1 := And.intro hblk (And.intro hlt hB0)
  clear hblk hlt hB0 hsz
  generalize hw0 : World.alloc wa (.cells #[.string ⟨#[]⟩, .int .i64 0, .int .i64 0, .int .i64 0, .int .i64 0, .int .i64 0, .int .i64 0, .int .i64 0, .string ⟨#[]⟩, .string ⟨#[]⟩, .bool false] 48) = wb
  have hblk : wb.heap[World.heap wa |>.size]? = some (.cells #[.string ⟨#[]⟩, .int .i64 0, .int .i64 0, .int .i64 0, .int .i64 0, .int .i64 0, .int .i64 0, .int .i64 0, .string ⟨#[]⟩, .string ⟨#[]⟩, .bool false] 48 (0, 0)) := by rw [← hw0]; exact heap_alloc_new _ _
  have hlt : (World.heap wa).size < wb.heap.size := (Array.getElem?_eq_some_iff.1 hblk).1
  have hB0 : Below (World.heap wa).size wa wb := by rw [← hw0]; exact (Below.refl _ _).alloc (Nat.le_refl _) _
  clear hw0
  have HX := Lib.hid (CnR.mk (w0 := w) ((hB0.block _ X1.2.1).trans X1.1) hblk (LeB.tr X1.2.2 hB0) (Nat.le_refl _) X1.2.2.size (Nat.ne_of_gt X1.2.1))
  clear X1 hblk hlt hB0
  refine (l10Pieces_end ⟨mac, ip, port, dst, 2, una, nxt, want, inn, ⟨#[]⟩, fin⟩ nxt t HK.out.2.1 (by have := HK.out.2.2.1; omega) wb).mono ?_
  rintro e w1 ⟨v, rfl, hl, hB1⟩
  have H1 := Lib.hid (HX.out.below hB1)
  clear hl hB1 HX
  have c9 : w1.cell? ⟨w.heap.size, 9, none⟩ = some (.string ⟨#[]⟩) := H1.out.ccell 9 _ rfl
  have c10 : w1.cell? ⟨w.heap.size, 10, none⟩ = some (.bool fin) := H1.out.ccell 10 _ rfl
  have c4 : w1.cell? ⟨w.heap.size, 4, none⟩ = some (.int .i64 2) := H1.out.ccell 4 _ rfl
  have c6 : w1.cell? ⟨w.heap.size, 6, none⟩ = some (.int .i64 nxt) := H1.out.ccell 6 _ rfl
  have f9 := H1.out.free 9
  have f10 := H1.out.free 10
  have f4 := H1.out.free 4
  go_upto_region 5 with (fail)
  rw [empty_app]
  obtain ⟨x0, hx0, Y0⟩ := H1.out.put ⟨mac, ip, port, dst, 2, una, nxt, want, inn, t, fin⟩ 9 (.string t) rfl
  obtain ⟨x1, hx1, Y1⟩ := Y0.put ⟨mac, ip, port, dst, 2, una, nxt, want, inn, t, true⟩ 10 (.bool true) rfl
  obtain ⟨x2, hx2, Y2⟩ := Y1.put ⟨mac, ip, port, dst, 3, una, nxt, want, inn, t, true⟩ 4 (.int .i64 3) rfl
  rw [hx0, hx1, hx2]
  clear hx0 hx1 hx2 c9 c10 c4 c6 f9 f10 f4
  have c6 : x2.cell? ⟨w.heap.size, 6, none⟩ = some (.int .i64 nxt) := Y2.ccell 6 _ rfl
  have f6 := Y2.free 6
  have HZ := Lib.hid Y2
  clear Y0 Y1 Y2
  go_wp2_with fail
  refine (l10Seq_is _ n1 HK.out.2.2.2 x2).mono ?_
  rintro e x2' ⟨rfl, rfl⟩
  go_upto_region 6 with (fail)
  obtain ⟨x3, hx3, Y3⟩ := HZ.out.put ⟨mac, ip, port, dst, 3, una, n1, want, inn, t, true⟩ 6 (.int .i64 n1) rfl
  rw [hx3]
  clear hx3 c6 f6
  have c0 := blk_cell Y3.cn 0
  have c1 := blk_cell Y3.cn 1
  have c2 := blk_cell Y3.cn 2
  have c3 := blk_cell Y3.cn 3
  have c4 := blk_cell Y3.cn 4
  have c5 := blk_cell Y3.cn 5
  have c6 := blk_cell Y3.cn 6
  have c7 := blk_cell Y3.cn 7
  have c8 := blk_cell Y3.cn 8
  have c9 := blk_cell Y3.cn 9
  have c10 := blk_cell Y3.cn 10
  simp at c0 c1 c2 c3 c4 c5 c6 c7 c8 c9 c10
  have HQ := Lib.hid Y3
  clear Y3
  go_wp2_with (refine wpList_store_row rfl _ _ 48 rfl wa.heap.size 48 _ _ rfl rfl HQ.out.rs rfl infoCn rfl ?_)
  refine bodyPost_ret (ret_cell_tmp rfl rfl (setRow_heap _ _ _ _ _ _ HQ.out.rs) Try.underlying48 rfl infoCn) rfl ?_
  exact ⟨_, rfl, below_setRow HQ.out.bl HQ.out.hr _⟩
theorem say_OK (c : Cn) (t : ByteArray) (hc : CnOK c) (h2 : c.st = 2) (ht : t.size ≤ 300) : CnOK (sayC c t) := by
  have hm := hc.mode
  have hu : bhd c.nxt c.una = 0 := by
    rcases hm with m | m | m | m
    · omega
    · exact m.2.2.2
    · omega
    · omega
  have hq : bhd (onw c.nxt (t.size + 1)) c.una = t.size + 1 := by
    have h1 := hc.nxt
    have h3 := hc.una
    have e : c.nxt = c.una := by unfold bhd at hu; omega
    rw [e]
    exact bhd_onw _ _ h3 (by omega)
  exact ⟨hc.mac, hc.ip, hc.port, hc.dst, hc.una, onw_lt _ _, hc.want, hc.inn, ht, .inr (.inr (.inl ⟨rfl, rfl, hq⟩))⟩
end Go.Proofs.Ytdenjmdngmmodaa
