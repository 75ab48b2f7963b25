/- Connections drawn: a connection (begun). | A connection drawn, as called. | append to a full row; a row of bytes drawn (words for the law of connections). -/
import Derived.Test.YtdenjmdngmmodaaKc15
import Derived.Test.YtdenjmdngmmodaaKc13
import Derived.Test.YtdenjmdngmmodaaKc00
import Derived.ArgAppend
namespace Go.Proofs.Ytdenjmdngmmodaa
open Go.RowKit
set_option linter.unusedVariables false
set_option linter.unusedSimpArgs false
set_option maxRecDepth 200000
set_option maxHeartbeats 4000000

/-- What conn gives. -/
def CnV (v : Value) : Prop := ∃ c : Cn, v = .agg c.cells ∧ CnOK c
theorem conn_ok (g : Nat) (N : Int) (w : World) (hs : Src w g N) (hN : N ≤ 1000000) :
    Calls Try.prog 102 #[.pointer (some ⟨g, 0, none⟩)] w (SrcRet w g (N + 4000) CnV) := by
  have hgl := hs.lt
  have HK := Lib.hid (And.intro hs hgl)
  clear hs hgl
  go_enter Try.func102, Try.ntmps102
  go_wp2_with fail
  generalize hw0 : World.alloc w (.cells #[.string ⟨#[]⟩, .int .i64 0, .int .i64 0, .int .i64 0, .int .i64 0, .int .i64 0, .int .i64 0, .int .i64 0, .string ⟨#[]⟩, .string ⟨#[]⟩, .bool false] 48) = wa
  have hblk : wa.heap[World.heap w |>.size]? = some (.cells #[.string ⟨#[]⟩, .int .i64 0, .int .i64 0, .int .i64 0, .int .i64 0, .int .i64 0, .int .i64 0, .int .i64 0, .string ⟨#[]⟩, .string ⟨#[]⟩, .bool false] 48 (0, 0)) := by rw [← hw0]; exact heap_alloc_new _ _
  have hlt : (World.heap w).size < wa.heap.size := (Array.getElem?_eq_some_iff.1 hblk).1
  have hB0 : Below (World.heap w).size w wa := by rw [← hw0]; exact (Below.refl _ _).alloc (Nat.le_refl _) _
  have hsz : (World.heap wa).size = (World.heap w).size + 1 := by rw [← hw0]; simp
  clear hw0
  rw [← hsz]
  have X1 := And.intro hblk (And.intro hlt hB0)
  clear hblk hlt hB0 hsz
  generalize hw0 : World.alloc wa (.cells #[.int .i64 100, .int .i64 4294967293, .int .i64 0] 3) = wb
  have hblk : wb.heap[World.heap wa |>.size]? = some (.cells #[.int .i64 100, .int .i64 4294967293, .int .i64 0] 3 (0, 0)) := by rw [← hw0]; exact heap_alloc_new _ _
  have hlt : (World.heap wa).size < wb.heap.size := (Array.getElem?_eq_some_iff.1 hblk).1
  have hB0 : Below (World.heap wa).size wa wb := by rw [← hw0]; exact (Below.refl _ _).alloc (Nat.le_refl _) _
  clear hw0
  have HA := Lib.hid (And.intro ((hB0.block _ X1.2.1).trans X1.1) (And.intro (Nat.lt_of_lt_of_le X1.2.1 hB0.size) (LeB.tr X1.2.2 hB0)))
  have HI := Lib.hid (And.intro hblk hlt)
  have hs1 := HK.out.1.below (LeB.tr X1.2.2 hB0) HK.out.2
  have hne : wa.heap.size ≠ g := by have := HK.out.2; have := X1.2.2.size; omega
  clear X1 hblk hlt hB0
  refine (next_ok g N 3 wb hs1 (by omega) (by omega)).mono ?_
  rintro e w1 ⟨v, rfl, ⟨m, rfl, hm0, hm1⟩, hs2, hg1⟩
  obtain ⟨r, rfl⟩ := Int.eq_ofNat_of_zero_le hm0
  have hr3 : r < 3 := by omega
  have hr3I : (r : Int) < 3 := by omega
  obtain ⟨isn, hisn, hcell⟩ : ∃ isn : Nat, isn < 4294967296 ∧ w1.cell? ⟨wa.heap.size, r, none⟩ = some (.int .i64 isn) := by
    have hb := (hg1.block _ HI.out.2 (by intro e; injection e with e; exact hne e)).trans HI.out.1
    rcases r with _ | _ | _ | r
    · exact ⟨100, by omega, blk_cell hb 0⟩
    · exact ⟨4294967293, by omega, blk_cell hb 1⟩
    · exact ⟨0, by omega, blk_cell hb 2⟩
    · omega
  have G1 := hg1
  have HS := Lib.hid (And.intro hs2 (And.intro G1 hisn))
  clear hs1 hs2 hg1 hm0 hm1 hr3 hne G1 hisn
  go_wp2_with fail
  clear hcell hr3I
  refine (mac_ok g (N + 3) w1 HS.out.1 (by omega)).mono ?_
  rintro e w2 ⟨v, rfl, ⟨mac, hmac, rfl⟩, hs2, hg2⟩
  have H2 := Lib.hid (And.intro hs2 (And.intro (grown_trans HS.out.2.1 hg2) hmac))
  clear hs2 hg2 hmac
  go_wp2_with fail
  refine (lan_ok g (N + 3 + 3) w2 H2.out.1 (by omega)).mono ?_
  rintro e w3 ⟨v, rfl, ⟨ip, rfl, hip0, hip1⟩, hs3, hg3⟩
  obtain ⟨ipn, rfl⟩ := Int.eq_ofNat_of_zero_le (show 0 ≤ ip by omega)
  have H3 := Lib.hid (And.intro hs3 (And.intro (grown_trans H2.out.2.1 hg3) (show ipn < 4294967296 by omega)))
  clear hs3 hg3 hip0 hip1
  go_wp2_with fail
  refine (wan_ok g (N + 3 + 3 + 3) w3 H3.out.1 (by omega)).mono ?_
  rintro e w4 ⟨v, rfl, ⟨ds, rfl, hds⟩, hs4, hg4⟩
  have hds2 : 0 ≤ ds ∧ ds < 4294967296 := by simp at hds; omega
  obtain ⟨dst, rfl⟩ := Int.eq_ofNat_of_zero_le hds2.1
  have H4 := Lib.hid (And.intro hs4 (And.intro (grown_trans H3.out.2.1 hg4) (show dst < 4294967296 by omega)))
  clear hs4 hg4 hds hds2
  go_wp2_with fail
  generalize hw0 : World.alloc w4 (.cells #[.int .i64 7, .int .i64 4294967295] 3) = w5
  have hblk : w5.heap[World.heap w4 |>.size]? = some (.cells #[.int .i64 7, .int .i64 4294967295] 3 (0, 0)) := by rw [← hw0]; exact heap_alloc_new _ _
  have hlt : (World.heap w4).size < w5.heap.size := (Array.getElem?_eq_some_iff.1 hblk).1
  have hB0 : Below (World.heap w4).size w4 w5 := by rw [← hw0]; exact (Below.refl _ _).alloc (Nat.le_refl _) _
  clear hw0
  have HB := Lib.hid (And.intro hblk hlt)
  have hs5 := H4.out.1.below hB0 H4.out.1.lt
  have G5 := grown_trans H4.out.2.1 (grownBy_of_below hB0 (some g))
  have hne : w4.heap.size ≠ g := by have := H4.out.1.lt; omega
  clear hblk hlt hB0
  refine (next_ok g (N + 3 + 3 + 3 + 3) 2 w5 hs5 (by omega) (by omega)).mono ?_
  rintro e w6 ⟨v, rfl, ⟨m2, rfl, hm0, hm1⟩, hs6, hg6⟩
  obtain ⟨r2, rfl⟩ := Int.eq_ofNat_of_zero_le hm0
  have hr3 : r2 < 2 := by omega
  have hr3I : (r2 : Int) < 2 := by omega
  obtain ⟨seq, hseq, hcell⟩ : ∃ seq : Nat, seq < 4294967296 ∧ w6.cell? ⟨w4.heap.size, r2, none⟩ = some (.int .i64 seq) := by
    have hb := (hg6.block _ HB.out.2 (by intro e; injection e with e; exact hne e)).trans HB.out.1
    rcases r2 with _ | _ | r2
    · exact ⟨7, by omega, blk_cell hb 0⟩
    · exact ⟨4294967295, by omega, blk_cell hb 1⟩
    · omega
  have H6 := Lib.hid (And.intro hs6 (And.intro (grown_trans G5 hg6) hseq))
  clear hs5 G5 hne hs6 hg6 hm0 hm1 hr3 hseq
  go_wp2_with fail
  clear hcell hr3I
  refine (l10Open_ok mac ipn dst seq isn H6.out.2.2 HS.out.2.2 w6).mono ?_
  rintro e w7 ⟨v, rfl, hB7⟩
  have hk0 : CnOK (tk0 mac ipn dst isn seq) := tk0_OK mac ipn dst isn seq ⟨#[]⟩ H2.out.2.2.size H3.out.2.2 H4.out.2.2 HS.out.2.2 (by show 0 ≤ 60; omega)
  obtain ⟨c0, hc0⟩ : ∃ x, tk0 mac ipn dst isn seq = x := ⟨_, rfl⟩
  rw [hc0] at hk0 ⊢
  clear hc0
  have H7 := Lib.hid (And.intro (H6.out.1.below hB7 H6.out.1.lt) (And.intro (grown_trans H6.out.2.1 (grownBy_of_below hB7 (some g))) hk0))
  clear hB7 hk0
  go_wp2_with fail
  generalize hw0 : World.alloc w7 (.cells c0.cells 48) = w8
  have hblk : w8.heap[World.heap w7 |>.size]? = some (.cells c0.cells 48 (0, 0)) := by rw [← hw0]; exact heap_alloc_new _ _
  have hlt : (World.heap w7).size < w8.heap.size := (Array.getElem?_eq_some_iff.1 hblk).1
  have hB0 : Below (World.heap w7).size w7 w8 := by rw [← hw0]; exact (Below.refl _ _).alloc (Nat.le_refl _) _
  clear hw0
  have H8 := Lib.hid (And.intro (H7.out.1.below hB0 H7.out.1.lt) (And.intro (grown_trans H7.out.2.1 (grownBy_of_below hB0 (some g))) hblk))
  clear hblk hlt hB0
  refine (next_ok g (N + 20) 6 w8 (H8.out.1.more (by omega)) (by omega) (by omega)).mono ?_
  rintro e w9 ⟨v, rfl, ⟨m3, rfl, hm0, hm1⟩, hs9, hg9⟩
  obtain ⟨r3, rfl⟩ := Int.eq_ofNat_of_zero_le hm0
  have hr6 : r3 ≤ 5 := by omega
  have hszw : wb.heap.size ≤ w7.heap.size := H7.out.2.1.size
  have hgb : g < wb.heap.size := Nat.lt_trans HK.out.2 HA.out.2.1
  have HC0 : CoR wb w8 g (N + 20) w7.heap.size c0 := ⟨H8.out.2.2, H7.out.2.2, H8.out.1.more (by omega), H8.out.2.1, hgb, hszw⟩
  have HC := Lib.hid (HC0.draw hg9 hs9)
  clear HC0 hs9 hg9 hm0 hm1 hszw hgb
  go_wp2_with fail
  go_loopw [6] (fun iv wr => ∃ (j : Nat) (c : Cn), iv = .int .i64 j ∧ j ≤ 5 ∧ CoR wb wr g (N + 23 + 700 * (5 - (j : Int))) w7.heap.size c) (fun iv _ => (intOf iv).toNat)
  case atStart => exact ⟨r3, c0, rfl, hr6, HC.out.draw (World.grownBy.refl _ _) (HC.out.src.more (by omega))⟩
  case round =>
    obtain ⟨j, c, rfl, hj5, hc⟩ := hrel
    have HR := Lib.hid hc
    clear hc hr6
    rcases j with _ | j
    · skip
      have c0 := blk_cell HR.out.cn 0
      have c1 := blk_cell HR.out.cn 1
      have c2 := blk_cell HR.out.cn 2
      have c3 := blk_cell HR.out.cn 3
      have c4 := blk_cell HR.out.cn 4
      have c5 := blk_cell HR.out.cn 5
      have c6 := blk_cell HR.out.cn 6
      have c7 := blk_cell HR.out.cn 7
      have c8 := blk_cell HR.out.cn 8
      have c9 := blk_cell HR.out.cn 9
      have c10 := blk_cell HR.out.cn 10
      simp at c0 c1 c2 c3 c4 c5 c6 c7 c8 c9 c10
      have hrs := (HR.out.gr.block _ HA.out.2.1 (by intro e; injection e with e; have := HK.out.2; omega)).trans HA.out.1
      have HRS := Lib.hid hrs
      clear hrs
      go_wp2_with (refine wpList_store_row rfl _ _ 48 rfl w.heap.size 48 _ _ rfl rfl HRS.out rfl infoCn rfl ?_)
      refine bodyPost_ret (ret_cell rfl rfl (setRow_heap _ _ _ _ _ _ HRS.out) Try.underlying48 rfl infoCn) rfl ?_
      exact ⟨_, rfl, ⟨c, rfl, HR.out.ok⟩, (src_setRow HR.out.src HK.out.2 _).more (by omega), grown_setRow (grown_trans (grownBy_of_below HA.out.2.2 (some g)) HR.out.gr) (Nat.le_refl _) _⟩
    · have hjI : (0 : Int) < (j : Int) + 1 := by omega
      go_wp2_with fail
      refine (chance_ok g (N + 23 + 700 * (5 - ((j + 1 : Nat) : Int))) 4 wr HR.out.src (by omega) (by omega) (by omega)).mono ?_
      rintro e w1' ⟨v, rfl, ⟨b, rfl⟩, hs1, hg1⟩
      have HD := Lib.hid (HR.out.draw hg1 hs1)
      have c4 : w1'.cell? ⟨w7.heap.size, 4, none⟩ = some (.int .i64 c.st) := blk_cell HD.out.cn 4
      clear hs1 hg1
      by_cases hq : b = true ∧ c.st = 2
      · obtain ⟨rfl, h2⟩ := hq
        have h2I : (c.st : Int) = 2 := by omega
        have H2s := Lib.hid h2
        clear h2
        go_wp2_with fail
        clear c4 h2I
        have hbl := (Array.getElem?_eq_some_iff.1 HD.out.cn).1
        have hbg : w7.heap.size ≠ g := by have := HD.out.hb; have := HD.out.gl; omega
        obtain ⟨bl, hbl250, hmk⟩ : ∃ bl : List UInt8, bl.length = 250 ∧ ∀ W : World, (Instr.makeSlice 22 (.int .i64 250) (.int .i64 250)).run Try.prog W = .ok (.slice (some ⟨W.heap.size, 0, none⟩) 250 250) (W.alloc (.cells (bl.map bV).toArray 5)) := ⟨List.replicate 250 0, List.length_replicate .., fun W => by
          have h := make_bytes 250 (by omega) W
          rw [List.map_replicate]
          exact h⟩
        obtain ⟨z, hz⟩ : ∃ z, bstr bl = z := ⟨_, rfl⟩
        have hzs : z.size = 250 := by rw [← hz, bstr_size, hbl250]
        have hcb : ∀ m W, JG w1' g (N + 23 + 700 * (5 - ((j + 1 : Nat) : Int)) + 3) 8 m W → W.heap[w7.heap.size]? = some (.cells c.cells 48 (0, 0)) := fun m W hJ => (hJ.1.block _ hbl (by intro e; injection e with e; exact hbg e)).trans HD.out.cn
        refine wp_region_lex2 8 (by kernel_rfl) (by kernel_rfl) (JG w1' g (N + 23 + 700 * (5 - ((j + 1 : Nat) : Int)) + 3) 8) (LeGs g) (sayφ g [.string ⟨#[]⟩, .string ⟨#[104, 101, 108, 108, 111]⟩, .string z] (bl.map bV)) sayφ_st JG.mono (JG.start HD.out.src) ?_
        simp only [List.take_succ_cons, List.take_zero, List.drop_succ_cons, List.drop_zero, pairs, List.zipIdx_cons, List.zipIdx_nil, List.map_cons, List.map_nil, Nat.zero_add, Nat.reduceAdd]
        refine lex_load rfl rfl (.agg (Cn.cells c)) (fun m W hJ hF => run_exec_load rfl rfl (hcb m W hJ) Try.underlying48 rfl infoCn) ?_
        (repeat (refine lex_pure rfl rfl (fun K hK => ?_); go_simp; refine hK _ ?_; clear hK K; try simp (disch := omega) only [IntWalk.i64_in, IntWalk.u8_in, Int.add_sub_cancel, Int.tmod_eq_emod_of_nonneg, Int.tdiv_eq_ediv_of_nonneg]))
        refine lex_eff' (sp := RowG g 250 (bl.map bV)) rfl rfl (by intro _ _ _ _ h; exact h) (fun m W hJ hF => ?_) (fun v x hh => ?_) rfl
        · have hb : Below W.heap.size W (W.alloc (.cells (bl.map bV).toArray 5)) := (Below.refl _ _).alloc (Nat.le_refl _) _
          refine gives_value (v := .slice (some ⟨W.heap.size, 0, none⟩) 250 250) (w' := W.alloc (.cells (bl.map bV).toArray 5)) ?_ ⟨hJ.below hb, grownBy_of_below hb _, W.heap.size, rfl, by have := hJ.2.lt; omega, ?_⟩
          · go_simp
          · have h := Rd.block (heap_alloc_new W (.cells (bl.map bV).toArray 5)) 0
            simpa using h
        obtain ⟨_, _, -, ⟨bb, rfl, -, -⟩, -⟩ := hh
        refine lex_load rfl rfl (.string z) (fun m W hJ hF => ?_) ?_
        · obtain ⟨b', hb', -, hrd⟩ := hF 2 (by kernel_rfl) _ _ _ (by simp [upd]; exact ⟨rfl, rfl⟩) rfl
          cases hb'
          have hcv := bytes_str (some ⟨bb, 0, none⟩) 250 250 bl hbl250 W hrd
          rw [hz] at hcv
          go_simp
        refine lex_eff' (sp := RowG g 3 [.string ⟨#[]⟩, .string ⟨#[104, 101, 108, 108, 111]⟩, .string z]) rfl rfl (by intro _ _ _ _ h; exact h) (fun m W hJ hF => ?_) (fun v x hh => ?_) rfl
        · have hb : Below W.heap.size W (W.alloc (.cells #[.string ⟨#[]⟩, .string ⟨#[104, 101, 108, 108, 111]⟩, .string z] 9)) := (Below.refl _ _).alloc (Nat.le_refl _) _
          refine gives_value (v := .slice (some ⟨W.heap.size, 0, none⟩) 3 3) (w' := W.alloc (.cells #[.string ⟨#[]⟩, .string ⟨#[104, 101, 108, 108, 111]⟩, .string z] 9)) (by go_simp) ⟨hJ.below hb, grownBy_of_below hb _, W.heap.size, rfl, by have := hJ.2.lt; omega, ?_⟩
          have h := Rd.block (heap_alloc_new W (.cells #[.string ⟨#[]⟩, .string ⟨#[104, 101, 108, 108, 111]⟩, .string z] 9)) 0
          simpa using h
        obtain ⟨_, _, -, ⟨b4, rfl, -, -⟩, -⟩ := hh
        refine lex_eff' (sp := fun _ v _ => ∃ s : ByteArray, v = .string s ∧ s.size ≤ 300) rfl rfl (by intro _ _ _ _ h; exact h) (fun m W hJ hF => ?_) (fun v x hh => ?_) rfl
        · obtain ⟨b', hb', hbg', hrd⟩ := hF 4 (by kernel_rfl) _ _ _ (by simp [upd]; exact ⟨rfl, rfl⟩) rfl
          cases hb'
          refine gives_call Try.call110 ((pick_ok g _ W hJ.2 (by omega) (some ⟨b4, 0, none⟩) 3 [⟨#[]⟩, ⟨#[104, 101, 108, 108, 111]⟩, z] (by simp) (by simp) (fun ad e => by cases e; exact hbg') (by simpa using hrd)).mono ?_)
          rintro e w' ⟨v, rfl, ⟨s, hs, rfl⟩, hs4, hg4⟩
          refine ⟨_, rfl, hJ.step hg4 hs4 (by omega), hg4, s, rfl, ?_⟩
          simp at hs
          rcases hs with rfl | rfl | rfl
          · show 0 ≤ 300; omega
          · show 5 ≤ 300; omega
          · omega
        obtain ⟨_, _, -, ⟨s, rfl, hs⟩, -⟩ := hh
        refine lex_eff' (sp := CnSp) rfl rfl (by intro _ _ _ _ h; exact h) (fun m W hJ hF => ?_) (fun v x hh => ?_) rfl
        · refine gives_call Try.call138 ((l10Say_ok c s HD.out.ok H2s.out hs W).mono ?_)
          rintro e w' ⟨v, rfl, h4⟩
          exact ⟨_, rfl, hJ.below h4, grownBy_of_below h4 _, _, v, rfl, say_OK c s HD.out.ok H2s.out hs⟩
        obtain ⟨_, _, -, ⟨d, v2, rfl, hd⟩, -⟩ := hh
        (repeat (refine lex_pure rfl rfl (fun K hK => ?_); go_simp; refine hK _ ?_; clear hK K; try simp (disch := omega) only [IntWalk.i64_in, IntWalk.u8_in, Int.add_sub_cancel, Int.tmod_eq_emod_of_nonneg, Int.tdiv_eq_ediv_of_nonneg]))
        refine lex_nil (fun m W hJ hF => ?_)
        have HW := Lib.hid (And.intro (hcb m W hJ) (And.intro hJ hd))
        clear hF hJ hcb
        refine lex2_tail (by kernel_rfl) (rowJ W (W.setRow w7.heap.size d.cells)) (rowLe (W.setRow w7.heap.size d.cells)) (rowφ 10 (W.setRow w7.heap.size d.cells)) rowφ_st rowJ_mono (.inl rfl) ?_
        simp only [pairs, List.zipIdx_cons, List.zipIdx_nil, List.map_cons, List.map_nil, Nat.zero_add, Nat.reduceAdd, List.drop_succ_cons, List.drop_zero]
        (repeat (refine lex_pure rfl rfl (fun K hK => ?_); go_simp; refine hK _ ?_; clear hK K; try simp (disch := omega) only [IntWalk.i64_in, IntWalk.u8_in, Int.add_sub_cancel, Int.tmod_eq_emod_of_nonneg, Int.tdiv_eq_ediv_of_nonneg]))
        refine lexRow_store rfl rfl rfl rfl rfl HW.out.1 rfl infoCn rfl (fun y10 v10 => ?_)
        refine lex_nil (fun m2 X hJ2 hF2 => ?_)
        obtain rfl := hF2 10 rfl _ _ _ rfl rfl
        clear hF2 hJ2
        have HX : CoR wb W g _ w7.heap.size c := HD.out.draw HW.out.2.1.1 HW.out.2.1.2
        have HY := Lib.hid (HX.put d HW.out.2.2)
        clear HX
        go_wp2_with fail
        go_roundw
        case rel => exact ⟨j, d, by go_num, by omega, HY.out.draw (World.grownBy.refl _ _) (HY.out.src.more (by omega))⟩
        case measure => simp [intOf]
      · have hq2 : b = false ∨ (b = true ∧ ((c.st : Int) == 2) = false) := by
          cases b
          · exact .inl rfl
          · refine .inr ⟨rfl, ?_⟩
            simp only [true_and] at hq
            simp
            omega
        clear hq
        rcases hq2 with rfl | ⟨rfl, h2I⟩
        all_goals
          go_wp2_with fail
          clear c4
          have hbl := (Array.getElem?_eq_some_iff.1 HD.out.cn).1
          have hbg : w7.heap.size ≠ g := by have := HD.out.hb; have := HD.out.gl; omega
          have hcb : ∀ m W, JG w1' g (N + 23 + 700 * (5 - ((j + 1 : Nat) : Int)) + 3) 6 m W → W.heap[w7.heap.size]? = some (.cells c.cells 48 (0, 0)) := fun m W hJ => (hJ.1.block _ hbl (by intro e; injection e with e; exact hbg e)).trans HD.out.cn
          refine wp_region_lex2 6 (by kernel_rfl) (by kernel_rfl) (JG w1' g (N + 23 + 700 * (5 - ((j + 1 : Nat) : Int)) + 3) 6) (LeGs g) ansφ ansφ_st JG.mono (JG.start HD.out.src) ?_
          simp only [List.take_succ_cons, List.take_zero, List.drop_succ_cons, List.drop_zero, pairs, List.zipIdx_cons, List.zipIdx_nil, List.map_cons, List.map_nil, Nat.zero_add, Nat.reduceAdd]
          refine lex_load rfl rfl (.agg (Cn.cells c)) (fun m W hJ hF => run_exec_load rfl rfl (hcb m W hJ) Try.underlying48 rfl infoCn) ?_
          (repeat (refine lex_pure rfl rfl (fun K hK => ?_); go_simp; refine hK _ ?_; clear hK K; try simp (disch := omega) only [IntWalk.i64_in, IntWalk.u8_in, Int.add_sub_cancel, Int.tmod_eq_emod_of_nonneg, Int.tdiv_eq_ediv_of_nonneg]))
          refine lex_load rfl rfl (.agg (Cn.cells c)) (fun m W hJ hF => run_exec_load rfl rfl (hcb m W hJ) Try.underlying48 rfl infoCn) ?_
          refine lex_eff' (sp := fun _ v _ => ∃ sg : Sg, v = .agg sg.cells ∧ SegOK sg.src sg.dst sg.seq sg.ack sg.flags sg.space sg.data) rfl rfl (by intro _ _ _ _ h; exact h) (fun m W hJ hF => ?_) (fun v x hh => ?_) rfl
          · refine gives_call Try.call103 ((answer_ok g _ c HD.out.ok W hJ.2 (by omega)).mono ?_)
            rintro e w' ⟨v, rfl, ⟨sg, rfl, hsg⟩, hs4, hg4⟩
            exact ⟨_, rfl, hJ.step hg4 hs4 (by omega), hg4, sg, rfl, hsg⟩
          obtain ⟨_, _, -, ⟨sg, rfl, hsg⟩, -⟩ := hh
          refine lex_eff' (sp := CnSp) rfl rfl (by intro _ _ _ _ h; exact h) (fun m W hJ hF => ?_) (fun v x hh => ?_) rfl
          · refine gives_call Try.call106 ((l10Take_ok c sg HD.out.ok hsg _ rfl W).mono ?_)
            rintro e w' ⟨v, rfl, -, h4⟩
            exact ⟨_, rfl, hJ.below h4, grownBy_of_below h4 _, _, v, rfl, takeC_OK HD.out.ok hsg⟩
          obtain ⟨_, _, -, ⟨d, v2, rfl, hd⟩, -⟩ := hh
          (repeat (refine lex_pure rfl rfl (fun K hK => ?_); go_simp; refine hK _ ?_; clear hK K; try simp (disch := omega) only [IntWalk.i64_in, IntWalk.u8_in, Int.add_sub_cancel, Int.tmod_eq_emod_of_nonneg, Int.tdiv_eq_ediv_of_nonneg]))
          refine lex_nil (fun m W hJ hF => ?_)
          have HW := Lib.hid (And.intro (hcb m W hJ) (And.intro hJ hd))
          clear hF hJ hcb
          refine lex2_tail (by kernel_rfl) (rowJ W (W.setRow w7.heap.size d.cells)) (rowLe (W.setRow w7.heap.size d.cells)) (rowφ 8 (W.setRow w7.heap.size d.cells)) rowφ_st rowJ_mono (.inl rfl) ?_
          simp only [pairs, List.zipIdx_cons, List.zipIdx_nil, List.map_cons, List.map_nil, Nat.zero_add, Nat.reduceAdd, List.drop_succ_cons, List.drop_zero]
          (repeat (refine lex_pure rfl rfl (fun K hK => ?_); go_simp; refine hK _ ?_; clear hK K; try simp (disch := omega) only [IntWalk.i64_in, IntWalk.u8_in, Int.add_sub_cancel, Int.tmod_eq_emod_of_nonneg, Int.tdiv_eq_ediv_of_nonneg]))
          refine lexRow_store rfl rfl rfl rfl rfl HW.out.1 rfl infoCn rfl (fun y10 v10 => ?_)
          refine lex_nil (fun m2 X hJ2 hF2 => ?_)
          obtain rfl := hF2 8 rfl _ _ _ rfl rfl
          clear hF2 hJ2
          have HX : CoR wb W g _ w7.heap.size c := HD.out.draw HW.out.2.1.1 HW.out.2.1.2
          have HY := Lib.hid (HX.put d HW.out.2.2)
          clear HX
          go_wp2_with fail
          go_roundw
          case rel => exact ⟨j, d, by go_num, by omega, HY.out.draw (World.grownBy.refl _ _) (HY.out.src.more (by omega))⟩
          case measure => simp [intOf]
end Go.Proofs.Ytdenjmdngmmodaa
namespace Go.Proofs.Ytdenjmdngmmodaa
open Go.RowKit
set_option linter.unusedVariables false
set_option linter.unusedSimpArgs false
set_option maxRecDepth 200000
set_option maxHeartbeats 4000000

theorem ConnOf_ok (A : Option Addr) (c : Nat) (bs : List UInt8) (hl : bs.length ≤ 1099511627776) (w : World) (hr : Rd w A (bs.map bV)) :
    Calls Try.prog 44 #[.slice A bs.length c] w fun e w' => ∃ v, e = .returned v ∧ CnV v ∧ Below w.heap.size w w' := by
  go_enter Try.func44, Try.ntmps44
  go_wp2_with fail
  generalize hw0 : World.alloc w (.cells #[.string ⟨#[]⟩, .int .i64 0, .int .i64 0, .int .i64 0, .int .i64 0, .int .i64 0, .int .i64 0, .int .i64 0, .string ⟨#[]⟩, .string ⟨#[]⟩, .bool false] 48) = wa
  have hblk : wa.heap[World.heap w |>.size]? = some (.cells #[.string ⟨#[]⟩, .int .i64 0, .int .i64 0, .int .i64 0, .int .i64 0, .int .i64 0, .int .i64 0, .int .i64 0, .string ⟨#[]⟩, .string ⟨#[]⟩, .bool false] 48 (0, 0)) := by rw [← hw0]; exact heap_alloc_new _ _
  have hlt : (World.heap w).size < wa.heap.size := (Array.getElem?_eq_some_iff.1 hblk).1
  have hB0 : Below (World.heap w).size w wa := by rw [← hw0]; exact (Below.refl _ _).alloc (Nat.le_refl _) _
  clear hw0
  have HA := Lib.hid (And.intro hblk (And.intro hlt hB0))
  have hr2 := hr.below hB0 (Nat.le_refl _)
  clear hblk hlt hB0 hr
  refine (l00Source_ok A c bs hl wa hr2).mono ?_
  rintro e w1 ⟨rfl, hs, hB1⟩
  have H1 := Lib.hid hB1
  clear hB1 hr2
  go_wp2_with fail
  refine (conn_ok wa.heap.size 0 w1 hs (by omega)).mono ?_
  rintro e w2 ⟨v, rfl, hv, hs2, hg⟩
  obtain ⟨d, rfl, hd⟩ := hv
  have L1 : Below w.heap.size w w1 := LeB.tr HA.out.2.2 H1.out
  have L2 : Below w.heap.size w w2 := Below.grown L1 hg L1.size (fun k e => by cases e; exact HA.out.2.2.size)
  have hb2 := (hg.block w.heap.size (Nat.lt_of_lt_of_le HA.out.2.1 H1.out.size) (by intro e; injection e with e; have := HA.out.2.1; omega)).trans ((H1.out.block _ HA.out.2.1).trans HA.out.1)
  have HZ := Lib.hid (And.intro hb2 (And.intro hd L2))
  clear hs hs2 hg hd L1 L2 hb2
  go_wp2_with (refine wpList_store_row rfl _ _ 48 rfl w.heap.size 48 _ _ rfl rfl HZ.out.1 rfl infoCn rfl ?_)
  refine bodyPost_ret (ret_cell rfl rfl (setRow_heap _ _ _ _ _ _ HZ.out.1) Try.underlying48 rfl infoCn) rfl ?_
  exact ⟨_, rfl, ⟨d, rfl, HZ.out.2.1⟩, below_setRow HZ.out.2.2 (Nat.le_refl _) _⟩
end Go.Proofs.Ytdenjmdngmmodaa
namespace Go.Proofs.Ytdenjmdngmmodaa
open Go.RowKit
set_option linter.unusedVariables false
set_option linter.unusedSimpArgs false
set_option maxRecDepth 20000
set_option maxHeartbeats 600000

/-- append to a row that is full: what is new lies in new blocks. -/
theorem append_full (w : World) (b n : Nat) (bs : List UInt8) (hn : bs.length = n) (hb : Rd w (some ⟨b, 0, none⟩) (bs.map bV)) (A : Option Addr) (c : Nat) (ns : List UInt8) (hr : Rd w A (ns.map bV))
    (h : n + ns.length ≤ 1099511627776) :
    ∃ A' c' w', (Builtin.append_ #[22, 22] 22 #[.slice (some ⟨b, 0, none⟩) n n, .slice A ns.length c]).run Try.prog w = .ok (.slice A' (bs ++ ns).length c') w' ∧ (bs ++ ns).length ≤ c' ∧ Rd w' A' ((bs ++ ns).map bV) ∧ LeB w w' := by
  subst hn
  obtain ⟨i, hi, hz, hs, hby⟩ := info_parts info_u8
  by_cases hns : ns = []
  · subst hns
    cases A with
    | none => exact ⟨some ⟨b, 0, none⟩, bs.length, w, by simp [Builtin.append_, run_underlying Try.underlying22, sizeOf, typeInfo, hi, Builtin.lenOf, Builtin.firstCells, storeCells], by simp, by simpa using hb, Below.refl _ _⟩
    | some ad =>
      have hrun := run_append_room_cells (P := Try.prog) w 22 22 5 i Try.underlying22 hi b 0 bs.length bs.length ad 0 c [] (by simp) (by intro j u hu; simp at hu) (by simp) (by omega) (by simp) (by simp)
      have e : w.setCells b (0 + bs.length * i.size) [] = w := rfl
      rw [e] at hrun
      exact ⟨some ⟨b, 0, none⟩, bs.length, w, by simpa using hrun, by simp, by simpa using hb, Below.refl _ _⟩
  · obtain ⟨ad, rfl, -⟩ := hr.lt (by simpa using hns)
    have hpos : 0 < ns.length := List.length_pos_iff.2 hns
    obtain ⟨v', w', hrun, hown, hg⟩ := run_append_arg_grows (P := Try.prog) w 22 22 5 i _ 1 1 Try.underlying22 hi hz hs hby rfl (by omega) ⟨b, 0, none⟩ bs.length bs.length (bs.map bV) (by simp) (fun j u hu => by
        obtain ⟨ad', e1, h⟩ := hb j u hu
        cases e1
        exact h) ad ns.length c (ns.map bV) (by simp) (fun j u hu => by
        obtain ⟨ad', e1, h⟩ := hr j u hu
        cases e1
        exact h) (by omega) (by simp only [maxLen]; omega) (by omega)
    rw [← List.length_append, ← List.map_append] at hown
    obtain ⟨A', c', rfl, hc', hr', -⟩ := own_slice hown
    exact ⟨A', c', w', hrun, hc', hr', ⟨hg.os, hg.tape, hg.output, hg.size, fun k hk => hg.block k hk (by simp)⟩⟩
theorem gives_append {P : Program} {o : Oper} {a : Act} {w w' : World} {R : Value → World → Prop} (s x : Operand) (t u : TypeId) (ho : o.op = .call { callee := .builtin .append, args := #[s, x], argTypes := #[t, u] }) {vs vx v' : Value} (hs : a.eval s = vs) (hx : a.eval x = vx)
    (hrun : (Builtin.append_ #[t, u] o.type #[vs, vx]).run P w = .ok v' w') (hR : R v' w') : gives P o a w R := by
  unfold gives execOp
  simp only [ho, resolve, invoke, builtin, Sem.run_bind, Sem.run_pure, Result.andThen_ok, List.map_toArray, List.map_cons, List.map_nil, hs, hx, hrun]
  exact hR
/-- Bytes that lie in some block from B on, its first cell; a new row of one byte, of n bytes. -/
def ByRow (bs : List UInt8) : Spec := fun _ v w => ∃ b, v = .slice (some ⟨b, 0, none⟩) bs.length bs.length ∧ Rd w (some ⟨b, 0, none⟩) (bs.map bV)
def NewAt (B : Nat) (cs : Array Value) (T : TypeId) : Spec := fun _ v w => ∃ b, v = .pointer (some ⟨b, 0, none⟩) ∧ B ≤ b ∧ w.heap[b]? = some (.cells cs T (0, 0))
theorem ByRow.st {bs : List UInt8} {x : Array Value} {v : Value} {w w' : World} (hL : LeB w w') (h : ByRow bs x v w) : ByRow bs x v w' := by
  obtain ⟨b, h1, h2⟩ := h
  exact ⟨b, h1, h2.below hL (Nat.le_refl _)⟩
theorem NewAt.st {B : Nat} {cs : Array Value} {T : TypeId} {x : Array Value} {v : Value} {w w' : World} (hL : LeB w w') (h : NewAt B cs T x v w) : NewAt B cs T x v w' := by
  obtain ⟨b, h1, h2, h3⟩ := h
  exact ⟨b, h1, h2, (hL.block b (Array.getElem?_eq_some_iff.1 h3).1).trans h3⟩
end Go.Proofs.Ytdenjmdngmmodaa
