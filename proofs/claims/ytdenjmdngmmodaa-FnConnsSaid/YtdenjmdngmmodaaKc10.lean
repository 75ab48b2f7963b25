/- Connections, the other hand: which are right. | Connections, the other hand: a segment is taken. | Connections, the other hand: a segment that would open. -/
import Derived.Test.YtdenjmdngmmodaaKc09
import Derived.Deep.Cut
namespace Go.Proofs.Ytdenjmdngmmodaa
open Go.RowKit
set_option linter.unusedVariables false
set_option linter.unusedSimpArgs false
set_option maxRecDepth 200000
set_option maxHeartbeats 4000000

theorem l02Port_ok (n : Nat) (h : n < 65536) (w : World) : Calls Try.prog 133 #[.int .i64 n] w fun e w' => e = .returned (.bool true) ∧ w = w' := by
  go_enter Try.func133, Try.ntmps133
  go_wp2_with fail
  refine (l01In_ok _ _ _ _).mono ?_
  rintro e w1 ⟨rfl, rfl⟩
  rw [show decide ((0 : Int) ≤ n ∧ (n : Int) ≤ 65535) = true from by simp; omega]
  go_wp2
  go_ret
  exact ⟨rfl, rfl⟩
theorem l07Ask_ok (a p : Nat) (ha : a < 4294967296) (hp : p < 65536) (w : World) : Calls Try.prog 140 #[.int .i64 a, .int .i64 p] w fun e w' => e = .returned (.bool true) ∧ w = w' := by
  have HK := Lib.hid (And.intro ha hp)
  clear ha hp
  go_enter Try.func140, Try.ntmps140
  go_wp2_with fail
  refine (l01Ip_ok a HK.out.1 _).mono ?_
  rintro e w1 ⟨rfl, rfl⟩
  go_wp2_with fail
  refine (l02Port_ok p HK.out.2 _).mono ?_
  rintro e w1 ⟨rfl, rfl⟩
  go_wp2
  go_ret
  exact ⟨rfl, rfl⟩
theorem l02Segment_true (a b s k f p : Nat) (d : ByteArray) (h : SegOK a b s k f p d) (w : World) :
    Calls Try.prog 105 #[.agg #[.int .i64 a, .int .i64 b, .int .i64 s, .int .i64 k, .int .i64 f, .int .i64 p, .string d]] w fun e w' => e = .returned (.bool true) ∧ Below w.heap.size w w' := by
  have h3 : decide ((0 : Int) ≤ f ∧ (f : Int) ≤ 31) = true := by have := h.flags; simp; omega
  have hb : (d.size : Int) ≤ 360 := by have := h.data; omega
  have HK := Lib.hid (And.intro h h3)
  clear h h3
  go_enter Try.func105, Try.ntmps105
  go_wp2_with fail
  refine (l02Port_ok a HK.out.1.src _).mono ?_
  rintro e w1 ⟨rfl, rfl⟩
  go_wp2_with fail
  refine (l02Port_ok b HK.out.1.dst _).mono ?_
  rintro e w1 ⟨rfl, rfl⟩
  go_wp2_with fail
  refine (l01Ip_ok s HK.out.1.seq _).mono ?_
  rintro e w1 ⟨rfl, rfl⟩
  go_wp2_with fail
  refine (l01Ip_ok k HK.out.1.ack _).mono ?_
  rintro e w1 ⟨rfl, rfl⟩
  go_wp2_with fail
  refine (l01In_ok _ _ _ _).mono ?_
  rintro e w1 ⟨rfl, rfl⟩
  rw [HK.out.2]
  go_wp2_with fail
  refine (l02Port_ok p HK.out.1.space _).mono ?_
  rintro e w1 ⟨rfl, rfl⟩
  go_wp2
  go_ret
  exact ⟨rfl, (Below.refl _ _).alloc (Nat.le_refl _) _⟩
def okφ (s : Nat) : Nat → Option Spec := qphi [(5, .int .i64 s), (7, .int .i64 s)]
theorem sConnOK_true (c : Cn) (h : CnOK c) (w : World) :
    Calls Try.prog 104 #[.agg c.cells] w fun e w' => e = .returned (.bool true) ∧ Below w.heap.size w w' := by
  have hso := (sentC_OK h)
  have ho := h.out
  obtain ⟨s, hs⟩ : ∃ s, sentC c = s := ⟨_, rfl⟩
  have hq : bhd c.nxt c.una = s := hso.trans hs
  have e1 := and_bhd c.nxt c.una h.nxt h.una s hq
  have HS := Lib.hid (And.intro hs (And.intro ho e1))
  clear hso ho hs hq e1
  obtain ⟨mac, ip, port, dst, st, una, nxt, want, inn, out, fin⟩ := c
  obtain ⟨h1, h2, h3, h4, h5, h6, h7, h8, h9, h10⟩ := h
  dsimp only at h1 h2 h3 h4 h5 h6 h7 h8 h9 h10
  have hm := mac_true h1
  have g8 : (inn.size : Int) ≤ 300 := by omega
  have g9 : (out.size : Int) ≤ 300 := by omega
  have g8' : decide ((300 : Int) < inn.size) = false := by simp; omega
  have g9' : decide ((300 : Int) < out.size) = false := by simp; omega
  have g5 := Lib.hid (show (una : Int) < 4294967296 ∧ (nxt : Int) < 4294967296 by omega)
  have HK := Lib.hid (And.intro h2 (And.intro h3 (And.intro h4 (And.intro h5 (And.intro h6 h7)))))
  have hst : decide ((1 : Int) ≤ st ∧ (st : Int) ≤ 4) = true := by
    rcases h10 with m | m | m | m <;> (simp; omega)
  have HST := Lib.hid hst
  clear h1 h2 h3 h4 h5 h6 h7 h8 h9 hst
  rcases h10 with ⟨rfl, rfl, rfl, rfl, hb⟩ | ⟨rfl, rfl, rfl, hb⟩ | ⟨rfl, rfl, hb⟩ | ⟨rfl, rfl, rfl, hb⟩
  · skip
    clear hb
    go_enter Try.func104, Try.ntmps104
    go_wp2_with fail
    generalize hw0 : World.alloc w (.cells (Cn.cells ⟨mac, ip, port, dst, 1, una, nxt, want, ⟨#[]⟩, ⟨#[]⟩, false⟩) 48) = wa
    have hblk : wa.heap[World.heap w |>.size]? = some (.cells (Cn.cells ⟨mac, ip, port, dst, 1, una, nxt, want, ⟨#[]⟩, ⟨#[]⟩, false⟩) 48 (0, 0)) := by rw [← hw0]; exact heap_alloc_new _ _
    have hlt : (World.heap w).size < wa.heap.size := (Array.getElem?_eq_some_iff.1 hblk).1
    have hB0 : Below (World.heap w).size w wa := by rw [← hw0]; exact (Below.refl _ _).alloc (Nat.le_refl _) _
    clear hw0
    have FX := Lib.hid (And.intro hblk (And.intro hlt hB0))
    have c0 := blk_cell hblk 0
    have c1 := blk_cell hblk 1
    have c2 := blk_cell hblk 2
    have c3 := blk_cell hblk 3
    have c4 := blk_cell hblk 4
    have c5 := blk_cell hblk 5
    have c6 := blk_cell hblk 6
    have c7 := blk_cell hblk 7
    have c8 := blk_cell hblk 8
    have c9 := blk_cell hblk 9
    have c10 := blk_cell hblk 10
    simp at c0 c1 c2 c3 c4 c5 c6 c7 c8 c9 c10
    clear hblk hlt hB0
    refine (l01Mac_ok mac _).mono ?_
    rintro e w1 ⟨rfl, rfl⟩
    rw [hm]
    go_wp2_with fail
    refine (l07Ask_ok ip port HK.out.1 HK.out.2.1 _).mono ?_
    rintro e w1 ⟨rfl, rfl⟩
    go_wp2_with fail
    refine (l01Ip_ok dst HK.out.2.2.1 _).mono ?_
    rintro e w1 ⟨rfl, rfl⟩
    go_wp2_with fail
    refine (l01In_ok _ 1 4 _).mono ?_
    rintro e w1 ⟨rfl, rfl⟩
    go_wp2_with fail
    refine (l01Ip_ok una HK.out.2.2.2.1 _).mono ?_
    rintro e w1 ⟨rfl, rfl⟩
    go_wp2_with fail
    refine (l01Ip_ok nxt HK.out.2.2.2.2.1 _).mono ?_
    rintro e w1 ⟨rfl, rfl⟩
    go_wp2_with fail
    refine (l01Ip_ok want HK.out.2.2.2.2.2 _).mono ?_
    rintro e w1 ⟨rfl, rfl⟩
    go_wp2_with fail
    have g6 := g5.out.1
    have g7 := g5.out.2
    have hcell : ∀ W, Below wa.heap.size wa W → W.cell? ⟨w.heap.size, 6, none⟩ = some (.int .i64 nxt) ∧ W.cell? ⟨w.heap.size, 5, none⟩ = some (.int .i64 una) := fun W hW => ⟨blk_cell ((hW.block _ FX.out.2.1).trans FX.out.1) 6, blk_cell ((hW.block _ FX.out.2.1).trans FX.out.1) 5⟩
    refine wp_region_lex 9 (by kernel_rfl) (by kernel_rfl) (JB wa) LeB (qphi [(5, .int .i64 s), (7, .int .i64 s)]) qphi_st JB.mono ?_ ?_
    · exact (Below.refl _ _).drew
    simp only [List.take_succ_cons, List.take_zero, List.drop_succ_cons, List.drop_zero, pairs, List.zipIdx_cons, List.zipIdx_nil, List.map_cons, List.map_nil, Nat.zero_add, Nat.reduceAdd]
    (repeat (first | (refine lex_pure rfl rfl (fun K hK => ?_); go_simp; refine hK _ ?_; clear hK K; try simp (disch := omega) only [IntWalk.i64_in, IntWalk.u8_in, Int.add_sub_cancel, Int.tmod_eq_emod_of_nonneg, Int.tdiv_eq_ediv_of_nonneg]) | (refine lex_load rfl rfl _ (fun m W hJ hF => (by have cc := hcell W hJ; go_simp; rfl)) ?_; try simp (disch := omega) only [IntWalk.i64_in, IntWalk.u8_in, Int.add_sub_cancel, Int.tmod_eq_emod_of_nonneg, Int.tdiv_eq_ediv_of_nonneg]) | (refine lex_sadd rfl rfl rfl rfl rfl (by first | omega | (simp only [ByteArray.size_append]; omega)) ?_; go_simp)))
    refine lex_eff' (sp := fun _ v _ => v = .int .i64 s) rfl rfl (by intro _ _ _ _ h; exact h) (fun m W hJ hF => ?_) (fun v x hh => ?_) rfl
    · refine gives_call Try.call139 ((l10Seq_is _ s HS.out.2.2 W).mono ?_)
      rintro e w' ⟨rfl, rfl⟩
      exact ⟨_, rfl, hJ, LeB.of (Below.refl _ _), rfl⟩
    obtain ⟨_, _, -, rfl, -⟩ := hh
    refine lex_load rfl rfl (.agg (Cn.cells ⟨mac, ip, port, dst, 1, una, nxt, want, ⟨#[]⟩, ⟨#[]⟩, false⟩)) (fun m W hJ hF => run_exec_load rfl rfl ((hJ.block _ FX.out.2.1).trans FX.out.1) Try.underlying48 rfl infoCn) ?_
    refine lex_eff' (sp := fun _ v _ => v = .int .i64 s) rfl rfl (by intro _ _ _ _ h; exact h) (fun m W hJ hF => ?_) (fun v x hh => ?_) rfl
    · refine gives_call Try.call141 ((l10Sent_ok ⟨mac, ip, port, dst, 1, una, nxt, want, ⟨#[]⟩, ⟨#[]⟩, false⟩ HS.out.2.1 s HS.out.1 W).mono ?_)
      rintro e w' ⟨rfl, h4⟩
      exact ⟨_, rfl, hJ.step h4, h4, rfl⟩
    obtain ⟨_, _, -, rfl, -⟩ := hh
    (repeat (first | (refine lex_pure rfl rfl (fun K hK => ?_); go_simp; refine hK _ ?_; clear hK K; try simp (disch := omega) only [IntWalk.i64_in, IntWalk.u8_in, Int.add_sub_cancel, Int.tmod_eq_emod_of_nonneg, Int.tdiv_eq_ediv_of_nonneg]) | (refine lex_load rfl rfl _ (fun m W hJ hF => (by have cc := hcell W hJ; go_simp; rfl)) ?_; try simp (disch := omega) only [IntWalk.i64_in, IntWalk.u8_in, Int.add_sub_cancel, Int.tmod_eq_emod_of_nonneg, Int.tdiv_eq_ediv_of_nonneg]) | (refine lex_sadd rfl rfl rfl rfl rfl (by first | omega | (simp only [ByteArray.size_append]; omega)) ?_; go_simp)))
    refine lex_nil (fun m W hJ hF => ?_)
    have HB := Lib.hid (LeB.tr FX.out.2.2 hJ)
    clear hF hJ hcell
    go_wp2_with fail
    go_ret
    exact ⟨rfl, HB.out⟩
  · skip
    clear hb
    go_enter Try.func104, Try.ntmps104
    go_wp2_with fail
    generalize hw0 : World.alloc w (.cells (Cn.cells ⟨mac, ip, port, dst, 2, una, nxt, want, inn, ⟨#[]⟩, false⟩) 48) = wa
    have hblk : wa.heap[World.heap w |>.size]? = some (.cells (Cn.cells ⟨mac, ip, port, dst, 2, una, nxt, want, inn, ⟨#[]⟩, false⟩) 48 (0, 0)) := by rw [← hw0]; exact heap_alloc_new _ _
    have hlt : (World.heap w).size < wa.heap.size := (Array.getElem?_eq_some_iff.1 hblk).1
    have hB0 : Below (World.heap w).size w wa := by rw [← hw0]; exact (Below.refl _ _).alloc (Nat.le_refl _) _
    clear hw0
    have FX := Lib.hid (And.intro hblk (And.intro hlt hB0))
    have c0 := blk_cell hblk 0
    have c1 := blk_cell hblk 1
    have c2 := blk_cell hblk 2
    have c3 := blk_cell hblk 3
    have c4 := blk_cell hblk 4
    have c5 := blk_cell hblk 5
    have c6 := blk_cell hblk 6
    have c7 := blk_cell hblk 7
    have c8 := blk_cell hblk 8
    have c9 := blk_cell hblk 9
    have c10 := blk_cell hblk 10
    simp at c0 c1 c2 c3 c4 c5 c6 c7 c8 c9 c10
    clear hblk hlt hB0
    refine (l01Mac_ok mac _).mono ?_
    rintro e w1 ⟨rfl, rfl⟩
    rw [hm]
    go_wp2_with fail
    refine (l07Ask_ok ip port HK.out.1 HK.out.2.1 _).mono ?_
    rintro e w1 ⟨rfl, rfl⟩
    go_wp2_with fail
    refine (l01Ip_ok dst HK.out.2.2.1 _).mono ?_
    rintro e w1 ⟨rfl, rfl⟩
    go_wp2_with fail
    refine (l01In_ok _ 1 4 _).mono ?_
    rintro e w1 ⟨rfl, rfl⟩
    go_wp2_with fail
    refine (l01Ip_ok una HK.out.2.2.2.1 _).mono ?_
    rintro e w1 ⟨rfl, rfl⟩
    go_wp2_with fail
    refine (l01Ip_ok nxt HK.out.2.2.2.2.1 _).mono ?_
    rintro e w1 ⟨rfl, rfl⟩
    go_wp2_with fail
    refine (l01Ip_ok want HK.out.2.2.2.2.2 _).mono ?_
    rintro e w1 ⟨rfl, rfl⟩
    go_wp2_with fail
    have g6 := g5.out.1
    have g7 := g5.out.2
    have hcell : ∀ W, Below wa.heap.size wa W → W.cell? ⟨w.heap.size, 6, none⟩ = some (.int .i64 nxt) ∧ W.cell? ⟨w.heap.size, 5, none⟩ = some (.int .i64 una) := fun W hW => ⟨blk_cell ((hW.block _ FX.out.2.1).trans FX.out.1) 6, blk_cell ((hW.block _ FX.out.2.1).trans FX.out.1) 5⟩
    refine wp_region_lex 9 (by kernel_rfl) (by kernel_rfl) (JB wa) LeB (qphi [(5, .int .i64 s), (7, .int .i64 s)]) qphi_st JB.mono ?_ ?_
    · exact (Below.refl _ _).drew
    simp only [List.take_succ_cons, List.take_zero, List.drop_succ_cons, List.drop_zero, pairs, List.zipIdx_cons, List.zipIdx_nil, List.map_cons, List.map_nil, Nat.zero_add, Nat.reduceAdd]
    (repeat (first | (refine lex_pure rfl rfl (fun K hK => ?_); go_simp; refine hK _ ?_; clear hK K; try simp (disch := omega) only [IntWalk.i64_in, IntWalk.u8_in, Int.add_sub_cancel, Int.tmod_eq_emod_of_nonneg, Int.tdiv_eq_ediv_of_nonneg]) | (refine lex_load rfl rfl _ (fun m W hJ hF => (by have cc := hcell W hJ; go_simp; rfl)) ?_; try simp (disch := omega) only [IntWalk.i64_in, IntWalk.u8_in, Int.add_sub_cancel, Int.tmod_eq_emod_of_nonneg, Int.tdiv_eq_ediv_of_nonneg]) | (refine lex_sadd rfl rfl rfl rfl rfl (by first | omega | (simp only [ByteArray.size_append]; omega)) ?_; go_simp)))
    refine lex_eff' (sp := fun _ v _ => v = .int .i64 s) rfl rfl (by intro _ _ _ _ h; exact h) (fun m W hJ hF => ?_) (fun v x hh => ?_) rfl
    · refine gives_call Try.call139 ((l10Seq_is _ s HS.out.2.2 W).mono ?_)
      rintro e w' ⟨rfl, rfl⟩
      exact ⟨_, rfl, hJ, LeB.of (Below.refl _ _), rfl⟩
    obtain ⟨_, _, -, rfl, -⟩ := hh
    refine lex_load rfl rfl (.agg (Cn.cells ⟨mac, ip, port, dst, 2, una, nxt, want, inn, ⟨#[]⟩, false⟩)) (fun m W hJ hF => run_exec_load rfl rfl ((hJ.block _ FX.out.2.1).trans FX.out.1) Try.underlying48 rfl infoCn) ?_
    refine lex_eff' (sp := fun _ v _ => v = .int .i64 s) rfl rfl (by intro _ _ _ _ h; exact h) (fun m W hJ hF => ?_) (fun v x hh => ?_) rfl
    · refine gives_call Try.call141 ((l10Sent_ok ⟨mac, ip, port, dst, 2, una, nxt, want, inn, ⟨#[]⟩, false⟩ HS.out.2.1 s HS.out.1 W).mono ?_)
      rintro e w' ⟨rfl, h4⟩
      exact ⟨_, rfl, hJ.step h4, h4, rfl⟩
    obtain ⟨_, _, -, rfl, -⟩ := hh
    (repeat (first | (refine lex_pure rfl rfl (fun K hK => ?_); go_simp; refine hK _ ?_; clear hK K; try simp (disch := omega) only [IntWalk.i64_in, IntWalk.u8_in, Int.add_sub_cancel, Int.tmod_eq_emod_of_nonneg, Int.tdiv_eq_ediv_of_nonneg]) | (refine lex_load rfl rfl _ (fun m W hJ hF => (by have cc := hcell W hJ; go_simp; rfl)) ?_; try simp (disch := omega) only [IntWalk.i64_in, IntWalk.u8_in, Int.add_sub_cancel, Int.tmod_eq_emod_of_nonneg, Int.tdiv_eq_ediv_of_nonneg]) | (refine lex_sadd rfl rfl rfl rfl rfl (by first | omega | (simp only [ByteArray.size_append]; omega)) ?_; go_simp)))
    refine lex_nil (fun m W hJ hF => ?_)
    have HB := Lib.hid (LeB.tr FX.out.2.2 hJ)
    clear hF hJ hcell
    go_wp2_with fail
    go_ret
    exact ⟨rfl, HB.out⟩
  · skip
    clear hb
    go_enter Try.func104, Try.ntmps104
    go_wp2_with fail
    generalize hw0 : World.alloc w (.cells (Cn.cells ⟨mac, ip, port, dst, 3, una, nxt, want, inn, out, true⟩) 48) = wa
    have hblk : wa.heap[World.heap w |>.size]? = some (.cells (Cn.cells ⟨mac, ip, port, dst, 3, una, nxt, want, inn, out, true⟩) 48 (0, 0)) := by rw [← hw0]; exact heap_alloc_new _ _
    have hlt : (World.heap w).size < wa.heap.size := (Array.getElem?_eq_some_iff.1 hblk).1
    have hB0 : Below (World.heap w).size w wa := by rw [← hw0]; exact (Below.refl _ _).alloc (Nat.le_refl _) _
    clear hw0
    have FX := Lib.hid (And.intro hblk (And.intro hlt hB0))
    have c0 := blk_cell hblk 0
    have c1 := blk_cell hblk 1
    have c2 := blk_cell hblk 2
    have c3 := blk_cell hblk 3
    have c4 := blk_cell hblk 4
    have c5 := blk_cell hblk 5
    have c6 := blk_cell hblk 6
    have c7 := blk_cell hblk 7
    have c8 := blk_cell hblk 8
    have c9 := blk_cell hblk 9
    have c10 := blk_cell hblk 10
    simp at c0 c1 c2 c3 c4 c5 c6 c7 c8 c9 c10
    clear hblk hlt hB0
    refine (l01Mac_ok mac _).mono ?_
    rintro e w1 ⟨rfl, rfl⟩
    rw [hm]
    go_wp2_with fail
    refine (l07Ask_ok ip port HK.out.1 HK.out.2.1 _).mono ?_
    rintro e w1 ⟨rfl, rfl⟩
    go_wp2_with fail
    refine (l01Ip_ok dst HK.out.2.2.1 _).mono ?_
    rintro e w1 ⟨rfl, rfl⟩
    go_wp2_with fail
    refine (l01In_ok _ 1 4 _).mono ?_
    rintro e w1 ⟨rfl, rfl⟩
    go_wp2_with fail
    refine (l01Ip_ok una HK.out.2.2.2.1 _).mono ?_
    rintro e w1 ⟨rfl, rfl⟩
    go_wp2_with fail
    refine (l01Ip_ok nxt HK.out.2.2.2.2.1 _).mono ?_
    rintro e w1 ⟨rfl, rfl⟩
    go_wp2_with fail
    refine (l01Ip_ok want HK.out.2.2.2.2.2 _).mono ?_
    rintro e w1 ⟨rfl, rfl⟩
    go_wp2_with fail
    have g6 := g5.out.1
    have g7 := g5.out.2
    have hcell : ∀ W, Below wa.heap.size wa W → W.cell? ⟨w.heap.size, 6, none⟩ = some (.int .i64 nxt) ∧ W.cell? ⟨w.heap.size, 5, none⟩ = some (.int .i64 una) := fun W hW => ⟨blk_cell ((hW.block _ FX.out.2.1).trans FX.out.1) 6, blk_cell ((hW.block _ FX.out.2.1).trans FX.out.1) 5⟩
    refine wp_region_lex 9 (by kernel_rfl) (by kernel_rfl) (JB wa) LeB (qphi [(5, .int .i64 s), (7, .int .i64 s)]) qphi_st JB.mono ?_ ?_
    · exact (Below.refl _ _).drew
    simp only [List.take_succ_cons, List.take_zero, List.drop_succ_cons, List.drop_zero, pairs, List.zipIdx_cons, List.zipIdx_nil, List.map_cons, List.map_nil, Nat.zero_add, Nat.reduceAdd]
    (repeat (first | (refine lex_pure rfl rfl (fun K hK => ?_); go_simp; refine hK _ ?_; clear hK K; try simp (disch := omega) only [IntWalk.i64_in, IntWalk.u8_in, Int.add_sub_cancel, Int.tmod_eq_emod_of_nonneg, Int.tdiv_eq_ediv_of_nonneg]) | (refine lex_load rfl rfl _ (fun m W hJ hF => (by have cc := hcell W hJ; go_simp; rfl)) ?_; try simp (disch := omega) only [IntWalk.i64_in, IntWalk.u8_in, Int.add_sub_cancel, Int.tmod_eq_emod_of_nonneg, Int.tdiv_eq_ediv_of_nonneg]) | (refine lex_sadd rfl rfl rfl rfl rfl (by first | omega | (simp only [ByteArray.size_append]; omega)) ?_; go_simp)))
    refine lex_eff' (sp := fun _ v _ => v = .int .i64 s) rfl rfl (by intro _ _ _ _ h; exact h) (fun m W hJ hF => ?_) (fun v x hh => ?_) rfl
    · refine gives_call Try.call139 ((l10Seq_is _ s HS.out.2.2 W).mono ?_)
      rintro e w' ⟨rfl, rfl⟩
      exact ⟨_, rfl, hJ, LeB.of (Below.refl _ _), rfl⟩
    obtain ⟨_, _, -, rfl, -⟩ := hh
    refine lex_load rfl rfl (.agg (Cn.cells ⟨mac, ip, port, dst, 3, una, nxt, want, inn, out, true⟩)) (fun m W hJ hF => run_exec_load rfl rfl ((hJ.block _ FX.out.2.1).trans FX.out.1) Try.underlying48 rfl infoCn) ?_
    refine lex_eff' (sp := fun _ v _ => v = .int .i64 s) rfl rfl (by intro _ _ _ _ h; exact h) (fun m W hJ hF => ?_) (fun v x hh => ?_) rfl
    · refine gives_call Try.call141 ((l10Sent_ok ⟨mac, ip, port, dst, 3, una, nxt, want, inn, out, true⟩ HS.out.2.1 s HS.out.1 W).mono ?_)
      rintro e w' ⟨rfl, h4⟩
      exact ⟨_, rfl, hJ.step h4, h4, rfl⟩
    obtain ⟨_, _, -, rfl, -⟩ := hh
    (repeat (first | (refine lex_pure rfl rfl (fun K hK => ?_); go_simp; refine hK _ ?_; clear hK K; try simp (disch := omega) only [IntWalk.i64_in, IntWalk.u8_in, Int.add_sub_cancel, Int.tmod_eq_emod_of_nonneg, Int.tdiv_eq_ediv_of_nonneg]) | (refine lex_load rfl rfl _ (fun m W hJ hF => (by have cc := hcell W hJ; go_simp; rfl)) ?_; try simp (disch := omega) only [IntWalk.i64_in, IntWalk.u8_in, Int.add_sub_cancel, Int.tmod_eq_emod_of_nonneg, Int.tdiv_eq_ediv_of_nonneg]) | (refine lex_sadd rfl rfl rfl rfl rfl (by first | omega | (simp only [ByteArray.size_append]; omega)) ?_; go_simp)))
    refine lex_nil (fun m W hJ hF => ?_)
    have HB := Lib.hid (LeB.tr FX.out.2.2 hJ)
    clear hF hJ hcell
    go_wp2_with fail
    go_ret
    exact ⟨rfl, HB.out⟩
  · skip
    clear hb
    go_enter Try.func104, Try.ntmps104
    go_wp2_with fail
    generalize hw0 : World.alloc w (.cells (Cn.cells ⟨mac, ip, port, dst, 4, una, nxt, want, inn, ⟨#[]⟩, false⟩) 48) = wa
    have hblk : wa.heap[World.heap w |>.size]? = some (.cells (Cn.cells ⟨mac, ip, port, dst, 4, una, nxt, want, inn, ⟨#[]⟩, false⟩) 48 (0, 0)) := by rw [← hw0]; exact heap_alloc_new _ _
    have hlt : (World.heap w).size < wa.heap.size := (Array.getElem?_eq_some_iff.1 hblk).1
    have hB0 : Below (World.heap w).size w wa := by rw [← hw0]; exact (Below.refl _ _).alloc (Nat.le_refl _) _
    clear hw0
    have FX := Lib.hid (And.intro hblk (And.intro hlt hB0))
    have c0 := blk_cell hblk 0
    have c1 := blk_cell hblk 1
    have c2 := blk_cell hblk 2
    have c3 := blk_cell hblk 3
    have c4 := blk_cell hblk 4
    have c5 := blk_cell hblk 5
    have c6 := blk_cell hblk 6
    have c7 := blk_cell hblk 7
    have c8 := blk_cell hblk 8
    have c9 := blk_cell hblk 9
    have c10 := blk_cell hblk 10
    simp at c0 c1 c2 c3 c4 c5 c6 c7 c8 c9 c10
    clear hblk hlt hB0
    refine (l01Mac_ok mac _).mono ?_
    rintro e w1 ⟨rfl, rfl⟩
    rw [hm]
    go_wp2_with fail
    refine (l07Ask_ok ip port HK.out.1 HK.out.2.1 _).mono ?_
    rintro e w1 ⟨rfl, rfl⟩
    go_wp2_with fail
    refine (l01Ip_ok dst HK.out.2.2.1 _).mono ?_
    rintro e w1 ⟨rfl, rfl⟩
    go_wp2_with fail
    refine (l01In_ok _ 1 4 _).mono ?_
    rintro e w1 ⟨rfl, rfl⟩
    go_wp2_with fail
    refine (l01Ip_ok una HK.out.2.2.2.1 _).mono ?_
    rintro e w1 ⟨rfl, rfl⟩
    go_wp2_with fail
    refine (l01Ip_ok nxt HK.out.2.2.2.2.1 _).mono ?_
    rintro e w1 ⟨rfl, rfl⟩
    go_wp2_with fail
    refine (l01Ip_ok want HK.out.2.2.2.2.2 _).mono ?_
    rintro e w1 ⟨rfl, rfl⟩
    go_wp2_with fail
    have g6 := g5.out.1
    have g7 := g5.out.2
    have hcell : ∀ W, Below wa.heap.size wa W → W.cell? ⟨w.heap.size, 6, none⟩ = some (.int .i64 nxt) ∧ W.cell? ⟨w.heap.size, 5, none⟩ = some (.int .i64 una) := fun W hW => ⟨blk_cell ((hW.block _ FX.out.2.1).trans FX.out.1) 6, blk_cell ((hW.block _ FX.out.2.1).trans FX.out.1) 5⟩
    refine wp_region_lex 9 (by kernel_rfl) (by kernel_rfl) (JB wa) LeB (qphi [(5, .int .i64 s), (7, .int .i64 s)]) qphi_st JB.mono ?_ ?_
    · exact (Below.refl _ _).drew
    simp only [List.take_succ_cons, List.take_zero, List.drop_succ_cons, List.drop_zero, pairs, List.zipIdx_cons, List.zipIdx_nil, List.map_cons, List.map_nil, Nat.zero_add, Nat.reduceAdd]
    (repeat (first | (refine lex_pure rfl rfl (fun K hK => ?_); go_simp; refine hK _ ?_; clear hK K; try simp (disch := omega) only [IntWalk.i64_in, IntWalk.u8_in, Int.add_sub_cancel, Int.tmod_eq_emod_of_nonneg, Int.tdiv_eq_ediv_of_nonneg]) | (refine lex_load rfl rfl _ (fun m W hJ hF => (by have cc := hcell W hJ; go_simp; rfl)) ?_; try simp (disch := omega) only [IntWalk.i64_in, IntWalk.u8_in, Int.add_sub_cancel, Int.tmod_eq_emod_of_nonneg, Int.tdiv_eq_ediv_of_nonneg]) | (refine lex_sadd rfl rfl rfl rfl rfl (by first | omega | (simp only [ByteArray.size_append]; omega)) ?_; go_simp)))
    refine lex_eff' (sp := fun _ v _ => v = .int .i64 s) rfl rfl (by intro _ _ _ _ h; exact h) (fun m W hJ hF => ?_) (fun v x hh => ?_) rfl
    · refine gives_call Try.call139 ((l10Seq_is _ s HS.out.2.2 W).mono ?_)
      rintro e w' ⟨rfl, rfl⟩
      exact ⟨_, rfl, hJ, LeB.of (Below.refl _ _), rfl⟩
    obtain ⟨_, _, -, rfl, -⟩ := hh
    refine lex_load rfl rfl (.agg (Cn.cells ⟨mac, ip, port, dst, 4, una, nxt, want, inn, ⟨#[]⟩, false⟩)) (fun m W hJ hF => run_exec_load rfl rfl ((hJ.block _ FX.out.2.1).trans FX.out.1) Try.underlying48 rfl infoCn) ?_
    refine lex_eff' (sp := fun _ v _ => v = .int .i64 s) rfl rfl (by intro _ _ _ _ h; exact h) (fun m W hJ hF => ?_) (fun v x hh => ?_) rfl
    · refine gives_call Try.call141 ((l10Sent_ok ⟨mac, ip, port, dst, 4, una, nxt, want, inn, ⟨#[]⟩, false⟩ HS.out.2.1 s HS.out.1 W).mono ?_)
      rintro e w' ⟨rfl, h4⟩
      exact ⟨_, rfl, hJ.step h4, h4, rfl⟩
    obtain ⟨_, _, -, rfl, -⟩ := hh
    (repeat (first | (refine lex_pure rfl rfl (fun K hK => ?_); go_simp; refine hK _ ?_; clear hK K; try simp (disch := omega) only [IntWalk.i64_in, IntWalk.u8_in, Int.add_sub_cancel, Int.tmod_eq_emod_of_nonneg, Int.tdiv_eq_ediv_of_nonneg]) | (refine lex_load rfl rfl _ (fun m W hJ hF => (by have cc := hcell W hJ; go_simp; rfl)) ?_; try simp (disch := omega) only [IntWalk.i64_in, IntWalk.u8_in, Int.add_sub_cancel, Int.tmod_eq_emod_of_nonneg, Int.tdiv_eq_ediv_of_nonneg]) | (refine lex_sadd rfl rfl rfl rfl rfl (by first | omega | (simp only [ByteArray.size_append]; omega)) ?_; go_simp)))
    refine lex_nil (fun m W hJ hF => ?_)
    have HB := Lib.hid (LeB.tr FX.out.2.2 hJ)
    clear hF hJ hcell
    go_wp2_with fail
    go_ret
    exact ⟨rfl, HB.out⟩
end Go.Proofs.Ytdenjmdngmmodaa
namespace Go.Proofs.Ytdenjmdngmmodaa
open Go.RowKit
set_option linter.unusedVariables false
set_option linter.unusedSimpArgs false
set_option maxRecDepth 200000
set_option maxHeartbeats 4000000

theorem SgL_empty {B g : Nat} {w : World} (h1 : B ≤ g) (h2 : g < w.heap.size) : SgL B [] (.slice (some ⟨g, 0, none⟩) 0 0) w := ⟨some ⟨g, 0, none⟩, 0, rfl, Nat.le_refl _, Rd.nil, fun ad e => by cases e; exact ⟨h1, h2⟩⟩
theorem CtR.retE {w0 w : World} {b r gs eb : Nat} {c : Cn} {g : Sg} (h : CtR w0 w b c gs g r) (h1 : w0.heap.size ≤ eb) (h2 : eb < w.heap.size) (x : Cn × List Sg) (hx : x = (c, [])) (N : Array Value) (hN : N = c.cells) : CsRet w0 x (.returned (.tuple #[.agg N, .slice (some ⟨eb, 0, none⟩) 0 0])) (w.setRow r N) := by
  subst hx hN
  exact ⟨_, rfl, SgL_empty h1 (by simpa [World.setRow] using h2), below_setRow h.bl h.hr _⟩
theorem cs_gone (c : Cn) (g : Sg) (h4 : c.st = 4) (x : Cn × List Sg) (hx : takeC c g = x) (w : World) :
    Calls Try.prog 106 #[.agg c.cells, .agg g.cells] w (CsRet w x) := by
  have h4I : (c.st : Int) = 4 := by omega
  have HR := Lib.hid (show x = (c, []) by rw [← hx, takeC, if_pos h4])
  have H4 := Lib.hid h4
  clear h4 hx
  go_enter Try.func106, Try.ntmps106
  go_upto_region 2 with (fail)
  generalize hw0 : World.alloc w (.cells c.cells 48) = wa
  have hblk : wa.heap[World.heap w |>.size]? = some (.cells c.cells 48 (0, 0)) := by rw [← hw0]; exact heap_alloc_new _ _
  have hlt : (World.heap w).size < wa.heap.size := (Array.getElem?_eq_some_iff.1 hblk).1
  have hB0 : Below (World.heap w).size w wa := by rw [← hw0]; exact (Below.refl _ _).alloc (Nat.le_refl _) _
  have hsz : (World.heap wa).size = (World.heap w).size + 1 := by rw [← hw0]; simp
  clear hw0
  rw [← hsz]
  have X1 := And.intro hblk (And.intro hlt hB0)
  clear hblk hlt hB0 hsz
  generalize hw0 : World.alloc wa (.cells g.cells 55) = wb
  have hblk : wb.heap[World.heap wa |>.size]? = some (.cells g.cells 55 (0, 0)) := by rw [← hw0]; exact heap_alloc_new _ _
  have hlt : (World.heap wa).size < wb.heap.size := (Array.getElem?_eq_some_iff.1 hblk).1
  have hB0 : Below (World.heap wa).size wa wb := by rw [← hw0]; exact (Below.refl _ _).alloc (Nat.le_refl _) _
  have hsz : (World.heap wb).size = (World.heap wa).size + 1 := by rw [← hw0]; simp
  clear hw0
  rw [← hsz]
  have X2 := And.intro hblk (And.intro hlt hB0)
  clear hblk hlt hB0 hsz
  generalize hw0 : World.alloc wb (.cells #[.string ⟨#[]⟩, .int .i64 0, .int .i64 0, .int .i64 0, .int .i64 0, .int .i64 0, .int .i64 0, .int .i64 0, .string ⟨#[]⟩, .string ⟨#[]⟩, .bool false] 48) = wc
  have hblk : wc.heap[World.heap wb |>.size]? = some (.cells #[.string ⟨#[]⟩, .int .i64 0, .int .i64 0, .int .i64 0, .int .i64 0, .int .i64 0, .int .i64 0, .int .i64 0, .string ⟨#[]⟩, .string ⟨#[]⟩, .bool false] 48 (0, 0)) := by rw [← hw0]; exact heap_alloc_new _ _
  have hlt : (World.heap wb).size < wc.heap.size := (Array.getElem?_eq_some_iff.1 hblk).1
  have hB0 : Below (World.heap wb).size wb wc := by rw [← hw0]; exact (Below.refl _ _).alloc (Nat.le_refl _) _
  have hsz : (World.heap wc).size = (World.heap wb).size + 1 := by rw [← hw0]; simp
  clear hw0
  rw [← hsz]
  have X3 := And.intro hblk (And.intro hlt hB0)
  clear hblk hlt hB0 hsz
  generalize hw0 : World.alloc wc (.cells #[] 55) = wd
  have hblk : wd.heap[World.heap wc |>.size]? = some (.cells #[] 55 (0, 0)) := by rw [← hw0]; exact heap_alloc_new _ _
  have hlt : (World.heap wc).size < wd.heap.size := (Array.getElem?_eq_some_iff.1 hblk).1
  have hB0 : Below (World.heap wc).size wc wd := by rw [← hw0]; exact (Below.refl _ _).alloc (Nat.le_refl _) _
  clear hw0
  have L2 : LeB wb wd := LeB.tr X3.2.2 hB0
  have L1 : LeB wa wd := LeB.tr X2.2.2 L2
  have HX := Lib.hid (CtR.mk (w0 := w) ((L1.block _ X1.2.1).trans X1.1) ((L2.block _ X2.2.1).trans X2.1) ((hB0.block _ X3.2.1).trans X3.1) (LeB.tr X1.2.2 L1) (Nat.le_refl _) (Nat.le_trans X1.2.2.size X2.2.2.size) (Nat.ne_of_gt (Nat.lt_of_lt_of_le X1.2.1 X2.2.2.size)) (Nat.ne_of_gt X1.2.1) (Nat.ne_of_lt X2.2.1))
  have HE := Lib.hid (And.intro (Nat.le_trans X1.2.2.size (Nat.le_trans X2.2.2.size X3.2.2.size)) hlt)
  clear X1 X2 X3 hblk hlt hB0 L1 L2
  have c0 := blk_cell HX.out.cn 0
  have c1 := blk_cell HX.out.cn 1
  have c2 := blk_cell HX.out.cn 2
  have c3 := blk_cell HX.out.cn 3
  have c4 := blk_cell HX.out.cn 4
  have c5 := blk_cell HX.out.cn 5
  have c6 := blk_cell HX.out.cn 6
  have c7 := blk_cell HX.out.cn 7
  have c8 := blk_cell HX.out.cn 8
  have c9 := blk_cell HX.out.cn 9
  have c10 := blk_cell HX.out.cn 10
  simp at c0 c1 c2 c3 c4 c5 c6 c7 c8 c9 c10
  have cf0 := blk_free HX.out.cn 0
  have cf1 := blk_free HX.out.cn 1
  have cf2 := blk_free HX.out.cn 2
  have cf3 := blk_free HX.out.cn 3
  have cf4 := blk_free HX.out.cn 4
  have cf5 := blk_free HX.out.cn 5
  have cf6 := blk_free HX.out.cn 6
  have cf7 := blk_free HX.out.cn 7
  have cf8 := blk_free HX.out.cn 8
  have cf9 := blk_free HX.out.cn 9
  have cf10 := blk_free HX.out.cn 10
  have d0 := blk_cell HX.out.sg 0
  have d1 := blk_cell HX.out.sg 1
  have d2 := blk_cell HX.out.sg 2
  have d3 := blk_cell HX.out.sg 3
  have d4 := blk_cell HX.out.sg 4
  have d5 := blk_cell HX.out.sg 5
  have d6 := blk_cell HX.out.sg 6
  simp at d0 d1 d2 d3 d4 d5 d6
  go_wp2_with (refine wpList_store_row rfl _ _ 48 rfl wb.heap.size 48 _ _ rfl rfl HX.out.rs rfl infoCn rfl ?_)
  refine bodyPost_ret (ret_cell_tmp rfl rfl (setRow_heap _ _ _ _ _ _ HX.out.rs) Try.underlying48 rfl infoCn) rfl ?_
  exact HX.out.retE HE.out.1 HE.out.2 _ HR.out _ (by simp [H4.out])
theorem cs_rst (c : Cn) (g : Sg) (h4 : ¬ c.st = 4) (b4 : bits .and .i64 (g.flags : Int) 4 = 4) (n4 : Nat.land g.flags 4 = 4) (x : Cn × List Sg) (hx : takeC c g = x) (w : World) :
    Calls Try.prog 106 #[.agg c.cells, .agg g.cells] w (CsRet w x) := by
  have h4I : ((c.st : Int) == 4) = false := by simp; omega
  by_cases hs : g.seq = c.want
  · have hsI : (g.seq : Int) = c.want := by omega
    have HR := Lib.hid (show x = ({ c with st := 4, inn := ⟨#[]⟩, out := ⟨#[]⟩, fin := false, una := c.nxt }, []) by rw [← hx, takeC, if_neg h4, if_pos (by rw [n4]; decide), if_pos hs])
    clear h4 hx n4 hs
    go_enter Try.func106, Try.ntmps106
    go_upto_region 2 with (fail)
    generalize hw0 : World.alloc w (.cells c.cells 48) = wa
    have hblk : wa.heap[World.heap w |>.size]? = some (.cells c.cells 48 (0, 0)) := by rw [← hw0]; exact heap_alloc_new _ _
    have hlt : (World.heap w).size < wa.heap.size := (Array.getElem?_eq_some_iff.1 hblk).1
    have hB0 : Below (World.heap w).size w wa := by rw [← hw0]; exact (Below.refl _ _).alloc (Nat.le_refl _) _
    have hsz : (World.heap wa).size = (World.heap w).size + 1 := by rw [← hw0]; simp
    clear hw0
    rw [← hsz]
    have X1 := And.intro hblk (And.intro hlt hB0)
    clear hblk hlt hB0 hsz
    generalize hw0 : World.alloc wa (.cells g.cells 55) = wb
    have hblk : wb.heap[World.heap wa |>.size]? = some (.cells g.cells 55 (0, 0)) := by rw [← hw0]; exact heap_alloc_new _ _
    have hlt : (World.heap wa).size < wb.heap.size := (Array.getElem?_eq_some_iff.1 hblk).1
    have hB0 : Below (World.heap wa).size wa wb := by rw [← hw0]; exact (Below.refl _ _).alloc (Nat.le_refl _) _
    have hsz : (World.heap wb).size = (World.heap wa).size + 1 := by rw [← hw0]; simp
    clear hw0
    rw [← hsz]
    have X2 := And.intro hblk (And.intro hlt hB0)
    clear hblk hlt hB0 hsz
    generalize hw0 : World.alloc wb (.cells #[.string ⟨#[]⟩, .int .i64 0, .int .i64 0, .int .i64 0, .int .i64 0, .int .i64 0, .int .i64 0, .int .i64 0, .string ⟨#[]⟩, .string ⟨#[]⟩, .bool false] 48) = wc
    have hblk : wc.heap[World.heap wb |>.size]? = some (.cells #[.string ⟨#[]⟩, .int .i64 0, .int .i64 0, .int .i64 0, .int .i64 0, .int .i64 0, .int .i64 0, .int .i64 0, .string ⟨#[]⟩, .string ⟨#[]⟩, .bool false] 48 (0, 0)) := by rw [← hw0]; exact heap_alloc_new _ _
    have hlt : (World.heap wb).size < wc.heap.size := (Array.getElem?_eq_some_iff.1 hblk).1
    have hB0 : Below (World.heap wb).size wb wc := by rw [← hw0]; exact (Below.refl _ _).alloc (Nat.le_refl _) _
    have hsz : (World.heap wc).size = (World.heap wb).size + 1 := by rw [← hw0]; simp
    clear hw0
    rw [← hsz]
    have X3 := And.intro hblk (And.intro hlt hB0)
    clear hblk hlt hB0 hsz
    generalize hw0 : World.alloc wc (.cells #[] 55) = wd
    have hblk : wd.heap[World.heap wc |>.size]? = some (.cells #[] 55 (0, 0)) := by rw [← hw0]; exact heap_alloc_new _ _
    have hlt : (World.heap wc).size < wd.heap.size := (Array.getElem?_eq_some_iff.1 hblk).1
    have hB0 : Below (World.heap wc).size wc wd := by rw [← hw0]; exact (Below.refl _ _).alloc (Nat.le_refl _) _
    clear hw0
    have L2 : LeB wb wd := LeB.tr X3.2.2 hB0
    have L1 : LeB wa wd := LeB.tr X2.2.2 L2
    have HX := Lib.hid (CtR.mk (w0 := w) ((L1.block _ X1.2.1).trans X1.1) ((L2.block _ X2.2.1).trans X2.1) ((hB0.block _ X3.2.1).trans X3.1) (LeB.tr X1.2.2 L1) (Nat.le_refl _) (Nat.le_trans X1.2.2.size X2.2.2.size) (Nat.ne_of_gt (Nat.lt_of_lt_of_le X1.2.1 X2.2.2.size)) (Nat.ne_of_gt X1.2.1) (Nat.ne_of_lt X2.2.1))
    have HE := Lib.hid (And.intro (Nat.le_trans X1.2.2.size (Nat.le_trans X2.2.2.size X3.2.2.size)) hlt)
    clear X1 X2 X3 hblk hlt hB0 L1 L2
    have c0 := blk_cell HX.out.cn 0
    have c1 := blk_cell HX.out.cn 1
    have c2 := blk_cell HX.out.cn 2
    have c3 := blk_cell HX.out.cn 3
    have c4 := blk_cell HX.out.cn 4
    have c5 := blk_cell HX.out.cn 5
    have c6 := blk_cell HX.out.cn 6
    have c7 := blk_cell HX.out.cn 7
    have c8 := blk_cell HX.out.cn 8
    have c9 := blk_cell HX.out.cn 9
    have c10 := blk_cell HX.out.cn 10
    simp at c0 c1 c2 c3 c4 c5 c6 c7 c8 c9 c10
    have cf0 := blk_free HX.out.cn 0
    have cf1 := blk_free HX.out.cn 1
    have cf2 := blk_free HX.out.cn 2
    have cf3 := blk_free HX.out.cn 3
    have cf4 := blk_free HX.out.cn 4
    have cf5 := blk_free HX.out.cn 5
    have cf6 := blk_free HX.out.cn 6
    have cf7 := blk_free HX.out.cn 7
    have cf8 := blk_free HX.out.cn 8
    have cf9 := blk_free HX.out.cn 9
    have cf10 := blk_free HX.out.cn 10
    have d0 := blk_cell HX.out.sg 0
    have d1 := blk_cell HX.out.sg 1
    have d2 := blk_cell HX.out.sg 2
    have d3 := blk_cell HX.out.sg 3
    have d4 := blk_cell HX.out.sg 4
    have d5 := blk_cell HX.out.sg 5
    have d6 := blk_cell HX.out.sg 6
    simp at d0 d1 d2 d3 d4 d5 d6
    go_upto_region 11 with (fail)
    obtain ⟨x0, hx0, Y0, z0⟩ := HX.out.put { c with st := 4 } 4 (.int .i64 4) (cells_st c 4)
    obtain ⟨x1, hx1, Y1, z1⟩ := Y0.put { c with st := 4, inn := ⟨#[]⟩ } 8 (.string ⟨#[]⟩) (cells_inn { c with st := 4 } ⟨#[]⟩)
    obtain ⟨x2, hx2, Y2, z2⟩ := Y1.put { c with st := 4, inn := ⟨#[]⟩, out := ⟨#[]⟩ } 9 (.string ⟨#[]⟩) (cells_out { c with st := 4, inn := ⟨#[]⟩ } ⟨#[]⟩)
    obtain ⟨x3, hx3, Y3, z3⟩ := Y2.put { c with st := 4, inn := ⟨#[]⟩, out := ⟨#[]⟩, fin := false } 10 (.bool false) (cells_fin { c with st := 4, inn := ⟨#[]⟩, out := ⟨#[]⟩ } false)
    obtain ⟨x4, hx4, Y4, z4⟩ := Y3.put { c with st := 4, inn := ⟨#[]⟩, out := ⟨#[]⟩, fin := false, una := c.nxt } 5 (.int .i64 c.nxt) (cells_una { c with st := 4, inn := ⟨#[]⟩, out := ⟨#[]⟩, fin := false } c.nxt)
    rw [hx0, hx1, hx2, hx3, hx4]
    clear hx0 hx1 hx2 hx3 hx4 c0 c1 c2 c3 c4 c5 c6 c7 c8 c9 c10 cf0 cf1 cf2 cf3 cf4 cf5 cf6 cf7 cf8 cf9 cf10
    have c0 := blk_cell Y4.cn 0
    have c1 := blk_cell Y4.cn 1
    have c2 := blk_cell Y4.cn 2
    have c3 := blk_cell Y4.cn 3
    have c4 := blk_cell Y4.cn 4
    have c5 := blk_cell Y4.cn 5
    have c6 := blk_cell Y4.cn 6
    have c7 := blk_cell Y4.cn 7
    have c8 := blk_cell Y4.cn 8
    have c9 := blk_cell Y4.cn 9
    have c10 := blk_cell Y4.cn 10
    simp at c0 c1 c2 c3 c4 c5 c6 c7 c8 c9 c10
    have HZ := Lib.hid (And.intro Y4 (show wc.heap.size < x4.heap.size by have := HE.out.2; omega))
    clear Y0 Y1 Y2 Y3 Y4 z0 z1 z2 z3 z4
    go_wp2_with (refine wpList_store_row rfl _ _ 48 rfl wb.heap.size 48 _ _ rfl rfl HZ.out.1.rs rfl infoCn rfl ?_)
    refine bodyPost_ret (ret_cell_tmp rfl rfl (setRow_heap _ _ _ _ _ _ HZ.out.1.rs) Try.underlying48 rfl infoCn) rfl ?_
    exact HZ.out.1.retE HE.out.1 HZ.out.2 _ HR.out _ rfl
  · have hsI : ((g.seq : Int) == c.want) = false := by simp; omega
    have HR := Lib.hid (show x = (c, []) by rw [← hx, takeC, if_neg h4, if_pos (by rw [n4]; decide), if_neg hs])
    clear h4 hx n4 hs
    go_enter Try.func106, Try.ntmps106
    go_upto_region 2 with (fail)
    generalize hw0 : World.alloc w (.cells c.cells 48) = wa
    have hblk : wa.heap[World.heap w |>.size]? = some (.cells c.cells 48 (0, 0)) := by rw [← hw0]; exact heap_alloc_new _ _
    have hlt : (World.heap w).size < wa.heap.size := (Array.getElem?_eq_some_iff.1 hblk).1
    have hB0 : Below (World.heap w).size w wa := by rw [← hw0]; exact (Below.refl _ _).alloc (Nat.le_refl _) _
    have hsz : (World.heap wa).size = (World.heap w).size + 1 := by rw [← hw0]; simp
    clear hw0
    rw [← hsz]
    have X1 := And.intro hblk (And.intro hlt hB0)
    clear hblk hlt hB0 hsz
    generalize hw0 : World.alloc wa (.cells g.cells 55) = wb
    have hblk : wb.heap[World.heap wa |>.size]? = some (.cells g.cells 55 (0, 0)) := by rw [← hw0]; exact heap_alloc_new _ _
    have hlt : (World.heap wa).size < wb.heap.size := (Array.getElem?_eq_some_iff.1 hblk).1
    have hB0 : Below (World.heap wa).size wa wb := by rw [← hw0]; exact (Below.refl _ _).alloc (Nat.le_refl _) _
    have hsz : (World.heap wb).size = (World.heap wa).size + 1 := by rw [← hw0]; simp
    clear hw0
    rw [← hsz]
    have X2 := And.intro hblk (And.intro hlt hB0)
    clear hblk hlt hB0 hsz
    generalize hw0 : World.alloc wb (.cells #[.string ⟨#[]⟩, .int .i64 0, .int .i64 0, .int .i64 0, .int .i64 0, .int .i64 0, .int .i64 0, .int .i64 0, .string ⟨#[]⟩, .string ⟨#[]⟩, .bool false] 48) = wc
    have hblk : wc.heap[World.heap wb |>.size]? = some (.cells #[.string ⟨#[]⟩, .int .i64 0, .int .i64 0, .int .i64 0, .int .i64 0, .int .i64 0, .int .i64 0, .int .i64 0, .string ⟨#[]⟩, .string ⟨#[]⟩, .bool false] 48 (0, 0)) := by rw [← hw0]; exact heap_alloc_new _ _
    have hlt : (World.heap wb).size < wc.heap.size := (Array.getElem?_eq_some_iff.1 hblk).1
    have hB0 : Below (World.heap wb).size wb wc := by rw [← hw0]; exact (Below.refl _ _).alloc (Nat.le_refl _) _
    have hsz : (World.heap wc).size = (World.heap wb).size + 1 := by rw [← hw0]; simp
    clear hw0
    rw [← hsz]
    have X3 := And.intro hblk (And.intro hlt hB0)
    clear hblk hlt hB0 hsz
    generalize hw0 : World.alloc wc (.cells #[] 55) = wd
    have hblk : wd.heap[World.heap wc |>.size]? = some (.cells #[] 55 (0, 0)) := by rw [← hw0]; exact heap_alloc_new _ _
    have hlt : (World.heap wc).size < wd.heap.size := (Array.getElem?_eq_some_iff.1 hblk).1
    have hB0 : Below (World.heap wc).size wc wd := by rw [← hw0]; exact (Below.refl _ _).alloc (Nat.le_refl _) _
    clear hw0
    have L2 : LeB wb wd := LeB.tr X3.2.2 hB0
    have L1 : LeB wa wd := LeB.tr X2.2.2 L2
    have HX := Lib.hid (CtR.mk (w0 := w) ((L1.block _ X1.2.1).trans X1.1) ((L2.block _ X2.2.1).trans X2.1) ((hB0.block _ X3.2.1).trans X3.1) (LeB.tr X1.2.2 L1) (Nat.le_refl _) (Nat.le_trans X1.2.2.size X2.2.2.size) (Nat.ne_of_gt (Nat.lt_of_lt_of_le X1.2.1 X2.2.2.size)) (Nat.ne_of_gt X1.2.1) (Nat.ne_of_lt X2.2.1))
    have HE := Lib.hid (And.intro (Nat.le_trans X1.2.2.size (Nat.le_trans X2.2.2.size X3.2.2.size)) hlt)
    clear X1 X2 X3 hblk hlt hB0 L1 L2
    have c0 := blk_cell HX.out.cn 0
    have c1 := blk_cell HX.out.cn 1
    have c2 := blk_cell HX.out.cn 2
    have c3 := blk_cell HX.out.cn 3
    have c4 := blk_cell HX.out.cn 4
    have c5 := blk_cell HX.out.cn 5
    have c6 := blk_cell HX.out.cn 6
    have c7 := blk_cell HX.out.cn 7
    have c8 := blk_cell HX.out.cn 8
    have c9 := blk_cell HX.out.cn 9
    have c10 := blk_cell HX.out.cn 10
    simp at c0 c1 c2 c3 c4 c5 c6 c7 c8 c9 c10
    have cf0 := blk_free HX.out.cn 0
    have cf1 := blk_free HX.out.cn 1
    have cf2 := blk_free HX.out.cn 2
    have cf3 := blk_free HX.out.cn 3
    have cf4 := blk_free HX.out.cn 4
    have cf5 := blk_free HX.out.cn 5
    have cf6 := blk_free HX.out.cn 6
    have cf7 := blk_free HX.out.cn 7
    have cf8 := blk_free HX.out.cn 8
    have cf9 := blk_free HX.out.cn 9
    have cf10 := blk_free HX.out.cn 10
    have d0 := blk_cell HX.out.sg 0
    have d1 := blk_cell HX.out.sg 1
    have d2 := blk_cell HX.out.sg 2
    have d3 := blk_cell HX.out.sg 3
    have d4 := blk_cell HX.out.sg 4
    have d5 := blk_cell HX.out.sg 5
    have d6 := blk_cell HX.out.sg 6
    simp at d0 d1 d2 d3 d4 d5 d6
    go_wp2_with (refine wpList_store_row rfl _ _ 48 rfl wb.heap.size 48 _ _ rfl rfl HX.out.rs rfl infoCn rfl ?_)
    refine bodyPost_ret (ret_cell_tmp rfl rfl (setRow_heap _ _ _ _ _ _ HX.out.rs) Try.underlying48 rfl infoCn) rfl ?_
    exact HX.out.retE HE.out.1 HE.out.2 _ HR.out _ rfl
theorem cs_noack (c : Cn) (g : Sg) (h4 : ¬ c.st = 4) (b4 : bits .and .i64 (g.flags : Int) 4 = 0) (n4 : Nat.land g.flags 4 = 0) (b2 : bits .and .i64 (g.flags : Int) 2 = 0) (n2 : Nat.land g.flags 2 = 0) (b16 : bits .and .i64 (g.flags : Int) 16 = 0) (n16 : Nat.land g.flags 16 = 0) (x : Cn × List Sg) (hx : takeC c g = x) (w : World) :
    Calls Try.prog 106 #[.agg c.cells, .agg g.cells] w (CsRet w x) := by
  have h4I : ((c.st : Int) == 4) = false := by simp; omega
  have HR := Lib.hid (show x = (c, []) by rw [← hx, takeC, if_neg h4, if_neg (by rw [n4]; decide), if_neg (by rw [n2]; decide), if_pos n16])
  clear h4 hx n4 n2 n16
  go_enter Try.func106, Try.ntmps106
  go_upto_region 2 with (fail)
  generalize hw0 : World.alloc w (.cells c.cells 48) = wa
  have hblk : wa.heap[World.heap w |>.size]? = some (.cells c.cells 48 (0, 0)) := by rw [← hw0]; exact heap_alloc_new _ _
  have hlt : (World.heap w).size < wa.heap.size := (Array.getElem?_eq_some_iff.1 hblk).1
  have hB0 : Below (World.heap w).size w wa := by rw [← hw0]; exact (Below.refl _ _).alloc (Nat.le_refl _) _
  have hsz : (World.heap wa).size = (World.heap w).size + 1 := by rw [← hw0]; simp
  clear hw0
  rw [← hsz]
  have X1 := And.intro hblk (And.intro hlt hB0)
  clear hblk hlt hB0 hsz
  generalize hw0 : World.alloc wa (.cells g.cells 55) = wb
  have hblk : wb.heap[World.heap wa |>.size]? = some (.cells g.cells 55 (0, 0)) := by rw [← hw0]; exact heap_alloc_new _ _
  have hlt : (World.heap wa).size < wb.heap.size := (Array.getElem?_eq_some_iff.1 hblk).1
  have hB0 : Below (World.heap wa).size wa wb := by rw [← hw0]; exact (Below.refl _ _).alloc (Nat.le_refl _) _
  have hsz : (World.heap wb).size = (World.heap wa).size + 1 := by rw [← hw0]; simp
  clear hw0
  rw [← hsz]
  have X2 := And.intro hblk (And.intro hlt hB0)
  clear hblk hlt hB0 hsz
  generalize hw0 : World.alloc wb (.cells #[.string ⟨#[]⟩, .int .i64 0, .int .i64 0, .int .i64 0, .int .i64 0, .int .i64 0, .int .i64 0, .int .i64 0, .string ⟨#[]⟩, .string ⟨#[]⟩, .bool false] 48) = wc
  have hblk : wc.heap[World.heap wb |>.size]? = some (.cells #[.string ⟨#[]⟩, .int .i64 0, .int .i64 0, .int .i64 0, .int .i64 0, .int .i64 0, .int .i64 0, .int .i64 0, .string ⟨#[]⟩, .string ⟨#[]⟩, .bool false] 48 (0, 0)) := by rw [← hw0]; exact heap_alloc_new _ _
  have hlt : (World.heap wb).size < wc.heap.size := (Array.getElem?_eq_some_iff.1 hblk).1
  have hB0 : Below (World.heap wb).size wb wc := by rw [← hw0]; exact (Below.refl _ _).alloc (Nat.le_refl _) _
  have hsz : (World.heap wc).size = (World.heap wb).size + 1 := by rw [← hw0]; simp
  clear hw0
  rw [← hsz]
  have X3 := And.intro hblk (And.intro hlt hB0)
  clear hblk hlt hB0 hsz
  generalize hw0 : World.alloc wc (.cells #[] 55) = wd
  have hblk : wd.heap[World.heap wc |>.size]? = some (.cells #[] 55 (0, 0)) := by rw [← hw0]; exact heap_alloc_new _ _
  have hlt : (World.heap wc).size < wd.heap.size := (Array.getElem?_eq_some_iff.1 hblk).1
  have hB0 : Below (World.heap wc).size wc wd := by rw [← hw0]; exact (Below.refl _ _).alloc (Nat.le_refl _) _
  clear hw0
  have L2 : LeB wb wd := LeB.tr X3.2.2 hB0
  have L1 : LeB wa wd := LeB.tr X2.2.2 L2
  have HX := Lib.hid (CtR.mk (w0 := w) ((L1.block _ X1.2.1).trans X1.1) ((L2.block _ X2.2.1).trans X2.1) ((hB0.block _ X3.2.1).trans X3.1) (LeB.tr X1.2.2 L1) (Nat.le_refl _) (Nat.le_trans X1.2.2.size X2.2.2.size) (Nat.ne_of_gt (Nat.lt_of_lt_of_le X1.2.1 X2.2.2.size)) (Nat.ne_of_gt X1.2.1) (Nat.ne_of_lt X2.2.1))
  have HE := Lib.hid (And.intro (Nat.le_trans X1.2.2.size (Nat.le_trans X2.2.2.size X3.2.2.size)) hlt)
  clear X1 X2 X3 hblk hlt hB0 L1 L2
  have c0 := blk_cell HX.out.cn 0
  have c1 := blk_cell HX.out.cn 1
  have c2 := blk_cell HX.out.cn 2
  have c3 := blk_cell HX.out.cn 3
  have c4 := blk_cell HX.out.cn 4
  have c5 := blk_cell HX.out.cn 5
  have c6 := blk_cell HX.out.cn 6
  have c7 := blk_cell HX.out.cn 7
  have c8 := blk_cell HX.out.cn 8
  have c9 := blk_cell HX.out.cn 9
  have c10 := blk_cell HX.out.cn 10
  simp at c0 c1 c2 c3 c4 c5 c6 c7 c8 c9 c10
  have cf0 := blk_free HX.out.cn 0
  have cf1 := blk_free HX.out.cn 1
  have cf2 := blk_free HX.out.cn 2
  have cf3 := blk_free HX.out.cn 3
  have cf4 := blk_free HX.out.cn 4
  have cf5 := blk_free HX.out.cn 5
  have cf6 := blk_free HX.out.cn 6
  have cf7 := blk_free HX.out.cn 7
  have cf8 := blk_free HX.out.cn 8
  have cf9 := blk_free HX.out.cn 9
  have cf10 := blk_free HX.out.cn 10
  have d0 := blk_cell HX.out.sg 0
  have d1 := blk_cell HX.out.sg 1
  have d2 := blk_cell HX.out.sg 2
  have d3 := blk_cell HX.out.sg 3
  have d4 := blk_cell HX.out.sg 4
  have d5 := blk_cell HX.out.sg 5
  have d6 := blk_cell HX.out.sg 6
  simp at d0 d1 d2 d3 d4 d5 d6
  go_wp2_with (refine wpList_store_row rfl _ _ 48 rfl wb.heap.size 48 _ _ rfl rfl HX.out.rs rfl infoCn rfl ?_)
  refine bodyPost_ret (ret_cell_tmp rfl rfl (setRow_heap _ _ _ _ _ _ HX.out.rs) Try.underlying48 rfl infoCn) rfl ?_
  exact HX.out.retE HE.out.1 HE.out.2 _ HR.out _ rfl
end Go.Proofs.Ytdenjmdngmmodaa
namespace Go.Proofs.Ytdenjmdngmmodaa
open Go.RowKit
set_option linter.unusedVariables false
set_option linter.unusedSimpArgs false
set_option maxRecDepth 200000
set_option maxHeartbeats 4000000

theorem cs_syn (c : Cn) (g : Sg) (hc : CnOK c) (hg : g.seq < 4294967296) (h4 : ¬ c.st = 4) (b4 : bits .and .i64 (g.flags : Int) 4 = 0) (n4 : Nat.land g.flags 4 = 0) (b2 : bits .and .i64 (g.flags : Int) 2 = 2) (n2 : Nat.land g.flags 2 = 2) (x : Cn × List Sg) (hx : takeC c g = x) (w : World) :
    Calls Try.prog 106 #[.agg c.cells, .agg g.cells] w (CsRet w x) := by
  have h4I : ((c.st : Int) == 4) = false := by simp; omega
  obtain ⟨t, ht⟩ : ∃ t, onw g.seq 1 = t := ⟨_, rfl⟩
  have hseqI : (g.seq : Int) < 4294967296 := by omega
  have e1 : bits .and .i64 ((g.seq : Int) + 1) 4294967295 = (t : Int) := and_onw g.seq 1 t hg (by omega) ht
  have HE1 := Lib.hid e1
  by_cases hs : c.st = 1 ∧ c.want = t
  · have HR : Hid (x = (c, [⟨80, c.port, c.una, c.want, 18, 1000, ⟨#[]⟩⟩])) := Lib.hid (by rw [← hx, takeC, if_neg h4, if_neg (by rw [n4]; decide), if_pos (by rw [n2]; decide), if_pos (by rw [ht]; exact hs)])
    obtain ⟨hs1, hs2⟩ := hs
    have hs1I : (c.st : Int) = 1 := by omega
    have hs2I : (t : Int) = c.want := by omega
    have HS1 := Lib.hid hs1
    clear h4 hx n4 n2 hs1 hs2 e1 ht
    go_enter Try.func106, Try.ntmps106
    go_upto_region 2 with (fail)
    generalize hw0 : World.alloc w (.cells c.cells 48) = wa
    have hblk : wa.heap[World.heap w |>.size]? = some (.cells c.cells 48 (0, 0)) := by rw [← hw0]; exact heap_alloc_new _ _
    have hlt : (World.heap w).size < wa.heap.size := (Array.getElem?_eq_some_iff.1 hblk).1
    have hB0 : Below (World.heap w).size w wa := by rw [← hw0]; exact (Below.refl _ _).alloc (Nat.le_refl _) _
    have hsz : (World.heap wa).size = (World.heap w).size + 1 := by rw [← hw0]; simp
    clear hw0
    rw [← hsz]
    have X1 := And.intro hblk (And.intro hlt hB0)
    clear hblk hlt hB0 hsz
    generalize hw0 : World.alloc wa (.cells g.cells 55) = wb
    have hblk : wb.heap[World.heap wa |>.size]? = some (.cells g.cells 55 (0, 0)) := by rw [← hw0]; exact heap_alloc_new _ _
    have hlt : (World.heap wa).size < wb.heap.size := (Array.getElem?_eq_some_iff.1 hblk).1
    have hB0 : Below (World.heap wa).size wa wb := by rw [← hw0]; exact (Below.refl _ _).alloc (Nat.le_refl _) _
    have hsz : (World.heap wb).size = (World.heap wa).size + 1 := by rw [← hw0]; simp
    clear hw0
    rw [← hsz]
    have X2 := And.intro hblk (And.intro hlt hB0)
    clear hblk hlt hB0 hsz
    generalize hw0 : World.alloc wb (.cells #[.string ⟨#[]⟩, .int .i64 0, .int .i64 0, .int .i64 0, .int .i64 0, .int .i64 0, .int .i64 0, .int .i64 0, .string ⟨#[]⟩, .string ⟨#[]⟩, .bool false] 48) = wc
    have hblk : wc.heap[World.heap wb |>.size]? = some (.cells #[.string ⟨#[]⟩, .int .i64 0, .int .i64 0, .int .i64 0, .int .i64 0, .int .i64 0, .int .i64 0, .int .i64 0, .string ⟨#[]⟩, .string ⟨#[]⟩, .bool false] 48 (0, 0)) := by rw [← hw0]; exact heap_alloc_new _ _
    have hlt : (World.heap wb).size < wc.heap.size := (Array.getElem?_eq_some_iff.1 hblk).1
    have hB0 : Below (World.heap wb).size wb wc := by rw [← hw0]; exact (Below.refl _ _).alloc (Nat.le_refl _) _
    have hsz : (World.heap wc).size = (World.heap wb).size + 1 := by rw [← hw0]; simp
    clear hw0
    rw [← hsz]
    have X3 := And.intro hblk (And.intro hlt hB0)
    clear hblk hlt hB0 hsz
    generalize hw0 : World.alloc wc (.cells #[] 55) = wd
    have hblk : wd.heap[World.heap wc |>.size]? = some (.cells #[] 55 (0, 0)) := by rw [← hw0]; exact heap_alloc_new _ _
    have hlt : (World.heap wc).size < wd.heap.size := (Array.getElem?_eq_some_iff.1 hblk).1
    have hB0 : Below (World.heap wc).size wc wd := by rw [← hw0]; exact (Below.refl _ _).alloc (Nat.le_refl _) _
    clear hw0
    have L2 : LeB wb wd := LeB.tr X3.2.2 hB0
    have L1 : LeB wa wd := LeB.tr X2.2.2 L2
    have HX := Lib.hid (CtR.mk (w0 := w) ((L1.block _ X1.2.1).trans X1.1) ((L2.block _ X2.2.1).trans X2.1) ((hB0.block _ X3.2.1).trans X3.1) (LeB.tr X1.2.2 L1) (Nat.le_refl _) (Nat.le_trans X1.2.2.size X2.2.2.size) (Nat.ne_of_gt (Nat.lt_of_lt_of_le X1.2.1 X2.2.2.size)) (Nat.ne_of_gt X1.2.1) (Nat.ne_of_lt X2.2.1))
    have HE := Lib.hid (And.intro (Nat.le_trans X1.2.2.size (Nat.le_trans X2.2.2.size X3.2.2.size)) hlt)
    clear X1 X2 X3 hblk hlt hB0 L1 L2
    have c0 := blk_cell HX.out.cn 0
    have c1 := blk_cell HX.out.cn 1
    have c2 := blk_cell HX.out.cn 2
    have c3 := blk_cell HX.out.cn 3
    have c4 := blk_cell HX.out.cn 4
    have c5 := blk_cell HX.out.cn 5
    have c6 := blk_cell HX.out.cn 6
    have c7 := blk_cell HX.out.cn 7
    have c8 := blk_cell HX.out.cn 8
    have c9 := blk_cell HX.out.cn 9
    have c10 := blk_cell HX.out.cn 10
    simp at c0 c1 c2 c3 c4 c5 c6 c7 c8 c9 c10
    have cf0 := blk_free HX.out.cn 0
    have cf1 := blk_free HX.out.cn 1
    have cf2 := blk_free HX.out.cn 2
    have cf3 := blk_free HX.out.cn 3
    have cf4 := blk_free HX.out.cn 4
    have cf5 := blk_free HX.out.cn 5
    have cf6 := blk_free HX.out.cn 6
    have cf7 := blk_free HX.out.cn 7
    have cf8 := blk_free HX.out.cn 8
    have cf9 := blk_free HX.out.cn 9
    have cf10 := blk_free HX.out.cn 10
    have d0 := blk_cell HX.out.sg 0
    have d1 := blk_cell HX.out.sg 1
    have d2 := blk_cell HX.out.sg 2
    have d3 := blk_cell HX.out.sg 3
    have d4 := blk_cell HX.out.sg 4
    have d5 := blk_cell HX.out.sg 5
    have d6 := blk_cell HX.out.sg 6
    simp at d0 d1 d2 d3 d4 d5 d6
    go_wp2_with fail
    go_quiet ((exact qs (l10Seq_is _ t HE1.out _)))
    go_wp2_with fail
    have HW := Lib.hid (HX.out.drewN nq)
    clear c0 c1 c2 c3 c4 c5 c6 c7 c8 c9 c10 cf0 cf1 cf2 cf3 cf4 cf5 cf6 cf7 cf8 cf9 cf10 d0 d1 d2 d3 d4 d5 d6
    obtain ⟨wr, hwr⟩ : ∃ x, wd.drewN nq = x := ⟨_, rfl⟩
    rw [hwr] at HW ⊢
    clear hwr
    have hblc := (Array.getElem?_eq_some_iff.1 HW.out.cn).1
    have hblr := (Array.getElem?_eq_some_iff.1 HW.out.rs).1
    have hcb : ∀ m W, JQ wr wb.heap.size (Cn.cells c) m W → W.heap[w.heap.size]? = some (.cells (Cn.cells c) 48 (0, 0)) := fun m W hJ => (hJ.1.block _ hblc (by intro e; injection e with e; exact HW.out.ne e.symm)).trans HW.out.cn
    refine wp_region_lex 8 (by kernel_rfl) (by kernel_rfl) (JQ wr wb.heap.size (Cn.cells c)) (LeQ wb.heap.size (Cn.cells c)) (csφ wr.heap.size wb.heap.size (Cn.cells c) ⟨80, c.port, c.una, c.want, 18, 1000, ⟨#[]⟩⟩) csφ_st JQ.mono ?_ ?_
    · exact ⟨grownBy_of_below ((Below.refl _ _).drew) _, .inl HW.out.rs⟩
    simp only [List.take_succ_cons, List.take_zero, List.drop_succ_cons, List.drop_zero, pairs, List.zipIdx_cons, List.zipIdx_nil, List.map_cons, List.map_nil, Nat.zero_add, Nat.reduceAdd]
    refine lex_load rfl rfl (.agg (Cn.cells c)) (fun m W hJ hF => run_exec_load rfl rfl (hcb m W hJ) Try.underlying48 rfl infoCn) ?_
    refine lex_load rfl rfl (.agg (Cn.cells c)) (fun m W hJ hF => run_exec_load rfl rfl (hcb m W hJ) Try.underlying48 rfl infoCn) ?_
    refine lex_pure rfl rfl (fun K hK => ?_)
    go_simp
    refine hK _ ?_
    clear hK K
    refine lex_load rfl rfl (.int .i64 c.una) (fun m W hJ hF => (by have cc := (blk_cell (hcb m W hJ) 5).trans (Cn.g5 _); go_simp)) ?_
    refine lex_eff' (sp := fun _ v _ => v = .agg (Sg.cells ⟨80, c.port, c.una, c.want, 18, 1000, ⟨#[]⟩⟩)) rfl rfl (by intro _ _ _ _ h; exact h) (fun m W hJ hF => ?_) (fun v x hh => ?_) rfl
    · refine gives_call Try.call142 ((l10Reply_ok c c.una 18 ⟨#[]⟩ W).mono ?_)
      rintro e w' ⟨rfl, h4⟩
      exact ⟨_, rfl, hJ.step h4, LeQ.of h4, rfl⟩
    obtain ⟨_, _, -, rfl, -⟩ := hh
    refine lex_eff' (sp := OneSp wr.heap.size wb.heap.size ⟨80, c.port, c.una, c.want, 18, 1000, ⟨#[]⟩⟩) rfl rfl (by intro _ _ _ _ h; exact h) (fun m W hJ hF => ?_) (fun v x hh => ?_) rfl
    · have hb : Below W.heap.size W (W.alloc (.cells (Sg.cells ⟨80, c.port, c.una, c.want, 18, 1000, ⟨#[]⟩⟩) 55)) := (Below.refl _ _).alloc (Nat.le_refl _) _
      have hsz := hJ.1.size
      exact gives_value (v := .slice (some ⟨W.heap.size, 0, none⟩) 1 1) (by go_simp; rfl) ⟨hJ.step hb, LeQ.of hb, _, rfl, hsz, by omega, heap_alloc_new _ _⟩
    obtain ⟨_, _, -, ⟨lb, rfl, -, -, -⟩, -⟩ := hh
    refine lexQ_store rfl rfl rfl rfl rfl rfl rfl rfl (fun v14 => ?_)
    (repeat (refine lex_pure rfl rfl (fun K hK => ?_); go_simp; refine hK _ ?_; clear hK K; try simp (disch := omega) only [IntWalk.i64_in, IntWalk.u8_in, Int.add_sub_cancel, Int.tmod_eq_emod_of_nonneg, Int.tdiv_eq_ediv_of_nonneg]))
    refine lex_nil (fun m w5 hJ hF => ?_)
    obtain ⟨lb', hlb, hlB, hln, hlc⟩ := hF 5 rfl _ _ _ rfl rfl
    cases hlb
    have hst := hF 6 rfl _ _ _ rfl rfl
    have HZ := Lib.hid (And.intro hlB (And.intro hlc (And.intro hst (Below.grown HW.out.bl hJ.1 HW.out.bl.size (fun k e => by cases e; exact HW.out.hr)))))
    clear hF hJ hcb hlB hln hlc hst
    go_wp2_with fail
    refine bodyPost_ret (ret_cell_tmp rfl rfl HZ.out.2.2.1 Try.underlying48 rfl infoCn) rfl ?_
    rw [HR.out]
    exact ⟨_, rfl, (OneSg.toL ⟨lb, rfl, HZ.out.1, HZ.out.2.1⟩).more HW.out.bl.size, HZ.out.2.2.2⟩
  · have HR : Hid (x = (c, [⟨80, c.port, c.nxt, c.want, 16, 1000, ⟨#[]⟩⟩])) := Lib.hid (by rw [← hx, takeC, if_neg h4, if_neg (by rw [n4]; decide), if_pos (by rw [n2]; decide), if_neg (by rw [ht]; exact hs)])
    have hcase : ((c.st : Int) = 1 ∧ ((t : Int) == c.want) = false) ∨ ((c.st : Int) == 1) = false := by
      by_cases h1 : c.st = 1
      · exact .inl ⟨by omega, by simp; intro h; exact hs ⟨h1, by omega⟩⟩
      · exact .inr (by simp; omega)
    clear h4 hx n4 n2 hs e1 ht
    rcases hcase with ⟨q1, q2⟩ | q1
    · have HQ1 := Lib.hid q1
      go_enter Try.func106, Try.ntmps106
      go_upto_region 2 with (fail)
      generalize hw0 : World.alloc w (.cells c.cells 48) = wa
      have hblk : wa.heap[World.heap w |>.size]? = some (.cells c.cells 48 (0, 0)) := by rw [← hw0]; exact heap_alloc_new _ _
      have hlt : (World.heap w).size < wa.heap.size := (Array.getElem?_eq_some_iff.1 hblk).1
      have hB0 : Below (World.heap w).size w wa := by rw [← hw0]; exact (Below.refl _ _).alloc (Nat.le_refl _) _
      have hsz : (World.heap wa).size = (World.heap w).size + 1 := by rw [← hw0]; simp
      clear hw0
      rw [← hsz]
      have X1 := And.intro hblk (And.intro hlt hB0)
      clear hblk hlt hB0 hsz
      generalize hw0 : World.alloc wa (.cells g.cells 55) = wb
      have hblk : wb.heap[World.heap wa |>.size]? = some (.cells g.cells 55 (0, 0)) := by rw [← hw0]; exact heap_alloc_new _ _
      have hlt : (World.heap wa).size < wb.heap.size := (Array.getElem?_eq_some_iff.1 hblk).1
      have hB0 : Below (World.heap wa).size wa wb := by rw [← hw0]; exact (Below.refl _ _).alloc (Nat.le_refl _) _
      have hsz : (World.heap wb).size = (World.heap wa).size + 1 := by rw [← hw0]; simp
      clear hw0
      rw [← hsz]
      have X2 := And.intro hblk (And.intro hlt hB0)
      clear hblk hlt hB0 hsz
      generalize hw0 : World.alloc wb (.cells #[.string ⟨#[]⟩, .int .i64 0, .int .i64 0, .int .i64 0, .int .i64 0, .int .i64 0, .int .i64 0, .int .i64 0, .string ⟨#[]⟩, .string ⟨#[]⟩, .bool false] 48) = wc
      have hblk : wc.heap[World.heap wb |>.size]? = some (.cells #[.string ⟨#[]⟩, .int .i64 0, .int .i64 0, .int .i64 0, .int .i64 0, .int .i64 0, .int .i64 0, .int .i64 0, .string ⟨#[]⟩, .string ⟨#[]⟩, .bool false] 48 (0, 0)) := by rw [← hw0]; exact heap_alloc_new _ _
      have hlt : (World.heap wb).size < wc.heap.size := (Array.getElem?_eq_some_iff.1 hblk).1
      have hB0 : Below (World.heap wb).size wb wc := by rw [← hw0]; exact (Below.refl _ _).alloc (Nat.le_refl _) _
      have hsz : (World.heap wc).size = (World.heap wb).size + 1 := by rw [← hw0]; simp
      clear hw0
      rw [← hsz]
      have X3 := And.intro hblk (And.intro hlt hB0)
      clear hblk hlt hB0 hsz
      generalize hw0 : World.alloc wc (.cells #[] 55) = wd
      have hblk : wd.heap[World.heap wc |>.size]? = some (.cells #[] 55 (0, 0)) := by rw [← hw0]; exact heap_alloc_new _ _
      have hlt : (World.heap wc).size < wd.heap.size := (Array.getElem?_eq_some_iff.1 hblk).1
      have hB0 : Below (World.heap wc).size wc wd := by rw [← hw0]; exact (Below.refl _ _).alloc (Nat.le_refl _) _
      clear hw0
      have L2 : LeB wb wd := LeB.tr X3.2.2 hB0
      have L1 : LeB wa wd := LeB.tr X2.2.2 L2
      have HX := Lib.hid (CtR.mk (w0 := w) ((L1.block _ X1.2.1).trans X1.1) ((L2.block _ X2.2.1).trans X2.1) ((hB0.block _ X3.2.1).trans X3.1) (LeB.tr X1.2.2 L1) (Nat.le_refl _) (Nat.le_trans X1.2.2.size X2.2.2.size) (Nat.ne_of_gt (Nat.lt_of_lt_of_le X1.2.1 X2.2.2.size)) (Nat.ne_of_gt X1.2.1) (Nat.ne_of_lt X2.2.1))
      have HE := Lib.hid (And.intro (Nat.le_trans X1.2.2.size (Nat.le_trans X2.2.2.size X3.2.2.size)) hlt)
      clear X1 X2 X3 hblk hlt hB0 L1 L2
      have c0 := blk_cell HX.out.cn 0
      have c1 := blk_cell HX.out.cn 1
      have c2 := blk_cell HX.out.cn 2
      have c3 := blk_cell HX.out.cn 3
      have c4 := blk_cell HX.out.cn 4
      have c5 := blk_cell HX.out.cn 5
      have c6 := blk_cell HX.out.cn 6
      have c7 := blk_cell HX.out.cn 7
      have c8 := blk_cell HX.out.cn 8
      have c9 := blk_cell HX.out.cn 9
      have c10 := blk_cell HX.out.cn 10
      simp at c0 c1 c2 c3 c4 c5 c6 c7 c8 c9 c10
      have cf0 := blk_free HX.out.cn 0
      have cf1 := blk_free HX.out.cn 1
      have cf2 := blk_free HX.out.cn 2
      have cf3 := blk_free HX.out.cn 3
      have cf4 := blk_free HX.out.cn 4
      have cf5 := blk_free HX.out.cn 5
      have cf6 := blk_free HX.out.cn 6
      have cf7 := blk_free HX.out.cn 7
      have cf8 := blk_free HX.out.cn 8
      have cf9 := blk_free HX.out.cn 9
      have cf10 := blk_free HX.out.cn 10
      have d0 := blk_cell HX.out.sg 0
      have d1 := blk_cell HX.out.sg 1
      have d2 := blk_cell HX.out.sg 2
      have d3 := blk_cell HX.out.sg 3
      have d4 := blk_cell HX.out.sg 4
      have d5 := blk_cell HX.out.sg 5
      have d6 := blk_cell HX.out.sg 6
      simp at d0 d1 d2 d3 d4 d5 d6
      go_wp2_with fail
      go_quiet ((exact qs (l10Seq_is _ t HE1.out _)))
      go_wp2_with fail
      have HW := Lib.hid (HX.out.drewN nq)
      clear c0 c1 c2 c3 c4 c5 c6 c7 c8 c9 c10 cf0 cf1 cf2 cf3 cf4 cf5 cf6 cf7 cf8 cf9 cf10 d0 d1 d2 d3 d4 d5 d6
      obtain ⟨wr, hwr⟩ : ∃ x, wd.drewN nq = x := ⟨_, rfl⟩
      rw [hwr] at HW ⊢
      clear hwr q1
      have hblc := (Array.getElem?_eq_some_iff.1 HW.out.cn).1
      have hblr := (Array.getElem?_eq_some_iff.1 HW.out.rs).1
      have hcb : ∀ m W, JQ wr wb.heap.size (Cn.cells c) m W → W.heap[w.heap.size]? = some (.cells (Cn.cells c) 48 (0, 0)) := fun m W hJ => (hJ.1.block _ hblc (by intro e; injection e with e; exact HW.out.ne e.symm)).trans HW.out.cn
      refine wp_region_lex 8 (by kernel_rfl) (by kernel_rfl) (JQ wr wb.heap.size (Cn.cells c)) (LeQ wb.heap.size (Cn.cells c)) (csφ wr.heap.size wb.heap.size (Cn.cells c) ⟨80, c.port, c.nxt, c.want, 16, 1000, ⟨#[]⟩⟩) csφ_st JQ.mono ?_ ?_
      · exact ⟨grownBy_of_below ((Below.refl _ _).drew) _, .inl HW.out.rs⟩
      simp only [List.take_succ_cons, List.take_zero, List.drop_succ_cons, List.drop_zero, pairs, List.zipIdx_cons, List.zipIdx_nil, List.map_cons, List.map_nil, Nat.zero_add, Nat.reduceAdd]
      refine lex_load rfl rfl (.agg (Cn.cells c)) (fun m W hJ hF => run_exec_load rfl rfl (hcb m W hJ) Try.underlying48 rfl infoCn) ?_
      refine lex_load rfl rfl (.agg (Cn.cells c)) (fun m W hJ hF => run_exec_load rfl rfl (hcb m W hJ) Try.underlying48 rfl infoCn) ?_
      refine lex_pure rfl rfl (fun K hK => ?_)
      go_simp
      refine hK _ ?_
      clear hK K
      refine lex_load rfl rfl (.int .i64 c.nxt) (fun m W hJ hF => (by have cc := (blk_cell (hcb m W hJ) 6).trans (Cn.g6 _); go_simp)) ?_
      refine lex_eff' (sp := fun _ v _ => v = .agg (Sg.cells ⟨80, c.port, c.nxt, c.want, 16, 1000, ⟨#[]⟩⟩)) rfl rfl (by intro _ _ _ _ h; exact h) (fun m W hJ hF => ?_) (fun v x hh => ?_) rfl
      · refine gives_call Try.call142 ((l10Reply_ok c c.nxt 16 ⟨#[]⟩ W).mono ?_)
        rintro e w' ⟨rfl, h4⟩
        exact ⟨_, rfl, hJ.step h4, LeQ.of h4, rfl⟩
      obtain ⟨_, _, -, rfl, -⟩ := hh
      refine lex_eff' (sp := OneSp wr.heap.size wb.heap.size ⟨80, c.port, c.nxt, c.want, 16, 1000, ⟨#[]⟩⟩) rfl rfl (by intro _ _ _ _ h; exact h) (fun m W hJ hF => ?_) (fun v x hh => ?_) rfl
      · have hb : Below W.heap.size W (W.alloc (.cells (Sg.cells ⟨80, c.port, c.nxt, c.want, 16, 1000, ⟨#[]⟩⟩) 55)) := (Below.refl _ _).alloc (Nat.le_refl _) _
        have hsz := hJ.1.size
        exact gives_value (v := .slice (some ⟨W.heap.size, 0, none⟩) 1 1) (by go_simp; rfl) ⟨hJ.step hb, LeQ.of hb, _, rfl, hsz, by omega, heap_alloc_new _ _⟩
      obtain ⟨_, _, -, ⟨lb, rfl, -, -, -⟩, -⟩ := hh
      refine lexQ_store rfl rfl rfl rfl rfl rfl rfl rfl (fun v14 => ?_)
      (repeat (refine lex_pure rfl rfl (fun K hK => ?_); go_simp; refine hK _ ?_; clear hK K; try simp (disch := omega) only [IntWalk.i64_in, IntWalk.u8_in, Int.add_sub_cancel, Int.tmod_eq_emod_of_nonneg, Int.tdiv_eq_ediv_of_nonneg]))
      refine lex_nil (fun m w5 hJ hF => ?_)
      obtain ⟨lb', hlb, hlB, hln, hlc⟩ := hF 5 rfl _ _ _ rfl rfl
      cases hlb
      have hst := hF 6 rfl _ _ _ rfl rfl
      have HZ := Lib.hid (And.intro hlB (And.intro hlc (And.intro hst (Below.grown HW.out.bl hJ.1 HW.out.bl.size (fun k e => by cases e; exact HW.out.hr)))))
      clear hF hJ hcb hlB hln hlc hst
      go_wp2_with fail
      refine bodyPost_ret (ret_cell_tmp rfl rfl HZ.out.2.2.1 Try.underlying48 rfl infoCn) rfl ?_
      rw [HR.out]
      exact ⟨_, rfl, (OneSg.toL ⟨lb, rfl, HZ.out.1, HZ.out.2.1⟩).more HW.out.bl.size, HZ.out.2.2.2⟩
    · skip
      go_enter Try.func106, Try.ntmps106
      go_upto_region 2 with (fail)
      generalize hw0 : World.alloc w (.cells c.cells 48) = wa
      have hblk : wa.heap[World.heap w |>.size]? = some (.cells c.cells 48 (0, 0)) := by rw [← hw0]; exact heap_alloc_new _ _
      have hlt : (World.heap w).size < wa.heap.size := (Array.getElem?_eq_some_iff.1 hblk).1
      have hB0 : Below (World.heap w).size w wa := by rw [← hw0]; exact (Below.refl _ _).alloc (Nat.le_refl _) _
      have hsz : (World.heap wa).size = (World.heap w).size + 1 := by rw [← hw0]; simp
      clear hw0
      rw [← hsz]
      have X1 := And.intro hblk (And.intro hlt hB0)
      clear hblk hlt hB0 hsz
      generalize hw0 : World.alloc wa (.cells g.cells 55) = wb
      have hblk : wb.heap[World.heap wa |>.size]? = some (.cells g.cells 55 (0, 0)) := by rw [← hw0]; exact heap_alloc_new _ _
      have hlt : (World.heap wa).size < wb.heap.size := (Array.getElem?_eq_some_iff.1 hblk).1
      have hB0 : Below (World.heap wa).size wa wb := by rw [← hw0]; exact (Below.refl _ _).alloc (Nat.le_refl _) _
      have hsz : (World.heap wb).size = (World.heap wa).size + 1 := by rw [← hw0]; simp
      clear hw0
      rw [← hsz]
      have X2 := And.intro hblk (And.intro hlt hB0)
      clear hblk hlt hB0 hsz
      generalize hw0 : World.alloc wb (.cells #[.string ⟨#[]⟩, .int .i64 0, .int .i64 0, .int .i64 0, .int .i64 0, .int .i64 0, .int .i64 0, .int .i64 0, .string ⟨#[]⟩, .string ⟨#[]⟩, .bool false] 48) = wc
      have hblk : wc.heap[World.heap wb |>.size]? = some (.cells #[.string ⟨#[]⟩, .int .i64 0, .int .i64 0, .int .i64 0, .int .i64 0, .int .i64 0, .int .i64 0, .int .i64 0, .string ⟨#[]⟩, .string ⟨#[]⟩, .bool false] 48 (0, 0)) := by rw [← hw0]; exact heap_alloc_new _ _
      have hlt : (World.heap wb).size < wc.heap.size := (Array.getElem?_eq_some_iff.1 hblk).1
      have hB0 : Below (World.heap wb).size wb wc := by rw [← hw0]; exact (Below.refl _ _).alloc (Nat.le_refl _) _
      have hsz : (World.heap wc).size = (World.heap wb).size + 1 := by rw [← hw0]; simp
      clear hw0
      rw [← hsz]
      have X3 := And.intro hblk (And.intro hlt hB0)
      clear hblk hlt hB0 hsz
      generalize hw0 : World.alloc wc (.cells #[] 55) = wd
      have hblk : wd.heap[World.heap wc |>.size]? = some (.cells #[] 55 (0, 0)) := by rw [← hw0]; exact heap_alloc_new _ _
      have hlt : (World.heap wc).size < wd.heap.size := (Array.getElem?_eq_some_iff.1 hblk).1
      have hB0 : Below (World.heap wc).size wc wd := by rw [← hw0]; exact (Below.refl _ _).alloc (Nat.le_refl _) _
      clear hw0
      have L2 : LeB wb wd := LeB.tr X3.2.2 hB0
      have L1 : LeB wa wd := LeB.tr X2.2.2 L2
      have HX := Lib.hid (CtR.mk (w0 := w) ((L1.block _ X1.2.1).trans X1.1) ((L2.block _ X2.2.1).trans X2.1) ((hB0.block _ X3.2.1).trans X3.1) (LeB.tr X1.2.2 L1) (Nat.le_refl _) (Nat.le_trans X1.2.2.size X2.2.2.size) (Nat.ne_of_gt (Nat.lt_of_lt_of_le X1.2.1 X2.2.2.size)) (Nat.ne_of_gt X1.2.1) (Nat.ne_of_lt X2.2.1))
      have HE := Lib.hid (And.intro (Nat.le_trans X1.2.2.size (Nat.le_trans X2.2.2.size X3.2.2.size)) hlt)
      clear X1 X2 X3 hblk hlt hB0 L1 L2
      have c0 := blk_cell HX.out.cn 0
      have c1 := blk_cell HX.out.cn 1
      have c2 := blk_cell HX.out.cn 2
      have c3 := blk_cell HX.out.cn 3
      have c4 := blk_cell HX.out.cn 4
      have c5 := blk_cell HX.out.cn 5
      have c6 := blk_cell HX.out.cn 6
      have c7 := blk_cell HX.out.cn 7
      have c8 := blk_cell HX.out.cn 8
      have c9 := blk_cell HX.out.cn 9
      have c10 := blk_cell HX.out.cn 10
      simp at c0 c1 c2 c3 c4 c5 c6 c7 c8 c9 c10
      have cf0 := blk_free HX.out.cn 0
      have cf1 := blk_free HX.out.cn 1
      have cf2 := blk_free HX.out.cn 2
      have cf3 := blk_free HX.out.cn 3
      have cf4 := blk_free HX.out.cn 4
      have cf5 := blk_free HX.out.cn 5
      have cf6 := blk_free HX.out.cn 6
      have cf7 := blk_free HX.out.cn 7
      have cf8 := blk_free HX.out.cn 8
      have cf9 := blk_free HX.out.cn 9
      have cf10 := blk_free HX.out.cn 10
      have d0 := blk_cell HX.out.sg 0
      have d1 := blk_cell HX.out.sg 1
      have d2 := blk_cell HX.out.sg 2
      have d3 := blk_cell HX.out.sg 3
      have d4 := blk_cell HX.out.sg 4
      have d5 := blk_cell HX.out.sg 5
      have d6 := blk_cell HX.out.sg 6
      simp at d0 d1 d2 d3 d4 d5 d6
      go_wp2_with fail
      go_quiet (fail)
      go_wp2_with fail
      have HW := Lib.hid (HX.out.drewN nq)
      clear c0 c1 c2 c3 c4 c5 c6 c7 c8 c9 c10 cf0 cf1 cf2 cf3 cf4 cf5 cf6 cf7 cf8 cf9 cf10 d0 d1 d2 d3 d4 d5 d6
      obtain ⟨wr, hwr⟩ : ∃ x, wd.drewN nq = x := ⟨_, rfl⟩
      rw [hwr] at HW ⊢
      clear hwr
      have hblc := (Array.getElem?_eq_some_iff.1 HW.out.cn).1
      have hblr := (Array.getElem?_eq_some_iff.1 HW.out.rs).1
      have hcb : ∀ m W, JQ wr wb.heap.size (Cn.cells c) m W → W.heap[w.heap.size]? = some (.cells (Cn.cells c) 48 (0, 0)) := fun m W hJ => (hJ.1.block _ hblc (by intro e; injection e with e; exact HW.out.ne e.symm)).trans HW.out.cn
      refine wp_region_lex 8 (by kernel_rfl) (by kernel_rfl) (JQ wr wb.heap.size (Cn.cells c)) (LeQ wb.heap.size (Cn.cells c)) (csφ wr.heap.size wb.heap.size (Cn.cells c) ⟨80, c.port, c.nxt, c.want, 16, 1000, ⟨#[]⟩⟩) csφ_st JQ.mono ?_ ?_
      · exact ⟨grownBy_of_below ((Below.refl _ _).drew) _, .inl HW.out.rs⟩
      simp only [List.take_succ_cons, List.take_zero, List.drop_succ_cons, List.drop_zero, pairs, List.zipIdx_cons, List.zipIdx_nil, List.map_cons, List.map_nil, Nat.zero_add, Nat.reduceAdd]
      refine lex_load rfl rfl (.agg (Cn.cells c)) (fun m W hJ hF => run_exec_load rfl rfl (hcb m W hJ) Try.underlying48 rfl infoCn) ?_
      refine lex_load rfl rfl (.agg (Cn.cells c)) (fun m W hJ hF => run_exec_load rfl rfl (hcb m W hJ) Try.underlying48 rfl infoCn) ?_
      refine lex_pure rfl rfl (fun K hK => ?_)
      go_simp
      refine hK _ ?_
      clear hK K
      refine lex_load rfl rfl (.int .i64 c.nxt) (fun m W hJ hF => (by have cc := (blk_cell (hcb m W hJ) 6).trans (Cn.g6 _); go_simp)) ?_
      refine lex_eff' (sp := fun _ v _ => v = .agg (Sg.cells ⟨80, c.port, c.nxt, c.want, 16, 1000, ⟨#[]⟩⟩)) rfl rfl (by intro _ _ _ _ h; exact h) (fun m W hJ hF => ?_) (fun v x hh => ?_) rfl
      · refine gives_call Try.call142 ((l10Reply_ok c c.nxt 16 ⟨#[]⟩ W).mono ?_)
        rintro e w' ⟨rfl, h4⟩
        exact ⟨_, rfl, hJ.step h4, LeQ.of h4, rfl⟩
      obtain ⟨_, _, -, rfl, -⟩ := hh
      refine lex_eff' (sp := OneSp wr.heap.size wb.heap.size ⟨80, c.port, c.nxt, c.want, 16, 1000, ⟨#[]⟩⟩) rfl rfl (by intro _ _ _ _ h; exact h) (fun m W hJ hF => ?_) (fun v x hh => ?_) rfl
      · have hb : Below W.heap.size W (W.alloc (.cells (Sg.cells ⟨80, c.port, c.nxt, c.want, 16, 1000, ⟨#[]⟩⟩) 55)) := (Below.refl _ _).alloc (Nat.le_refl _) _
        have hsz := hJ.1.size
        exact gives_value (v := .slice (some ⟨W.heap.size, 0, none⟩) 1 1) (by go_simp; rfl) ⟨hJ.step hb, LeQ.of hb, _, rfl, hsz, by omega, heap_alloc_new _ _⟩
      obtain ⟨_, _, -, ⟨lb, rfl, -, -, -⟩, -⟩ := hh
      refine lexQ_store rfl rfl rfl rfl rfl rfl rfl rfl (fun v14 => ?_)
      (repeat (refine lex_pure rfl rfl (fun K hK => ?_); go_simp; refine hK _ ?_; clear hK K; try simp (disch := omega) only [IntWalk.i64_in, IntWalk.u8_in, Int.add_sub_cancel, Int.tmod_eq_emod_of_nonneg, Int.tdiv_eq_ediv_of_nonneg]))
      refine lex_nil (fun m w5 hJ hF => ?_)
      obtain ⟨lb', hlb, hlB, hln, hlc⟩ := hF 5 rfl _ _ _ rfl rfl
      cases hlb
      have hst := hF 6 rfl _ _ _ rfl rfl
      have HZ := Lib.hid (And.intro hlB (And.intro hlc (And.intro hst (Below.grown HW.out.bl hJ.1 HW.out.bl.size (fun k e => by cases e; exact HW.out.hr)))))
      clear hF hJ hcb hlB hln hlc hst
      go_wp2_with fail
      refine bodyPost_ret (ret_cell_tmp rfl rfl HZ.out.2.2.1 Try.underlying48 rfl infoCn) rfl ?_
      rw [HR.out]
      exact ⟨_, rfl, (OneSg.toL ⟨lb, rfl, HZ.out.1, HZ.out.2.1⟩).more HW.out.bl.size, HZ.out.2.2.2⟩
end Go.Proofs.Ytdenjmdngmmodaa
