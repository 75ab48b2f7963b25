/- Status: the text of a status, and StatusText (spec's). -/
import Derived.Test.YtokoijnpbdafgaaDoorStE
namespace Go.Proofs.YtokoijnpbdafgaaDoor
open Go.RowKit
set_option linter.unusedVariables false
set_option linter.unusedSimpArgs false
set_option maxRecDepth 200000
set_option maxHeartbeats 4000000

theorem l12Status_ok (g : ExGuests) (A0 A1 A2 A3 : Option Addr) (c0 c1 c2 c3 : Nat) (hs : g.Small) (hsh : ∀ x ∈ g.sessions, shB g.users.length x = true) (now : Int) (hn0 : 0 ≤ now) (hn1 : now ≤ 100000) (mac : ByteArray) (ip : Int) (w : World) (hg : g.In w A0 A1 A2 A3 c0 c1 c2 c3) :
    Calls Tryd.prog 18 #[.agg (g.cells A0 A1 A2 A3 c0 c1 c2 c3), .string mac, .int .i64 ip, .int .i64 now] w fun e w' => e = .returned (.string (stT g mac ip now)) ∧ LeB w w' := by
  obtain ⟨r, hR⟩ : ∃ r, stT g mac ip now = r := ⟨_, rfl⟩
  rw [hR]
  have hIt : DigAt 41 w := fun n hn W _ => l00Digits_ok n (by omega) W
  have HK := Lib.hid (And.intro hs (And.intro hg (And.intro hsh (And.intro hIt hR))))
  have hl := hs.l1
  clear hR hs hsh hg hIt
  go_enter Tryd.func18, Tryd.ntmps18
  go_upto_region 1 with (fail)
  generalize hw0 : World.alloc w (.cells (g.cells A0 A1 A2 A3 c0 c1 c2 c3) 28) = w0
  have hblk : w0.heap[World.heap w |>.size]? = some (.cells (g.cells A0 A1 A2 A3 c0 c1 c2 c3) 28 (0, 0)) := by rw [← hw0]; exact heap_alloc_new _ _
  have hlt : (World.heap w).size < w0.heap.size := (Array.getElem?_eq_some_iff.1 hblk).1
  have hB0 : Below (World.heap w).size w w0 := by rw [← hw0]; exact (Below.refl _ _).alloc (Nat.le_refl _) _
  clear hw0
  have q0 := blk_cell hblk 0
  have q1 := blk_cell hblk 1
  have q2 := blk_cell hblk 2
  have q3 := blk_cell hblk 3
  have q4 := blk_cell hblk 4
  simp at q0 q1 q2 q3 q4
  have HX0 := Lib.hid (And.intro hblk (And.intro hlt hB0))
  clear hblk hlt hB0
  go_wp2_with fail
  refine (l08At_ok g A0 A1 A2 A3 c0 c1 c2 c3 hl mac ip w0 (HK.out.2.1.below HX0.out.2.2)).mono ?_
  rintro e w1 ⟨rfl, hB1'⟩
  clear q0 q1 q2 q3 q4
  have hb := (hB1'.block _ HX0.out.2.1).trans HX0.out.1
  have hB1 := LeB.tr HX0.out.2.2 hB1'
  clear hB1'
  have h1 := idxG_ge (qMac mac ip) g.sessions
  have h2 := idxG_lt (qMac mac ip) g.sessions
  obtain ⟨k, hk⟩ : ∃ k, idxG (qMac mac ip) g.sessions = k := ⟨_, rfl⟩
  rw [hk] at h1 h2 ⊢
  have H1 := Lib.hid (And.intro hk (And.intro hB1 hb))
  clear hk hB1 hb
  by_cases h0 : k < 0
  · go_wp2_with fail
    go_ret
    refine ⟨?_, H1.out.2.1⟩
    rw [← HK.out.2.2.2.2]
    unfold stT
    rw [H1.out.1, if_pos h0]
    rfl
  obtain ⟨m, rfl⟩ := Int.eq_ofNat_of_zero_le (by omega : 0 ≤ k)
  have hm : m < g.sessions.length := by omega
  have d0 : decide ((m : Int) < 0) = false := by simp
  clear h0 h1
  obtain ⟨ad, rfl, qx⟩ := ExSession.At.of (HK.out.2.1.r1.below H1.out.2.1 (Nat.le_refl _)) m hm
  have hshx := HK.out.2.2.1 _ (List.getElem_mem hm)
  have hat := stT_at g mac ip now m H1.out.1 hm
  obtain ⟨x, hx⟩ : ∃ x, g.sessions[m] = x := ⟨_, rfl⟩
  rw [hx] at qx hshx hat
  clear hx
  unfold shB at hshx
  simp only [Bool.and_eq_true, wB_true] at hshx
  obtain ⟨⟨⟨⟨⟨u0, u1⟩, i0, i1⟩, o0, o1⟩, s0, s1⟩, t0, t1⟩ := hshx
  obtain ⟨id, user, xm, xip, beg, last, used, quota, unt, idle⟩ := x
  simp only at u0 u1 i0 i1 o0 o1 s0 s1 t0 t1 hat
  obtain ⟨idn, rfl⟩ := Int.eq_ofNat_of_zero_le i0
  obtain ⟨u, rfl⟩ := Int.eq_ofNat_of_zero_le u0
  have hu : u < g.users.length := by omega
  have hr := hat u rfl hu
  rw [HK.out.2.2.2.2] at hr
  obtain ⟨ad0, rfl, qu⟩ := ExUser.At.of (HK.out.2.1.r0.below H1.out.2.1 (Nat.le_refl _)) u hu
  have hz : g.users[u].size ≤ 1048576 := by
    have a := ExUser.sum_take g.users u hu
    have b := ExUser.sum_le g.users (u + 1)
    have c := HK.out.1.s0
    omega
  obtain ⟨un, hun⟩ : ∃ un, g.users[u] = un := ⟨_, rfl⟩
  rw [hun] at qu hr hz
  have HR := Lib.hid hr
  have HU := Lib.hid qu
  have hz2 : un.name.size ≤ 1048576 := by unfold ExUser.size at hz; omega
  have HZ := Lib.hid hz2
  clear hat hr hun qu i0 u0 hz hz2
  obtain ⟨p0, p1, p2, p3, p4, p5, p6, p7, p8, p9⟩ := qx
  have hb := H1.out.2.2
  have q0 := blk_cell hb 0
  have q1 := blk_cell hb 1
  simp at q0 q1
  clear hb
  go_upto_region 5 with (fail)
  clear p0 p1 p2 p3 p4 p5 p6 p7 p8 p9 q0 q1
  generalize hw0 : World.alloc w1 (.cells #[.int .i64 (idn : Int), .int .i64 (u : Int), .string xm, .int .i64 xip, .int .i64 beg, .int .i64 last, .int .i64 used, .int .i64 quota, .int .i64 unt, .int .i64 idle] 33) = wa
  have hblk : wa.heap[World.heap w1 |>.size]? = some (.cells #[.int .i64 (idn : Int), .int .i64 (u : Int), .string xm, .int .i64 xip, .int .i64 beg, .int .i64 last, .int .i64 used, .int .i64 quota, .int .i64 unt, .int .i64 idle] 33 (0, 0)) := by rw [← hw0]; exact heap_alloc_new _ _
  have hlt : (World.heap w1).size < wa.heap.size := (Array.getElem?_eq_some_iff.1 hblk).1
  have hB0 : Below (World.heap w1).size w1 wa := by rw [← hw0]; exact (Below.refl _ _).alloc (Nat.le_refl _) _
  clear hw0
  have hb2 := (hB0.block _ (Array.getElem?_eq_some_iff.1 H1.out.2.2).1).trans H1.out.2.2
  have hU2 := HU.out.below hB0
  have hcell : ∀ W, Below wa.heap.size wa W → W.cell? ⟨w1.heap.size, 0, none⟩ = some (.int .i64 (idn : Int)) ∧ W.cell? ⟨w1.heap.size, 1, none⟩ = some (.int .i64 (u : Int)) ∧ W.cell? ⟨w1.heap.size, 6, none⟩ = some (.int .i64 used) ∧ W.cell? ⟨w1.heap.size, 7, none⟩ = some (.int .i64 quota) ∧ W.cell? ⟨w1.heap.size, 8, none⟩ = some (.int .i64 unt) ∧ W.cell? ⟨w.heap.size, 0, none⟩ = some (.slice (some ad0) g.users.length c0) ∧ W.cell? (ad0.add (u * 6)) = some (.string un.name) := fun W hW => by
    have e1 := (hW.block _ hlt).trans hblk
    have e2 := (hW.block _ (Array.getElem?_eq_some_iff.1 hb2).1).trans hb2
    exact ⟨blk_cell e1 0, blk_cell e1 1, blk_cell e1 6, blk_cell e1 7, blk_cell e1 8, blk_cell e2 0, (hU2.below hW).c0⟩
  obtain ⟨n2, hn2⟩ := Int.eq_ofNat_of_zero_le (by omega : 0 ≤ quota - used)
  obtain ⟨n3, hn3⟩ := Int.eq_ofNat_of_zero_le (by omega : 0 ≤ max (unt - now) 0)
  have hd1 := dig_size idn (by omega)
  have hd2 := dig_size n2 (by omega)
  have hd3 := dig_size n3 (by omega)
  obtain ⟨D1, hD1⟩ : ∃ x, digS idn = x := ⟨_, rfl⟩
  obtain ⟨D2, hD2⟩ : ∃ x, digS n2 = x := ⟨_, rfl⟩
  obtain ⟨D3, hD3⟩ : ∃ x, digS n3 = x := ⟨_, rfl⟩
  rw [hD1] at hd1
  rw [hD2] at hd2
  rw [hD3] at hd3
  have HD := Lib.hid (And.intro hD1 (And.intro hD2 hD3))
  have HN := Lib.hid (And.intro hn2 hn3)
  have HX := Lib.hid (LeB.tr H1.out.2.1 hB0)
  have hus : (u : Int) < g.users.length := by omega
  have hul : (g.users.length : Int) ≤ 1048576 := by have := HK.out.1.l0; omega
  have huc : (g.users.length : Int) ≤ c0 := by have := HK.out.2.1.l0; omega
  have hnm := HZ.out
  clear hD1 hD2 hD3 hn2 hn3 hblk hlt hB0 hb2 hU2
  have hc1 : ∀ W, LeB w W → Calls Tryd.prog 41 #[.int .i64 (idn : Int)] W fun e w' => e = .returned (.string D1) ∧ LeB W w' := fun W h => by rw [← HD.out.1]; exact HK.out.2.2.2.1 idn (by omega) W h
  have hc2 : ∀ W, LeB w W → Calls Tryd.prog 41 #[.int .i64 (quota - used)] W fun e w' => e = .returned (.string D2) ∧ LeB W w' := fun W h => by rw [← HD.out.2.1, HN.out.1]; exact HK.out.2.2.2.1 n2 (by have := HN.out.1; omega) W h
  have hc3 : ∀ W, LeB w W → Calls Tryd.prog 41 #[.int .i64 (if now < unt then unt - now else 0)] W fun e w' => e = .returned (.string D3) ∧ LeB W w' := fun W h => by rw [← HD.out.2.2, show (if now < unt then unt - now else 0) = ((n3 : Nat) : Int) from by have := HN.out.2; split <;> omega]; exact HK.out.2.2.2.1 n3 (by have := HN.out.2; omega) W h
  have HC := Lib.hid (And.intro hc1 (And.intro hc2 hc3))
  clear hc1 hc2 hc3
  have z1 : (⟨#[115, 101, 115, 115, 105, 111, 110, 32]⟩ : ByteArray).size = 8 := rfl
  have z2 : (⟨#[32, 111, 102, 32]⟩ : ByteArray).size = 4 := rfl
  have z3 : (⟨#[44, 32]⟩ : ByteArray).size = 2 := rfl
  have z4 : (⟨#[32, 108, 101, 102, 116, 44, 32]⟩ : ByteArray).size = 7 := rfl
  have z5 : (⟨#[32, 116, 105, 99, 107, 115]⟩ : ByteArray).size = 6 := rfl
  refine wp_region_lex 30 (by kernel_rfl) (by kernel_rfl) (JB wa) LeB (sphi [(2, .string D1), (19, .string D2), (27, .string D3)]) sphi_st JB.mono ?_ ?_
  · exact (Below.refl _ _).drew
  simp only [List.take_succ_cons, List.take_zero, List.drop_succ_cons, List.drop_zero, pairs, List.zipIdx_cons, List.zipIdx_nil, List.map_cons, List.map_nil, Nat.zero_add, Nat.reduceAdd]
  (repeat (first | (refine lex_pure rfl rfl (fun K hK => ?_); go_simp; refine hK _ ?_; clear hK K; try simp (disch := omega) only [IntWalk.i64_in, IntWalk.u8_in, Int.add_sub_cancel, Int.tmod_eq_emod_of_nonneg, Int.tdiv_eq_ediv_of_nonneg]) | (refine lex_load rfl rfl _ (fun m W hJ hF => (by have cc := hcell W hJ; go_simp; rfl)) ?_; try simp (disch := omega) only [IntWalk.i64_in, IntWalk.u8_in, Int.add_sub_cancel, Int.tmod_eq_emod_of_nonneg, Int.tdiv_eq_ediv_of_nonneg]) | (refine lex_sadd rfl rfl rfl rfl rfl (by first | omega | (simp only [ByteArray.size_append]; omega)) ?_; go_simp)))
  refine lex_eff' (sp := fun _ v _ => v = .string D1) rfl rfl (by intro _ _ _ _ h; exact h) (fun m W hJ hF => ?_) (fun v x hh => ?_) rfl
  · refine gives_call Tryd.call41 ((HC.out.1 W (LeB.tr HX.out hJ)).mono ?_)
    rintro e w' ⟨rfl, h4⟩
    exact ⟨_, rfl, hJ.step h4, h4, rfl⟩
  obtain ⟨_, _, -, rfl, -⟩ := hh
  (repeat (first | (refine lex_pure rfl rfl (fun K hK => ?_); go_simp; refine hK _ ?_; clear hK K; try simp (disch := omega) only [IntWalk.i64_in, IntWalk.u8_in, Int.add_sub_cancel, Int.tmod_eq_emod_of_nonneg, Int.tdiv_eq_ediv_of_nonneg]) | (refine lex_load rfl rfl _ (fun m W hJ hF => (by have cc := hcell W hJ; go_simp; rfl)) ?_; try simp (disch := omega) only [IntWalk.i64_in, IntWalk.u8_in, Int.add_sub_cancel, Int.tmod_eq_emod_of_nonneg, Int.tdiv_eq_ediv_of_nonneg]) | (refine lex_sadd rfl rfl rfl rfl rfl (by first | omega | (simp only [ByteArray.size_append]; omega)) ?_; go_simp)))
  refine lex_eff' (sp := fun _ v _ => v = .string D2) rfl rfl (by intro _ _ _ _ h; exact h) (fun m W hJ hF => ?_) (fun v x hh => ?_) rfl
  · refine gives_call Tryd.call41 ((HC.out.2.1 W (LeB.tr HX.out hJ)).mono ?_)
    rintro e w' ⟨rfl, h4⟩
    exact ⟨_, rfl, hJ.step h4, h4, rfl⟩
  obtain ⟨_, _, -, rfl, -⟩ := hh
  (repeat (first | (refine lex_pure rfl rfl (fun K hK => ?_); go_simp; refine hK _ ?_; clear hK K; try simp (disch := omega) only [IntWalk.i64_in, IntWalk.u8_in, Int.add_sub_cancel, Int.tmod_eq_emod_of_nonneg, Int.tdiv_eq_ediv_of_nonneg]) | (refine lex_load rfl rfl _ (fun m W hJ hF => (by have cc := hcell W hJ; go_simp; rfl)) ?_; try simp (disch := omega) only [IntWalk.i64_in, IntWalk.u8_in, Int.add_sub_cancel, Int.tmod_eq_emod_of_nonneg, Int.tdiv_eq_ediv_of_nonneg]) | (refine lex_sadd rfl rfl rfl rfl rfl (by first | omega | (simp only [ByteArray.size_append]; omega)) ?_; go_simp)))
  refine lex_eff' (sp := fun _ v _ => v = .string D3) rfl rfl (by intro _ _ _ _ h; exact h) (fun m W hJ hF => ?_) (fun v x hh => ?_) rfl
  · refine gives_call Tryd.call41 ((HC.out.2.2 W (LeB.tr HX.out hJ)).mono ?_)
    rintro e w' ⟨rfl, h4⟩
    exact ⟨_, rfl, hJ.step h4, h4, rfl⟩
  obtain ⟨_, _, -, rfl, -⟩ := hh
  (repeat (first | (refine lex_pure rfl rfl (fun K hK => ?_); go_simp; refine hK _ ?_; clear hK K; try simp (disch := omega) only [IntWalk.i64_in, IntWalk.u8_in, Int.add_sub_cancel, Int.tmod_eq_emod_of_nonneg, Int.tdiv_eq_ediv_of_nonneg]) | (refine lex_load rfl rfl _ (fun m W hJ hF => (by have cc := hcell W hJ; go_simp; rfl)) ?_; try simp (disch := omega) only [IntWalk.i64_in, IntWalk.u8_in, Int.add_sub_cancel, Int.tmod_eq_emod_of_nonneg, Int.tdiv_eq_ediv_of_nonneg]) | (refine lex_sadd rfl rfl rfl rfl rfl (by first | omega | (simp only [ByteArray.size_append]; omega)) ?_; go_simp)))
  refine lex_nil (fun m W hJ hF => ?_)
  have H2 := Lib.hid (LeB.tr HX.out hJ)
  clear hF hJ hcell
  go_wp2_with fail
  all_goals go_ret
  all_goals exact ⟨by rw [HR.out]; unfold stOf; simp only [Int.toNat_natCast, HN.out.1, HN.out.2, HD.out.1, HD.out.2.1, HD.out.2.2]; rfl, H2.out⟩
end Go.Proofs.YtokoijnpbdafgaaDoor
