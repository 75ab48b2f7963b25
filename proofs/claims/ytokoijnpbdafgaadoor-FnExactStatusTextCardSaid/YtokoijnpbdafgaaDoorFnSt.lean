/- The law FnExactStatusText: what it answers of guests, a mac, an address and a time. -/
import Derived.Test.YtokoijnpbdafgaaDoorStG
namespace Go.Proofs.YtokoijnpbdafgaaDoor
open Go.RowKit
set_option linter.unusedVariables false
set_option linter.unusedSimpArgs false
set_option maxRecDepth 200000
set_option maxHeartbeats 4000000

/-- Guests as a value. -/
def GuV (g : ExGuests) : Spec := fun _ v w => ∃ b0 b1 b2 b3 : Nat, v = .agg (g.cells (some ⟨b0, 0, none⟩) (some ⟨b1, 0, none⟩) (some ⟨b2, 0, none⟩) (some ⟨b3, 0, none⟩) g.users.length g.sessions.length g.fails.length g.records.length) ∧ g.In w (some ⟨b0, 0, none⟩) (some ⟨b1, 0, none⟩) (some ⟨b2, 0, none⟩) (some ⟨b3, 0, none⟩) g.users.length g.sessions.length g.fails.length g.records.length
def fnStφ (g : ExGuests) : Nat → Option Spec
  | 2 => some (GuV g)
  | 3 => some fun _ v _ => v = .bool true
  | _ => none
theorem fnStφ_st {g : ExGuests} : ∀ j sp x v w w', fnStφ g j = some sp → LeB w w' → sp x v w → sp x v w' := by
  intro j sp x v w w' hj hL h
  unfold fnStφ at hj
  split at hj
  · cases hj
    obtain ⟨b0, b1, b2, b3, h1, h2⟩ := h
    exact ⟨b0, b1, b2, b3, h1, h2.below hL⟩
  · cases hj; exact h
  · cases hj

theorem FnExactStatusText_ok (g : ExGuests) (A0 A1 A2 A3 : Option Addr) (c0 c1 c2 c3 : Nat) (hL : g.Long) (mac : ByteArray) (hmac : mac.size ≤ 9223372036854775807) (ip now : Int) (w : World) (hg : g.In w A0 A1 A2 A3 c0 c1 c2 c3) (hIt : DigAt 39 w) :
    Calls Tryd.prog 4 #[.agg (g.cells A0 A1 A2 A3 c0 c1 c2 c3), .string mac, .int .i64 ip, .int .i64 now] w fun e w' => e = .returned (.bool true) ∧ Below w.heap.size w w' := by
  have hmI : (mac.size : Int) ≤ 9223372036854775807 := by omega
  have HK := Lib.hid (And.intro hL (And.intro hg hIt))
  clear hL hg hIt
  by_cases h1 : 1048576 < mac.size
  · have d1 : (1048576 : Int) < mac.size := by omega
    go_enter Tryd.func4, Tryd.ntmps4
    go_wp2_with fail
    go_ret
    exact ⟨rfl, (Below.refl _ _).alloc (Nat.le_refl _) _⟩
  have d1 : decide ((1048576 : Int) < mac.size) = false := by simp; omega
  have hm40 : mac.size ≤ 1099511627776 := by omega
  clear h1
  go_enter Tryd.func4, Tryd.ntmps4
  go_upto_region 1 with (fail)
  generalize hw0 : World.alloc w (.cells (g.cells A0 A1 A2 A3 c0 c1 c2 c3) 44) = wa
  have hblk : wa.heap[World.heap w |>.size]? = some (.cells (g.cells A0 A1 A2 A3 c0 c1 c2 c3) 44 (0, 0)) := by rw [← hw0]; exact heap_alloc_new _ _
  have hlt : (World.heap w).size < wa.heap.size := (Array.getElem?_eq_some_iff.1 hblk).1
  have hB0 : Below (World.heap w).size w wa := by rw [← hw0]; exact (Below.refl _ _).alloc (Nat.le_refl _) _
  clear hw0
  have q0 := blk_cell hblk 0
  have q1 := blk_cell hblk 1
  have q2 := blk_cell hblk 2
  have q3 := blk_cell hblk 3
  have q4 := blk_cell hblk 4
  simp at q0 q1 q2 q3 q4
  have HX := Lib.hid (And.intro hblk (And.intro hlt hB0))
  clear hblk hlt hB0
  go_wp2_with fail
  refine (szGuests_ok g A0 A1 A2 A3 c0 c1 c2 c3 HK.out.1 1048576 (by decide) (by decide) wa (HK.out.2.1.below HX.out.2.2)).mono ?_
  rintro e w1 ⟨left, rfl, hsm, hB1⟩
  clear q0 q1 q2 q3 q4 d1
  have hb := (hB1.block _ HX.out.2.1).trans HX.out.1
  have H1 := Lib.hid (And.intro (LeB.tr HX.out.2.2 hB1) hb)
  clear hB1
  by_cases h0 : left < 0
  · clear hb
    go_wp2_with fail
    go_ret
    exact ⟨rfl, H1.out.1⟩
  have hs : g.Small := hsm (by omega)
  have HS := Lib.hid hs
  have d0 : decide (left < 0) = false := decide_eq_false h0
  clear h0 hs hsm
  have q0 := blk_cell hb 0
  have q1 := blk_cell hb 1
  have q2 := blk_cell hb 2
  have q3 := blk_cell hb 3
  have q4 := blk_cell hb 4
  simp at q0 q1 q2 q3 q4
  clear hb
  go_wp2_with fail
  refine (toGuests_ok g A0 A1 A2 A3 c0 c1 c2 c3 HS.out w1 (HK.out.2.1.below H1.out.1)).mono ?_
  rintro e w2 ⟨b0, b1, b2, b3, rfl, hin, hB2⟩
  clear q0 q1 q2 q3 q4 d0
  have hb := (hB2.block _ (Array.getElem?_eq_some_iff.1 H1.out.2).1).trans H1.out.2
  have H2 := Lib.hid (And.intro (LeB.tr H1.out.1 hB2) (And.intro hb hin))
  clear hB2 hb hin
  obtain ⟨r, hr⟩ : ∃ r, stRes g mac ip now = r := ⟨_, rfl⟩
  have hcall := sStatusText_ok g _ _ _ _ _ _ _ _ HS.out mac hm40 ip now w2 H2.out.2.2
  rw [hr] at hcall
  have HR := Lib.hid hr
  clear hr
  go_wp2_with fail
  refine hcall.mono ?_
  rintro e w3 ⟨rfl, hB3⟩
  clear hcall
  have hb := (hB3.block _ (Array.getElem?_eq_some_iff.1 H2.out.2.1).1).trans H2.out.2.1
  have H3 := Lib.hid (And.intro (LeB.tr H2.out.1 hB3) hb)
  clear hB3
  have q0 := blk_cell hb 0
  have q1 := blk_cell hb 1
  have q2 := blk_cell hb 2
  have q3 := blk_cell hb 3
  have q4 := blk_cell hb 4
  simp at q0 q1 q2 q3 q4
  clear hb
  go_wp2_with fail
  refine (toGuests_ok g A0 A1 A2 A3 c0 c1 c2 c3 HS.out w3 (HK.out.2.1.below H3.out.1)).mono ?_
  rintro e w4 ⟨e0, e1, e2, e3, rfl, hin, hB4⟩
  clear q0 q1 q2 q3 q4
  have hb := (hB4.block _ (Array.getElem?_eq_some_iff.1 H3.out.2).1).trans H3.out.2
  have H4 := Lib.hid (And.intro (LeB.tr H3.out.1 hB4) (And.intro hb hin))
  clear hB4 hb hin
  go_upto_region 9 with (fail)
  generalize hw0 : World.alloc w4 (.cells (g.cells (some ⟨e0, 0, none⟩) (some ⟨e1, 0, none⟩) (some ⟨e2, 0, none⟩) (some ⟨e3, 0, none⟩) g.users.length g.sessions.length g.fails.length g.records.length) 28) = w5
  have hblk : w5.heap[World.heap w4 |>.size]? = some (.cells (g.cells (some ⟨e0, 0, none⟩) (some ⟨e1, 0, none⟩) (some ⟨e2, 0, none⟩) (some ⟨e3, 0, none⟩) g.users.length g.sessions.length g.fails.length g.records.length) 28 (0, 0)) := by rw [← hw0]; exact heap_alloc_new _ _
  have hlt : (World.heap w4).size < w5.heap.size := (Array.getElem?_eq_some_iff.1 hblk).1
  have hB0 : Below (World.heap w4).size w4 w5 := by rw [← hw0]; exact (Below.refl _ _).alloc (Nat.le_refl _) _
  clear hw0
  have hb2 := (hB0.block _ (Array.getElem?_eq_some_iff.1 H4.out.2.1).1).trans H4.out.2.1
  have H5 := Lib.hid (And.intro (LeB.tr H4.out.1 hB0) (And.intro hb2 (And.intro hblk (H4.out.2.2.below hB0))))
  have q0 := blk_cell hblk 0
  have q1 := blk_cell hblk 1
  have q2 := blk_cell hblk 2
  have q3 := blk_cell hblk 3
  have q4 := blk_cell hblk 4
  simp at q0 q1 q2 q3 q4
  clear hblk hlt hB0 hb2
  have hcall := StatusText_ok g _ _ _ _ _ _ _ _ HS.out mac hm40 ip now w5 H5.out.2.2.2 (HK.out.2.2.below H5.out.1)
  rw [HR.out] at hcall
  go_wp2_with fail
  refine hcall.mono ?_
  rintro e w6 ⟨rfl, hB6⟩
  clear hcall q0 q1 q2 q3 q4
  have hx1 := (hB6.block _ (Array.getElem?_eq_some_iff.1 H5.out.2.1).1).trans H5.out.2.1
  have hx2 := (hB6.block _ (Array.getElem?_eq_some_iff.1 H5.out.2.2.1).1).trans H5.out.2.2.1
  have H6 := Lib.hid (And.intro (LeB.tr H5.out.1 hB6) (And.intro hx1 (And.intro hx2 (H5.out.2.2.2.below hB6))))
  clear hB6 hx1 hx2
  go_wp2_with fail
  have hcell : ∀ W, Below w6.heap.size w6 W → (W.cell? ⟨w.heap.size, 0, none⟩ = some (.slice A0 g.users.length c0) ∧ W.cell? ⟨w.heap.size, 1, none⟩ = some (.slice A1 g.sessions.length c1) ∧ W.cell? ⟨w.heap.size, 2, none⟩ = some (.slice A2 g.fails.length c2) ∧ W.cell? ⟨w.heap.size, 3, none⟩ = some (.slice A3 g.records.length c3) ∧ W.cell? ⟨w.heap.size, 4, none⟩ = some (.int .i64 g.next)) ∧
      (W.cell? ⟨w4.heap.size, 0, none⟩ = some (.slice (some ⟨e0, 0, none⟩) g.users.length g.users.length) ∧ W.cell? ⟨w4.heap.size, 1, none⟩ = some (.slice (some ⟨e1, 0, none⟩) g.sessions.length g.sessions.length) ∧ W.cell? ⟨w4.heap.size, 2, none⟩ = some (.slice (some ⟨e2, 0, none⟩) g.fails.length g.fails.length) ∧ W.cell? ⟨w4.heap.size, 3, none⟩ = some (.slice (some ⟨e3, 0, none⟩) g.records.length g.records.length) ∧ W.cell? ⟨w4.heap.size, 4, none⟩ = some (.int .i64 g.next)) := fun W hW => by
    have e1 := (hW.block _ (Array.getElem?_eq_some_iff.1 H6.out.2.1).1).trans H6.out.2.1
    have e2 := (hW.block _ (Array.getElem?_eq_some_iff.1 H6.out.2.2.1).1).trans H6.out.2.2.1
    exact ⟨⟨blk_cell e1 0, blk_cell e1 1, blk_cell e1 2, blk_cell e1 3, blk_cell e1 4⟩, blk_cell e2 0, blk_cell e2 1, blk_cell e2 2, blk_cell e2 3, blk_cell e2 4⟩
  refine wp_region_lex 4 (by kernel_rfl) (by kernel_rfl) (JB w6) LeB (fnStφ g) fnStφ_st JB.mono ?_ ?_
  · exact (Below.refl _ _).drew
  simp only [List.take_succ_cons, List.take_zero, List.drop_succ_cons, List.drop_zero, pairs, List.zipIdx_cons, List.zipIdx_nil, List.map_cons, List.map_nil, Nat.zero_add, Nat.reduceAdd]
  (repeat (first | (refine lex_pure rfl rfl (fun K hK => ?_); go_simp; refine hK _ ?_; clear hK K; try simp (disch := omega) only [IntWalk.i64_in, IntWalk.u8_in, Int.add_sub_cancel, Int.tmod_eq_emod_of_nonneg, Int.tdiv_eq_ediv_of_nonneg]) | (refine lex_load rfl rfl _ (fun m W hJ hF => (by have cc := hcell W hJ; go_simp; rfl)) ?_; try simp (disch := omega) only [IntWalk.i64_in, IntWalk.u8_in, Int.add_sub_cancel, Int.tmod_eq_emod_of_nonneg, Int.tdiv_eq_ediv_of_nonneg]) | (refine lex_sadd rfl rfl rfl rfl rfl (by first | omega | (simp only [ByteArray.size_append]; omega)) ?_; go_simp)))
  refine lex_eff' (sp := GuV g) rfl rfl (by intro _ _ _ _ h; exact h) (fun m W hJ hF => ?_) (fun v x hh => ?_) rfl
  · refine gives_call Tryd.call10 ((toGuests_ok g A0 A1 A2 A3 c0 c1 c2 c3 HS.out W (HK.out.2.1.below (LeB.tr H6.out.1 hJ))).mono ?_)
    rintro e w' ⟨b0, b1, b2, b3, rfl, hin, h4⟩
    exact ⟨_, rfl, hJ.step h4, h4, b0, b1, b2, b3, rfl, hin⟩
  obtain ⟨_, _, -, ⟨f0, f1, f2, f3, rfl, -⟩, -⟩ := hh
  (repeat (first | (refine lex_pure rfl rfl (fun K hK => ?_); go_simp; refine hK _ ?_; clear hK K; try simp (disch := omega) only [IntWalk.i64_in, IntWalk.u8_in, Int.add_sub_cancel, Int.tmod_eq_emod_of_nonneg, Int.tdiv_eq_ediv_of_nonneg]) | (refine lex_load rfl rfl _ (fun m W hJ hF => (by have cc := hcell W hJ; go_simp; rfl)) ?_; try simp (disch := omega) only [IntWalk.i64_in, IntWalk.u8_in, Int.add_sub_cancel, Int.tmod_eq_emod_of_nonneg, Int.tdiv_eq_ediv_of_nonneg]) | (refine lex_sadd rfl rfl rfl rfl rfl (by first | omega | (simp only [ByteArray.size_append]; omega)) ?_; go_simp)))
  refine lex_eff' (sp := fun _ v _ => v = .bool true) rfl rfl (by intro _ _ _ _ h; exact h) (fun m W hJ hF => ?_) (fun v x hh => ?_) rfl
  · have hv : g.In W (some ⟨f0, 0, none⟩) (some ⟨f1, 0, none⟩) (some ⟨f2, 0, none⟩) (some ⟨f3, 0, none⟩) g.users.length g.sessions.length g.fails.length g.records.length := by
      obtain ⟨b0, b1, b2, b3, e1, hin⟩ := hF 2 (by kernel_rfl) _ _ _ rfl rfl
      simp only [Value.agg.injEq, ExGuests.cells, Array.mk.injEq, List.cons.injEq, Value.slice.injEq, Option.some.injEq, Addr.mk.injEq] at e1
      obtain ⟨⟨⟨rfl, -⟩, -⟩, ⟨⟨rfl, -⟩, -⟩, ⟨⟨rfl, -⟩, -⟩, ⟨⟨rfl, -⟩, -⟩, -⟩ := e1
      exact hin
    refine gives_call Tryd.call11 ((eqGuests_ok g _ _ _ _ _ _ _ _ _ _ _ _ _ _ _ _ HS.out W (H6.out.2.2.2.below hJ) hv).mono ?_)
    rintro e w' ⟨rfl, h4⟩
    exact ⟨_, rfl, hJ.step h4, h4, rfl⟩
  obtain ⟨_, _, -, rfl, -⟩ := hh
  refine lex_nil (fun m W hJ hF => ?_)
  have H7 := Lib.hid (LeB.tr H6.out.1 hJ)
  clear hF hJ hcell
  go_wp2_with fail
  go_ret
  exact ⟨rfl, H7.out⟩
end Go.Proofs.YtokoijnpbdafgaaDoor
