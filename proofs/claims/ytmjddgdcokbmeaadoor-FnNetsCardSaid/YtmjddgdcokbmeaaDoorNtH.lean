/- Nets: a net's text read again (impl's), as called. -/
import Derived.Test.YtmjddgdcokbmeaaDoorNtG
namespace Go.Proofs.YtmjddgdcokbmeaaDoor
open Go.RowKit
set_option linter.unusedVariables false
set_option linter.unusedSimpArgs false
set_option maxRecDepth 200000
set_option maxHeartbeats 4000000

theorem gives_storeN {P : Program} {o : Oper} {a : Act} {w : World} {R : Value → World → Prop} (x y : Operand) (T : TypeId) (ho : o.op = .store T x y) (b : Nat) (E : TypeId) (cur cs : Array Value) (hx : a.eval x = .pointer (some ⟨b, 0, none⟩)) (hy : a.eval y = .agg cs)
    (hb : w.heap[b]? = some (.cells cur E (0, 0))) (hs : cur.size = cs.size) (hi : (P.info? T).map (·.size) = some cs.size) (h1 : cs.toList.all (·.oneCell') = true) (h : R undef (w.setRow b cs)) : gives P o a w R := by
  unfold gives execOp
  simp only [ho, Sem.run_bind, Sem.run_pure, Result.andThen_ok, hx, hy, run_store_row w b T E cur cs hb hs hi h1]
  exact h
/-- A world in which block b waits to be filled, or is, and block d holds what is to go there. -/
def JN (w : World) (b d : Nat) (cs : Array Value) (_ : Nat) (W : World) : Prop := LeB w W ∧ (W.heap[b]? = some (.cells #[.int .i64 0, .int .i64 0] 54 (0, 0)) ∨ W.heap[b]? = some (.cells cs 54 (0, 0))) ∧ W.heap[d]? = some (.cells cs 54 (0, 0))
def LeN (b : Nat) (cs : Array Value) (W W' : World) : Prop := W.heap[b]? = some (.cells cs 54 (0, 0)) → W'.heap[b]? = some (.cells cs 54 (0, 0))
theorem JN.step {w W W' : World} {b d : Nat} {cs : Array Value} {m : Nat} (h : JN w b d cs (m + 1) W) (hb : LeB W W') : JN w b d cs m W' ∧ LeN b cs W W' := by
  obtain ⟨h1, h2, h3⟩ := h
  have k : ∀ (j : Nat) (o : Obj), W.heap[j]? = some o → W'.heap[j]? = some o := fun j o ho => (hb.block _ (Array.getElem?_eq_some_iff.1 ho).1).trans ho
  exact ⟨⟨LeB.tr h1 hb, h2.imp (k _ _) (k _ _), k _ _ h3⟩, k _ _⟩
def rnφ (b : Nat) (cs : Array Value) : Nat → Option Spec
  | 10 => some fun _ v _ => v = .bool true
  | 12 => some fun _ _ W => W.heap[b]? = some (.cells cs 54 (0, 0))
  | _ => none
theorem rnφ_st {b : Nat} {cs : Array Value} : ∀ j sp x v w w', rnφ b cs j = some sp → LeN b cs w w' → sp x v w → sp x v w' := by
  intro j sp x v w w' hj hL h
  unfold rnφ at hj
  split at hj
  · cases hj; exact h
  · cases hj; exact hL h
  · cases hj
theorem readNet_ok (y : Nt) (hx : y ∈ N6) (w : World) (hw : StdW w) : Calls Tryd.prog 72 #[.string (ntText y)] w fun e w' => e = .returned (.tuple #[.agg y.cells, .bool true]) ∧ LeB w w' := by
  have hbd := n6_bd hx
  have hsz := ntText_size y (by omega)
  have c1 := fun W (h : LeB w W) => cut_ok (adText y.ip) (digS y.bits) (adText_no y.ip) (ntText y) rfl (by omega) W (hw.below h)
  have c2 := fun W (h : LeB w W) => readAddress_ok y.ip hbd.1 W (hw.below h)
  have c3 := fun W (h : LeB w W) => numberIn_ok y.bits 0 32 (by omega) (by omega) (by omega) W (hw.below h)
  obtain ⟨t, ht⟩ : ∃ t, ntText y = t := ⟨_, rfl⟩
  obtain ⟨a, ha⟩ : ∃ a, adText y.ip = a := ⟨_, rfl⟩
  obtain ⟨b, hb⟩ : ∃ b, digS y.bits = b := ⟨_, rfl⟩
  rw [ht, ha, hb] at c1
  rw [ha] at c2
  rw [hb] at c3
  rw [ht]
  have HK := Lib.hid (And.intro c1 (And.intro c2 (And.intro c3 hx)))
  clear c1 c2 c3 hbd hsz ht ha hb hw hx
  go_enter Tryd.func72, Tryd.ntmps72
  go_upto_region 1 with (fail)
  generalize hw0 : World.alloc w (.cells #[.int .i64 0, .int .i64 0] 54) = wa
  have hblk : wa.heap[World.heap w |>.size]? = some (.cells #[.int .i64 0, .int .i64 0] 54 (0, 0)) := by rw [← hw0]; exact heap_alloc_new _ _
  have hlt : (World.heap w).size < wa.heap.size := (Array.getElem?_eq_some_iff.1 hblk).1
  have hB0 : Below (World.heap w).size w wa := by rw [← hw0]; exact (Below.refl _ _).alloc (Nat.le_refl _) _
  clear hw0
  have HX := Lib.hid (And.intro hblk (And.intro hlt hB0))
  clear hblk hlt hB0
  go_wp2_with fail
  refine (HK.out.1 _ HX.out.2.2).mono ?_
  rintro e w1 ⟨rfl, hB1⟩
  have H1 := Lib.hid (And.intro (LeB.tr HX.out.2.2 hB1) ((hB1.block _ HX.out.2.1).trans HX.out.1))
  clear hB1
  go_wp2_with fail
  refine (HK.out.2.1 _ H1.out.1).mono ?_
  rintro e w2 ⟨rfl, hB1⟩
  have H2 := Lib.hid (And.intro (LeB.tr H1.out.1 hB1) ((hB1.block _ (Array.getElem?_eq_some_iff.1 H1.out.2).1).trans H1.out.2))
  clear hB1
  go_wp2_with fail
  refine (HK.out.2.2.1 _ H2.out.1).mono ?_
  rintro e w3 ⟨rfl, hB1⟩
  have H3 := Lib.hid (And.intro (LeB.tr H2.out.1 hB1) ((hB1.block _ (Array.getElem?_eq_some_iff.1 H2.out.2).1).trans H2.out.2))
  clear hB1
  go_upto_region 5 with (fail)
  generalize hw0 : World.alloc w3 (.cells y.cells 54) = wb
  have hblk : wb.heap[World.heap w3 |>.size]? = some (.cells y.cells 54 (0, 0)) := by rw [← hw0]; exact heap_alloc_new _ _
  have hlt : (World.heap w3).size < wb.heap.size := (Array.getElem?_eq_some_iff.1 hblk).1
  have hB0 : Below (World.heap w3).size w3 wb := by rw [← hw0]; exact (Below.refl _ _).alloc (Nat.le_refl _) _
  clear hw0
  have hr1 := (hB0.block _ (Array.getElem?_eq_some_iff.1 H3.out.2).1).trans H3.out.2
  have hJ0 : JN w w.heap.size w3.heap.size y.cells 0 wb := ⟨LeB.tr H3.out.1 hB0, .inl hr1, hblk⟩
  have HJ := Lib.hid hJ0
  have hcell : ∀ W, ∀ {m : Nat}, JN w w.heap.size w3.heap.size y.cells m W → W.cell? ⟨w3.heap.size, 0, none⟩ = some (.int .i64 (y.ip : Int)) ∧ W.cell? ⟨w3.heap.size, 1, none⟩ = some (.int .i64 (y.bits : Int)) := fun W m hW => ⟨blk_cell hW.2.2 0, blk_cell hW.2.2 1⟩
  clear hblk hlt hB0 hr1 hJ0
  refine wp_region_lex 13 (by kernel_rfl) (by kernel_rfl) (JN w w.heap.size w3.heap.size y.cells) (LeN w.heap.size y.cells) (rnφ w.heap.size y.cells) rnφ_st (fun _ _ h => h) ?_ ?_
  · exact ⟨HJ.out.1.drew, HJ.out.2.1, HJ.out.2.2⟩
  simp only [List.take_succ_cons, List.take_zero, List.drop_succ_cons, List.drop_zero, pairs, List.zipIdx_cons, List.zipIdx_nil, List.map_cons, List.map_nil, Nat.zero_add, Nat.reduceAdd]
  refine LexG.out ?_
  (repeat (first | (refine lexg_pure rfl rfl (fun K hK => ?_); go_simp; refine hK _ ?_; clear hK K; try simp (disch := omega) only [IntWalk.i64_in, IntWalk.u8_in, Int.add_sub_cancel, Int.tmod_eq_emod_of_nonneg, Int.tdiv_eq_ediv_of_nonneg]) | (refine lexg_load rfl rfl _ (fun m W hJ hF => (by have cc := hcell W hJ; go_simp; rfl)) ?_; try simp (disch := omega) only [IntWalk.i64_in, IntWalk.u8_in, Int.add_sub_cancel, Int.tmod_eq_emod_of_nonneg, Int.tdiv_eq_ediv_of_nonneg]) | (refine lexg_skip rfl rfl rfl rfl rfl (fun K hK => ?_); go_simp; refine hK _ ?_; clear hK K) | (refine lexg_skipU rfl rfl rfl rfl (fun K hK => ?_); go_simp; refine hK _ ?_; clear hK K) | (refine lexg_pureG rfl rfl rfl rfl rfl rfl (fun K hK => ?_); go_simp; refine hK _ ?_; clear hK K; try simp (disch := omega) only [IntWalk.i64_in, IntWalk.u8_in, Int.add_sub_cancel, Int.tmod_eq_emod_of_nonneg, Int.tdiv_eq_ediv_of_nonneg]) | (refine lexg_loadG rfl rfl rfl rfl rfl rfl _ (fun m W hJ hF => (by have cc := hcell W hJ; go_simp; rfl)) ?_; try simp (disch := omega) only [IntWalk.i64_in, IntWalk.u8_in, Int.add_sub_cancel, Int.tmod_eq_emod_of_nonneg, Int.tdiv_eq_ediv_of_nonneg])))
  refine lexg_effG (sp := fun _ v _ => v = .bool true) rfl rfl rfl rfl rfl rfl (by intro _ _ _ _ h; exact h) (fun m W hJ hF => ?_) (fun v x hh => ?_)
  · refine gives_call Tryd.call32 ((NetOK_ok y HK.out.2.2.2 W).mono ?_)
    rintro e w' ⟨rfl, h4⟩
    exact ⟨_, rfl, (hJ.step h4).1, (hJ.step h4).2, rfl⟩
  obtain ⟨_, _, -, rfl⟩ := hh
  (repeat (first | (refine lexg_pure rfl rfl (fun K hK => ?_); go_simp; refine hK _ ?_; clear hK K; try simp (disch := omega) only [IntWalk.i64_in, IntWalk.u8_in, Int.add_sub_cancel, Int.tmod_eq_emod_of_nonneg, Int.tdiv_eq_ediv_of_nonneg]) | (refine lexg_load rfl rfl _ (fun m W hJ hF => (by have cc := hcell W hJ; go_simp; rfl)) ?_; try simp (disch := omega) only [IntWalk.i64_in, IntWalk.u8_in, Int.add_sub_cancel, Int.tmod_eq_emod_of_nonneg, Int.tdiv_eq_ediv_of_nonneg]) | (refine lexg_skip rfl rfl rfl rfl rfl (fun K hK => ?_); go_simp; refine hK _ ?_; clear hK K) | (refine lexg_skipU rfl rfl rfl rfl (fun K hK => ?_); go_simp; refine hK _ ?_; clear hK K) | (refine lexg_pureG rfl rfl rfl rfl rfl rfl (fun K hK => ?_); go_simp; refine hK _ ?_; clear hK K; try simp (disch := omega) only [IntWalk.i64_in, IntWalk.u8_in, Int.add_sub_cancel, Int.tmod_eq_emod_of_nonneg, Int.tdiv_eq_ediv_of_nonneg]) | (refine lexg_loadG rfl rfl rfl rfl rfl rfl _ (fun m W hJ hF => (by have cc := hcell W hJ; go_simp; rfl)) ?_; try simp (disch := omega) only [IntWalk.i64_in, IntWalk.u8_in, Int.add_sub_cancel, Int.tmod_eq_emod_of_nonneg, Int.tdiv_eq_ediv_of_nonneg])))
  refine lexg_eff (sp := fun _ _ W => W.heap[w.heap.size]? = some (.cells y.cells 54 (0, 0))) rfl rfl (by intro _ _ _ _ h; exact h) (fun m W hJ hF => ?_) (fun v x hh => ?_) rfl
  · obtain ⟨j1, j2, j3⟩ := hJ
    have hd : w3.heap.size ≠ w.heap.size := by have := H3.out.2; have := (Array.getElem?_eq_some_iff.1 this).1; omega
    rcases j2 with j2 | j2
    all_goals
      refine gives_storeN _ _ 54 rfl w.heap.size 54 _ y.cells rfl rfl j2 rfl Nt.info rfl ?_
      exact ⟨⟨below_setRow j1 (Nat.le_refl _) _, .inr (setRow_heap W w.heap.size _ y.cells _ _ j2), (setRow_other _ _ _ _ hd).trans j3⟩, fun _ => setRow_heap W w.heap.size _ y.cells _ _ j2, setRow_heap W w.heap.size _ y.cells _ _ j2⟩
  clear hh
  refine lexg_nil (fun m W hJ hF => ?_)
  have hfin := hF 12 rfl _ _ _ rfl rfl
  have H5 := Lib.hid (And.intro hJ.1 hfin)
  clear hF hJ hcell hfin
  go_wp2_with fail
  refine bodyPost_ret (ret_cell_tmp rfl rfl H5.out.2 Tryd.underlying54 rfl Nt.info) rfl ?_
  exact ⟨rfl, H5.out.1⟩
theorem ReadNet_ok (x : Nt) (hx : x ∈ N6) (w : World) (hw : StdW w) : Calls Tryd.prog 31 #[.string (ntText x)] w fun e w' => e = .returned (.tuple #[.agg x.cells, .int .i64 0]) ∧ LeB w w' := by
  have hsz := ntText_size x (by have := n6_bd hx; omega)
  have c1 := fun W (h : LeB w W) => readNet_ok x hx W (hw.below h)
  obtain ⟨t, ht⟩ : ∃ t, ntText x = t := ⟨_, rfl⟩
  rw [ht] at c1 hsz ⊢
  have HK := Lib.hid c1
  have hsI : (t.size : Int) ≤ 18 := by omega
  clear c1 hsz ht hw hx
  go_enter Tryd.func31, Tryd.ntmps31
  go_upto_region 1 with (fail)
  generalize hw0 : World.alloc w (.cells #[.int .i64 0, .int .i64 0] 54) = wa
  have hblk : wa.heap[World.heap w |>.size]? = some (.cells #[.int .i64 0, .int .i64 0] 54 (0, 0)) := by rw [← hw0]; exact heap_alloc_new _ _
  have hlt : (World.heap w).size < wa.heap.size := (Array.getElem?_eq_some_iff.1 hblk).1
  have hB0 : Below (World.heap w).size w wa := by rw [← hw0]; exact (Below.refl _ _).alloc (Nat.le_refl _) _
  clear hw0
  have HX := Lib.hid (And.intro hblk (And.intro hlt hB0))
  clear hblk hlt hB0
  go_wp2_with fail
  refine (HK.out _ HX.out.2.2).mono ?_
  rintro e w1 ⟨rfl, hB1⟩
  have H1 := Lib.hid (And.intro (LeB.tr HX.out.2.2 hB1) ((hB1.block _ HX.out.2.1).trans HX.out.1))
  clear hB1
  go_upto_region 4 with (fail)
  generalize hw0 : World.alloc w1 (.cells x.cells 54) = wb
  have hblk : wb.heap[World.heap w1 |>.size]? = some (.cells x.cells 54 (0, 0)) := by rw [← hw0]; exact heap_alloc_new _ _
  have hlt : (World.heap w1).size < wb.heap.size := (Array.getElem?_eq_some_iff.1 hblk).1
  have hB0 : Below (World.heap w1).size w1 wb := by rw [← hw0]; exact (Below.refl _ _).alloc (Nat.le_refl _) _
  clear hw0
  have hr1 := (hB0.block _ (Array.getElem?_eq_some_iff.1 H1.out.2).1).trans H1.out.2
  have H2 := Lib.hid (And.intro (LeB.tr H1.out.1 hB0) hr1)
  have c0 := blk_cell hblk 0
  have c1 := blk_cell hblk 1
  simp at c0 c1
  clear hblk hlt hB0 hr1
  go_wp2_with (refine wpList_store_row rfl _ _ 54 rfl w.heap.size 54 #[.int .i64 0, .int .i64 0] x.cells rfl rfl H2.out.2 rfl Nt.info rfl ?_)
  refine bodyPost_ret (ret_cell_tmp rfl rfl (setRow_heap _ _ _ _ _ _ H2.out.2) Tryd.underlying54 rfl Nt.info) rfl ?_
  exact ⟨rfl, below_setRow H2.out.1 (Nat.le_refl _) _⟩
end Go.Proofs.YtmjddgdcokbmeaaDoor
