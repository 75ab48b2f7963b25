/- Flows: one is opened, as called (both hands). -/
import Derived.Test.YtdenjmdngmmodaaFlO
namespace Go.Proofs.Ytdenjmdngmmodaa
open Go.RowKit
set_option linter.unusedVariables false
set_option linter.unusedSimpArgs false
set_option maxRecDepth 200000
set_option maxHeartbeats 4000000

/-- A list of its own, as a slice. -/
def OwnSl (B : Nat) (l : List Fl) : Spec := fun _ v w => ∃ A c, v = .slice A l.length c ∧ l.length ≤ c ∧ w.ownsRow B 73 9 (.slice A l.length c) l.length (rowC flc l)
def foφ (B : Nat) (l : List Fl) (r : Int × List Fl) : Nat → Option Spec
  | 1 => some (OwnSl B l)
  | 4 => some fun _ v w => ∃ v2, v = .tuple #[v2, .int .i64 r.1] ∧ w.ownsRow B 73 9 v2 r.2.length (rowC flc r.2)
  | _ => none
def LeF (B : Nat) (l m : List Fl) (w w' : World) : Prop := KeepO B l w w' ∧ KeepO B m w w'
theorem foφ_st {B : Nat} {l : List Fl} {r : Int × List Fl} : ∀ j sp x v w w', foφ B l r j = some sp → LeF B l r.2 w w' → sp x v w → sp x v w' := by
  intro j sp x v w w' hj hL h
  unfold foφ at hj
  split at hj
  · cases hj
    obtain ⟨A, c, h1, h2, h3⟩ := h
    exact ⟨A, c, h1, h2, hL.1 _ h3⟩
  · cases hj
    obtain ⟨v2, h1, h2⟩ := h
    exact ⟨v2, h1, hL.2 _ h2⟩
  · cases hj
theorem FlowOpen_ok (A : Option Addr) (c : Nat) (l : List Fl) (hok : FlsOK l) (hc : l.length ≤ c) (f : Fl) (hf : FlOK f) (now : Nat) (hn : now ≤ 100000) (r : Int × List Fl) (hR : openC l f now = r) (w : World) (hr : Rd w A (rowC flc l)) :
    Calls Try.prog 39 #[.slice A l.length c, .agg f.cells, .int .i64 now] w fun e w' => ∃ v, e = .returned (.tuple #[v, .int .i64 r.1]) ∧ w'.ownsRow w.heap.size 73 9 v r.2.length (rowC flc r.2) ∧ LeB w w' := by
  have hll : l.length ≤ 8 := hok.len
  have HK := Lib.hid (And.intro hok (And.intro hr (And.intro hR (And.intro hf hn))))
  clear hok hr hR hf
  go_enter Try.func39, Try.ntmps39
  go_upto_region 1 with (fail)
  generalize hw0 : World.alloc w (.cells f.cells 73) = wa
  have hblk : wa.heap[World.heap w |>.size]? = some (.cells f.cells 73 (0, 0)) := by rw [← hw0]; exact heap_alloc_new _ _
  have hlt : (World.heap w).size < wa.heap.size := (Array.getElem?_eq_some_iff.1 hblk).1
  have hB0 : Below (World.heap w).size w wa := by rw [← hw0]; exact (Below.refl _ _).alloc (Nat.le_refl _) _
  clear hw0
  have HX := Lib.hid (And.intro hblk (And.intro hlt hB0))
  clear hblk hlt hB0
  go_wp2_with fail
  refine (flowsFault_ok A c l HK.out.1 hc wa (HK.out.2.1.below HX.out.2.2 (Nat.le_refl _))).mono ?_
  rintro e w1 ⟨rfl, hB1⟩
  have hb1 := (hB1.block _ HX.out.2.1).trans HX.out.1
  have H1 := Lib.hid (And.intro (LeB.tr HX.out.2.2 hB1) hb1)
  clear hB1 hb1
  go_wp2_with fail
  refine (endsOK_ok f HK.out.2.2.2.1 _ w1 (FlAt.blk H1.out.2)).mono ?_
  rintro e w1' ⟨rfl, rfl⟩
  go_wp2_with fail
  refine (isTime_ok now HK.out.2.2.2.2 _).mono ?_
  rintro e w1' ⟨rfl, rfl⟩
  go_wp2_with fail
  have hbl := (Array.getElem?_eq_some_iff.1 H1.out.2).1
  refine wp_region_lex 7 (by kernel_rfl) (by kernel_rfl) (JB w1) (LeF w1.heap.size l r.2) (foφ w1.heap.size l r) foφ_st JB.mono ?_ ?_
  · exact (Below.refl _ _).drew
  simp only [List.take_succ_cons, List.take_zero, List.drop_succ_cons, List.drop_zero, pairs, List.zipIdx_cons, List.zipIdx_nil, List.map_cons, List.map_nil, Nat.zero_add, Nat.reduceAdd]
  (repeat (refine lex_pure rfl rfl (fun K hK => ?_); go_simp; refine hK _ ?_; clear hK K; try simp (disch := omega) only [IntWalk.i64_in, IntWalk.u8_in, Int.add_sub_cancel, Int.tmod_eq_emod_of_nonneg, Int.tdiv_eq_ediv_of_nonneg]))
  refine lex_eff' (sp := OwnSl w1.heap.size l) rfl rfl (by intro _ _ _ _ h; exact h) (fun m W hJ hF => ?_) (fun v x hh => ?_) rfl
  · refine gives_call Try.call86 ((Clone_ok A c l (by omega) W (HK.out.2.1.below (LeB.tr H1.out.1 hJ) (Nat.le_refl _))).mono ?_)
    rintro e w' ⟨v, rfl, hown, h4⟩
    obtain ⟨A1, c1, rfl, hc1, -, -⟩ := own_slice hown
    exact ⟨_, rfl, hJ.step h4, ⟨KeepO.of h4, KeepO.of h4⟩, A1, c1, rfl, hc1, own_base hown hJ.size⟩
  obtain ⟨_, _, -, ⟨A1, c1, rfl, hc1, -⟩, -⟩ := hh
  refine lex_load rfl rfl (.agg f.cells) (fun m W hJ hF => run_exec_loadF rfl rfl ((hJ.block _ hbl).trans H1.out.2) Try.underlying73 rfl infoFl) ?_
  (repeat (refine lex_pure rfl rfl (fun K hK => ?_); go_simp; refine hK _ ?_; clear hK K; try simp (disch := omega) only [IntWalk.i64_in, IntWalk.u8_in, Int.add_sub_cancel, Int.tmod_eq_emod_of_nonneg, Int.tdiv_eq_ediv_of_nonneg]))
  refine lex_eff' (sp := fun _ v w => ∃ v2, v = .tuple #[v2, .int .i64 r.1] ∧ w.ownsRow w1.heap.size 73 9 v2 r.2.length (rowC flc r.2)) rfl rfl (by intro _ _ _ _ h; exact h) (fun m W hJ hF => ?_) (fun v x hh => ?_) rfl
  · obtain ⟨A2, c2, e2, hc2, hown⟩ := hF 1 (by kernel_rfl) _ _ _ (by simp [upd]; exact ⟨rfl, rfl⟩) rfl
    injection e2 with e21 e22 e23
    subst e21 e23
    refine gives_call Try.call95 ((flowOpen_ok hown hJ hc2 hll f now HK.out.2.2.2.2 r HK.out.2.2.1).mono ?_)
    rintro e w' ⟨h4, hk1, hk2, v2, rfl, ho⟩
    exact ⟨_, rfl, h4, ⟨hk1, hk2⟩, v2, rfl, ho⟩
  obtain ⟨_, _, -, ⟨v2, rfl, -⟩, -⟩ := hh
  (repeat (refine lex_pure rfl rfl (fun K hK => ?_); go_simp; refine hK _ ?_; clear hK K; try simp (disch := omega) only [IntWalk.i64_in, IntWalk.u8_in, Int.add_sub_cancel, Int.tmod_eq_emod_of_nonneg, Int.tdiv_eq_ediv_of_nonneg]))
  refine lex_nil (fun m W hJ hF => ?_)
  obtain ⟨v2', e2, ho⟩ := hF 4 rfl _ _ _ (by simp [upd]; exact ⟨rfl, rfl⟩) rfl
  have e3 : v2 = v2' := by simpa using e2
  subst e3
  have HZ := Lib.hid (And.intro (own_base ho H1.out.1.size) (LeB.tr H1.out.1 hJ))
  clear ho hF hJ
  go_wp2_with fail
  refine bodyPost_ret (v := .tuple #[v2, .int .i64 r.1]) (by simp [results, go_sem]) rfl ⟨v2, rfl, HZ.out.1, HZ.out.2⟩
theorem sFlowOpen_ok (A : Option Addr) (c : Nat) (l : List Fl) (hok : FlsOK l) (hc : l.length ≤ c) (f : Fl) (hf : FlOK f) (now : Nat) (hn : now ≤ 100000) (r : Int × List Fl) (hR : openC l f now = r) (w : World) (hr : Rd w A (rowC flc l)) :
    Calls Try.prog 40 #[.slice A l.length c, .agg f.cells, .int .i64 now] w fun e w' => ∃ v, e = .returned (.tuple #[v, .int .i64 r.1]) ∧ w'.ownsRow w.heap.size 73 9 v r.2.length (rowC flc r.2) ∧ LeB w w' := by
  have hll : l.length ≤ 8 := hok.len
  have hl4 : decide ((4096 : Int) < l.length) = false := decide_eq_false (by omega)
  have e3 : decide ((0 : Int) ≤ now ∧ (now : Int) ≤ 100000) = true := decide_eq_true (by omega)
  have HK := Lib.hid (And.intro hok (And.intro hr (And.intro hR (And.intro hf hn))))
  clear hok hr hR hf
  go_enter Try.func40, Try.ntmps40
  go_upto_region 1 with (fail)
  generalize hw0 : World.alloc w (.cells f.cells 73) = wa
  have hblk : wa.heap[World.heap w |>.size]? = some (.cells f.cells 73 (0, 0)) := by rw [← hw0]; exact heap_alloc_new _ _
  have hlt : (World.heap w).size < wa.heap.size := (Array.getElem?_eq_some_iff.1 hblk).1
  have hB0 : Below (World.heap w).size w wa := by rw [← hw0]; exact (Below.refl _ _).alloc (Nat.le_refl _) _
  clear hw0
  have c6 : wa.cell? ⟨w.heap.size, 6, none⟩ = some (.int .i64 f.st) := blk_cell hblk 6
  have f6 := blk_free hblk 6
  have HX := Lib.hid (And.intro hblk (And.intro hlt hB0))
  clear hblk hlt hB0
  go_upto_region 4 with (fail)
  obtain ⟨x0, hx0, hb0, hL0, hz0⟩ := blk_put (k := 6) (u := .int .i64 1) HX.out.1 HX.out.2.2 (Nat.le_refl _) (cells_st f 1)
  rw [hx0]
  clear hx0 c6 f6 hz0
  have c7 : x0.cell? ⟨w.heap.size, 7, none⟩ = some (.int .i64 f.til) := blk_cell hb0 7
  have f7 := blk_free hb0 7
  have H0 := Lib.hid (And.intro hb0 hL0)
  clear hb0 hL0
  go_upto_region 5 with (fail)
  obtain ⟨x1, hx1, hb1, hL1, hz1⟩ := blk_put (k := 7) (u := .int .i64 0) H0.out.1 H0.out.2 (Nat.le_refl _) (cells_til { f with st := 1 } 0)
  rw [hx1]
  clear hx1 c7 f7 hz1
  have H1 := Lib.hid (And.intro hb1 hL1)
  clear hb1 hL1
  go_wp2_with fail
  refine (sFlowsOK_true A c l HK.out.1 hc x1 (HK.out.2.1.below H1.out.2 (Nat.le_refl _))).mono ?_
  rintro e x2 ⟨rfl, hB2⟩
  have hb2 := (hB2.block _ (Array.getElem?_eq_some_iff.1 H1.out.1).1).trans H1.out.1
  have H2 := Lib.hid (And.intro hb2 (LeB.tr H1.out.2 hB2))
  clear hB2 hb2
  have q0 := blk_cell H2.out.1 0
  have q1 := blk_cell H2.out.1 1
  have q2 := blk_cell H2.out.1 2
  have q3 := blk_cell H2.out.1 3
  have q4 := blk_cell H2.out.1 4
  have q5 := blk_cell H2.out.1 5
  have q6 := blk_cell H2.out.1 6
  have q7 := blk_cell H2.out.1 7
  have q8 := blk_cell H2.out.1 8
  simp at q0 q1 q2 q3 q4 q5 q6 q7 q8
  go_wp2_with fail
  refine (l09Flow_true { f with st := 1, til := 0 } ⟨HK.out.2.2.2.1.proto, HK.out.2.2.2.1.mac, HK.out.2.2.2.1.sip, HK.out.2.2.2.1.sport, HK.out.2.2.2.1.dip, HK.out.2.2.2.1.dport, Nat.le_refl _, by show 1 ≤ 3; omega, by show 0 ≤ 100100; omega, HK.out.2.2.2.1.own⟩ x2).mono ?_
  rintro e x3 ⟨rfl, hB3⟩
  have hb3 := (hB3.block _ (Array.getElem?_eq_some_iff.1 H2.out.1).1).trans H2.out.1
  have H3 := Lib.hid (And.intro hb3 (LeB.tr H2.out.2 hB3))
  clear hB3 hb3 q0 q1 q2 q3 q4 q5 q6 q7 q8
  go_wp2_with fail
  refine (l01In_ok _ _ _ _).mono ?_
  rintro e x3' ⟨rfl, rfl⟩
  rw [e3]
  clear e3
  have q0 := blk_cell H3.out.1 0
  have q1 := blk_cell H3.out.1 1
  have q2 := blk_cell H3.out.1 2
  have q3 := blk_cell H3.out.1 3
  have q4 := blk_cell H3.out.1 4
  have q5 := blk_cell H3.out.1 5
  have q6 := blk_cell H3.out.1 6
  have q7 := blk_cell H3.out.1 7
  have q8 := blk_cell H3.out.1 8
  simp at q0 q1 q2 q3 q4 q5 q6 q7 q8
  go_wp2_with fail
  refine (l09Find_ok A c l (by omega) hc f.proto f.sip f.sport f.dip f.dport x3 (HK.out.2.1.below H3.out.2 (Nat.le_refl _))).mono ?_
  rintro e x4 ⟨k, t, rfl, hk, hB4⟩
  have hb4 := (hB4.block _ (Array.getElem?_eq_some_iff.1 H3.out.1).1).trans H3.out.1
  have H4 := Lib.hid (And.intro hb4 (LeB.tr H3.out.2 hB4))
  have hr := HK.out.2.2.1
  unfold openC at hr
  clear hB4 hb4 q0 q1 q2 q3 q4 q5 q6 q7 q8
  by_cases h0 : k < 0
  · rw [if_pos (find_neg.2 (hk.1 h0))] at hr
    have HR := Lib.hid hr
    clear hr hk
    have h0I : decide ((0 : Int) ≤ k) = false := decide_eq_false (by omega)
    have q0 := blk_cell H4.out.1 0
    have q1 := blk_cell H4.out.1 1
    have q2 := blk_cell H4.out.1 2
    have q3 := blk_cell H4.out.1 3
    have q4 := blk_cell H4.out.1 4
    have q5 := blk_cell H4.out.1 5
    have q6 := blk_cell H4.out.1 6
    have q7 := blk_cell H4.out.1 7
    have q8 := blk_cell H4.out.1 8
    simp at q0 q1 q2 q3 q4 q5 q6 q7 q8
    go_wp2_with fail
    refine (l09Open_ok A c l (by omega) hc { f with st := 1, til := 0 } now HK.out.2.2.2.2 x4 (HK.out.2.1.below H4.out.2 (Nat.le_refl _))).mono ?_
    rintro e x5 ⟨hB5, h5⟩
    clear q0 q1 q2 q3 q4 q5 q6 q7 q8
    rcases h5 with ⟨h8, rfl⟩ | ⟨h8, v5, rfl, hown5⟩
    · have HR2 := HR.out
      rw [if_pos h8] at HR2
      have H5 := Lib.hid (And.intro HR2 (LeB.tr H4.out.2 hB5))
      clear HR2 hB5 h8
      go_wp2_with (at_builtin; refine Hid.out ?_)
      refine Lib.hid ?_
      have hB0 : LeB x5 (x5.alloc (.cells #[] 73)) := (Below.refl _ _).alloc (Nat.le_refl _) _
      obtain ⟨v3, w3, hrun, hown3, hB3⟩ := append_new _ x5.heap.size x5.heap.size (heap_alloc_new x5 _) (Nat.le_refl _) A c l (HK.out.2.1.below (LeB.tr H5.out.2 hB0) (Nat.le_refl _)) (by omega)
      refine wpList_append_run rfl _ _ _ _ rfl rfl rfl hrun ?_
      have H6 := Lib.hid (And.intro (own_base hown3 H5.out.2.size) (LeB.tr H5.out.2 (LeB.tr hB0 hB3)))
      clear hrun hown3 hB3 hB0
      go_wp2_with fail
      refine bodyPost_ret (v := .tuple #[v3, .int .i64 7]) (by simp [results, go_sem]) rfl ?_
      rw [← H5.out.1]
      exact ⟨v3, rfl, H6.out.1, H6.out.2⟩
    · have HR2 := HR.out
      rw [if_neg h8] at HR2
      obtain ⟨A5, c5, rfl, hc5, -, -⟩ := own_slice hown5
      have H5 := Lib.hid (And.intro HR2 (And.intro (LeB.tr H4.out.2 hB5) (Rd.of_own hown5)))
      have hl9 : (l ++ [openF { f with st := 1, til := 0 } now]).length ≤ 100000 := by simp; omega
      have HL9 := Lib.hid hl9
      clear HR2 hB5 h8 hown5 hl9
      obtain ⟨M, hM⟩ : ∃ M, l ++ [openF { f with st := 1, til := 0 } now] = M := ⟨_, rfl⟩
      rw [hM] at H5 HL9 hc5 ⊢
      have HM := Lib.hid hM
      clear hM
      go_wp2_with (at_builtin; refine Hid.out ?_)
      refine Lib.hid ?_
      have hB0 : LeB x5 (x5.alloc (.cells #[] 73)) := (Below.refl _ _).alloc (Nat.le_refl _) _
      obtain ⟨v3, w3, hrun, hown3, hB3⟩ := append_new _ x5.heap.size x5.heap.size (heap_alloc_new x5 _) (Nat.le_refl _) A5 c5 M (H5.out.2.2.below hB0 (Nat.le_refl _)) HL9.out
      refine wpList_append_run rfl _ _ _ _ rfl rfl rfl hrun ?_
      have H6 := Lib.hid (And.intro (own_base hown3 H5.out.2.1.size) (LeB.tr H5.out.2.1 (LeB.tr hB0 hB3)))
      clear hrun hown3 hB3 hB0
      go_wp2_with fail
      refine bodyPost_ret (v := .tuple #[v3, .int .i64 0]) (by simp [results, go_sem]) rfl ?_
      rw [← H5.out.1]
      refine ⟨v3, rfl, ?_, H6.out.2⟩
      have h6 := H6.out.1
      rw [← HM.out] at h6
      exact h6
  · rw [if_neg (fun h => h0 (hk.2 (find_neg.1 h)))] at hr
    have HR := Lib.hid hr
    clear hr hk
    have h0I : (0 : Int) ≤ k := by omega
    go_wp2_with (at_builtin; refine Hid.out ?_)
    refine Lib.hid ?_
    have hB0 : LeB x4 (x4.alloc (.cells #[] 73)) := (Below.refl _ _).alloc (Nat.le_refl _) _
    obtain ⟨v3, w3, hrun, hown3, hB3⟩ := append_new _ x4.heap.size x4.heap.size (heap_alloc_new x4 _) (Nat.le_refl _) A c l (HK.out.2.1.below (LeB.tr H4.out.2 hB0) (Nat.le_refl _)) (by omega)
    refine wpList_append_run rfl _ _ _ _ rfl rfl rfl hrun ?_
    have H6 := Lib.hid (And.intro (own_base hown3 H4.out.2.size) (LeB.tr H4.out.2 (LeB.tr hB0 hB3)))
    clear hrun hown3 hB3 hB0
    go_wp2_with fail
    refine bodyPost_ret (v := .tuple #[v3, .int .i64 9]) (by simp [results, go_sem]) rfl ?_
    rw [← HR.out]
    exact ⟨v3, rfl, H6.out.1, H6.out.2⟩
end Go.Proofs.Ytdenjmdngmmodaa
