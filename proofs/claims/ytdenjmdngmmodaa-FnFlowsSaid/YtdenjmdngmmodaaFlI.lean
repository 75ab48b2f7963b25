/- Flows: slices.Delete, and one passes. -/
import Derived.Test.YtdenjmdngmmodaaFlH
namespace Go.Proofs.Ytdenjmdngmmodaa
open Go.RowKit
set_option linter.unusedVariables false
set_option linter.unusedSimpArgs false
set_option maxRecDepth 200000
set_option maxHeartbeats 40000000

theorem flZ (w : World) : (zeroValue 73).run Try.prog w = .ok (.agg flZero) w := by
  obtain ⟨i, hi, hz, -, -⟩ := info_parts info_fl
  simp [zeroValue, typeInfo, hi, hz]
theorem Delete_ok {w0 w : World} {g c : Nat} {l : List Fl} (h : OwnAt w0 w g c l) (hl : l.length ≤ 100000) (k : Nat) (hk : k < l.length) :
    Calls Try.prog 125 #[.slice (some ⟨g, 0, none⟩) l.length c, .int .i64 k, .int .i64 ((k : Int) + 1)] w fun e w' => e = .returned (.slice (some ⟨g, 0, none⟩) (l.eraseIdx k).length c) ∧ OwnAt w0 w' g c (l.eraseIdx k) := by
  have HO := Lib.hid h
  have hc := h.hc
  have hkI : (k : Int) < l.length := by omega
  have hk1I : (k : Int) + 1 ≤ l.length := by omega
  have hcI : (l.length : Int) ≤ c := by omega
  have hkcI : (k : Int) ≤ c := by omega
  have hk0I : (0 : Int) ≤ (k : Int) + 1 := by omega
  have hne : ((k : Int) == (k : Int) + 1) = false := by simp; omega
  have hkk : (k : Int) ≤ (k : Int) + 1 := by omega
  clear h
  go_enter Try.func125, Try.ntmps125
  go_wp2_with fail
  clear hne
  refine wp_region_lex 6 (by kernel_rfl) (by kernel_rfl) (JB w) LeB (fun _ => none) (fun _ _ _ _ _ _ h => by cases h) JB.mono ?_ ?_
  · exact (Below.refl _ _).drew
  simp only [List.take_succ_cons, List.take_zero, List.drop_succ_cons, List.drop_zero, pairs, List.zipIdx_cons, List.zipIdx_nil, List.map_cons, List.map_nil, Nat.zero_add, Nat.reduceAdd]
  (repeat (refine lex_pure rfl rfl (fun K hK => ?_); go_simp; refine hK _ ?_; clear hK K; try simp (disch := omega) only [IntWalk.i64_in, IntWalk.u8_in, Int.add_sub_cancel, Int.tmod_eq_emod_of_nonneg, Int.tdiv_eq_ediv_of_nonneg]))
  refine lex_nil (fun m W hJ hF => ?_)
  have O := HO.out.below hJ
  obtain ⟨cur, hb, hs, hh⟩ := O.ex
  have hrd := rd_dropN flc_len O.rd O.hc (k + 1) (by omega)
  rw [show (⟨g, 0, none⟩ : Addr).add ((k + 1) * 9) = ⟨g, (k + 1) * 9, none⟩ from by rw [Addr.add_lit, Nat.zero_add]] at hrd
  obtain ⟨i, hi, hz, hsz, hby⟩ := info_parts info_fl
  have hnl : (rowC flc (l.drop (k + 1))).length = (l.length - (k + 1)) * 9 := by rw [rowC_len flc_len, List.length_drop]
  have hrun := run_append_lay (P := Try.prog) W 64 64 73 i Try.underlying64 hi g k c 73 cur hb _ (l.length - (k + 1)) (c - (k + 1)) (rowC flc (l.drop (k + 1))) (by rw [hnl, hsz]) (by split <;> simp) hrd (rowC_one flc_one _) (by omega) (by rw [hnl, hsz, hs]; omega)
  rw [hsz] at hrun
  refine wpList_append_run rfl _ _ _ _ rfl rfl rfl hrun ?_
  have hz1 : k * 9 + (rowC flc (l.drop (k + 1))).length ≤ cur.size := by rw [hnl, hs]; omega
  obtain ⟨W1, cur1, hW1, hb1, hs1, hh1, hL1⟩ : ∃ x cur1, W.setRow g (layC cur (k * 9) (rowC flc (l.drop (k + 1)))) = x ∧ x.heap[g]? = some (.cells cur1 73 (0, 0)) ∧ cur1.size = c * 9 ∧ Heads flc (l.eraseIdx k) cur1 ∧ LeB w0 x :=
    ⟨_, _, rfl, setRow_heap _ _ _ _ _ _ hb, by rw [layC_size _ _ _ hz1, hs], hh.erase flc_len k hk, below_setRow O.bl O.hg _⟩
  rw [hW1]
  have he : (l.eraseIdx k).length = l.length - 1 := by rw [List.length_eraseIdx, if_pos hk]
  have hsum : ((k : Int) + (l.length - (k + 1) : Nat)) = (l.length : Int) - 1 := by omega
  have hn1 : k + (l.length - (k + 1)) = l.length - 1 := by omega
  rw [hn1]
  have H1 := Lib.hid (And.intro hb1 (And.intro hs1 (And.intro hh1 (And.intro hL1 he))))
  clear hrun hW1 hz1 hnl hz hi hsz hby hrd hh hs hb O hF hJ hb1 hs1 hh1 hL1 he hsum hn1
  have m0I : ((l.length - 1 : Nat) : Int) ≤ l.length := by omega
  have hcl := fun ty => run_clear_lay (P := Try.prog) W1 64 73 ty (.agg flZero) Try.underlying64 flZ g ((l.length - 1) * 9) (l.length - (l.length - 1)) (c - (l.length - 1)) 73 cur1 H1.out.1 (by intro u hu; have h := flc_one ⟨0, ⟨#[]⟩, 0, 0, 0, 0, 0, 0, 0⟩ u hu; exact h) (by decide) (by rw [H1.out.2.1]; show (l.length - 1) * 9 + (l.length - (l.length - 1)) * 9 ≤ c * 9; omega)
  obtain ⟨W2, hW2, X2⟩ : ∃ x, W1.setRow g (layC cur1 ((l.length - 1) * 9) (Builtin.zeroCells (Value.agg flZero).cells (l.length - (l.length - 1))).toList) = x ∧ OwnAt w0 x g c (l.eraseIdx k) := by
    have hzl : (Builtin.zeroCells (Value.agg flZero).cells (l.length - (l.length - 1))).toList.length = (l.length - (l.length - 1)) * 9 := by simp [Builtin.zeroCells]; rfl
    refine ⟨_, rfl, ⟨_, setRow_heap _ _ _ _ _ _ H1.out.1, ?_, ?_⟩, HO.out.hg, by rw [H1.out.2.2.2.2]; omega, HO.out.hm, below_setRow H1.out.2.2.2.1 HO.out.hg _⟩
    · rw [layC_size _ _ _ (by rw [hzl, H1.out.2.1]; omega), H1.out.2.1]
    · exact H1.out.2.2.1.behind flc_len _ (by rw [H1.out.2.2.2.2]; exact Nat.le_refl _) _ (by rw [H1.out.2.1]; omega)
  rw [hW2] at hcl
  have H2 := Lib.hid X2
  clear X2 hW2
  by_cases hck : c = k + 1
  · subst hck
    go_wp2_with fail
    go_ret
    rw [H1.out.2.2.2.2]
    exact ⟨rfl, H2.out⟩
  · go_wp2_with fail
    go_ret
    rw [H1.out.2.2.2.2]
    exact ⟨rfl, H2.out⟩
/-- A flow passes, in a list of its own. -/
theorem flowPass_ok {w0 w : World} {g c1 : Nat} {l : List Fl} (hO : OwnAt w0 w g c1 l) (hl : l.length ≤ 100000) (k : Nat) (hk : k < l.length) (back : Bool) (flags now : Nat) (hfl : flags < 32) (hn : now ≤ 100000) (f : Fl) (hf : l[k] = f) :
    Calls Try.prog 85 #[.slice (some ⟨g, 0, none⟩) l.length c1, .int .i64 k, .bool back, .int .i64 flags, .int .i64 now] w fun e w' => ∃ v, e = .returned v ∧ w'.ownsRow w0.heap.size 73 9 v (passC l k f back flags now).length (rowC flc (passC l k f back flags now)) ∧ LeB w0 w' := by
  have HK := Lib.hid (And.intro trivial (And.intro hl (And.intro hf (And.intro (bits_and4 flags hfl) (bits_and1 flags hfl)))))
  have hkI : (k : Int) < l.length := by omega
  have hk1I : (k : Int) + 1 ≤ l.length := by omega
  have hnI : (now : Int) ≤ 100000 := by omega
  have hc1I : (l.length : Int) ≤ c1 := by have := hO.hc; omega
  have H1 := Lib.hid hO
  clear hO
  have q := H1.out.at_ k hk
  rw [HK.out.2.2.1] at q
  have q0 := q.c0
  have q6 := q.c6
  have f6 := H1.out.free (k * 9 + 6)
  clear q
  have hst : (f.st = 1 ∧ back = true) ∨ (f.st = 1 ∧ back = false) ∨ (((f.st : Int) == 1) = false ∧ f.st ≠ 1) := by
    by_cases h1 : f.st = 1
    · cases back
      · exact .inr (.inl ⟨h1, rfl⟩)
      · exact .inl ⟨h1, rfl⟩
    · exact .inr (.inr ⟨by simp; omega, h1⟩)
  rcases hst with ⟨h1, rfl⟩ | ⟨h1, rfl⟩ | ⟨h1I, h1⟩
  have h1I : (f.st : Int) = 1 := by omega
  have hs1 := Lib.hid (show (if f.st = 1 ∧ true = true then 2 else f.st) = 2 from if_pos ⟨h1, rfl⟩)
  clear h1
  go_enter Try.func85, Try.ntmps85
  go_upto_region 4 with (fail)
  obtain ⟨x, hx, X⟩ := H1.out.put k hk { f with st := 2 } 6 (by omega) (.int .i64 2) (by rw [HK.out.2.2.1]; rfl)
  rw [hx]
  obtain ⟨s1, hse⟩ : ∃ s1, s1 = 2 := ⟨_, rfl⟩
  rw [← hse] at X
  have HX := Lib.hid (And.intro X (hs1.out.trans hse.symm))
  clear X hx hs1 hse h1I q0 q6 f6
  rotate_left
  have h1I : (f.st : Int) = 1 := by omega
  have hs1 := Lib.hid (show (if f.st = 1 ∧ false = true then 2 else f.st) = f.st from if_neg (fun h => by cases h.2))
  clear h1
  go_enter Try.func85, Try.ntmps85
  go_upto_region 4 with (fail)
  obtain ⟨x, hx⟩ : ∃ x, x = w := ⟨_, rfl⟩
  obtain ⟨s1, hse⟩ : ∃ s1, s1 = f.st := ⟨_, rfl⟩
  have X := H1.out
  rw [← set_self l k hk { f with st := s1 } (by rw [hse]; exact HK.out.2.2.1)] at X
  rw [← hx] at X ⊢
  have HX := Lib.hid (And.intro X (hs1.out.trans hse.symm))
  clear X hx hs1 hse h1I q0 q6 f6
  rotate_left
  have hs1 := Lib.hid (show (if f.st = 1 ∧ back = true then 2 else f.st) = f.st from if_neg (fun h => h1 h.1))
  clear h1
  go_enter Try.func85, Try.ntmps85
  go_upto_region 4 with (fail)
  obtain ⟨x, hx⟩ : ∃ x, x = w := ⟨_, rfl⟩
  obtain ⟨s1, hse⟩ : ∃ s1, s1 = f.st := ⟨_, rfl⟩
  have X := H1.out
  rw [← set_self l k hk { f with st := s1 } (by rw [hse]; exact HK.out.2.2.1)] at X
  rw [← hx] at X ⊢
  have HX := Lib.hid (And.intro X (hs1.out.trans hse.symm))
  clear X hx hs1 hse h1I q0 q6 f6
  rotate_left
  all_goals
    have HKM1 := Lib.hid (show k < (l.set k { f with st := s1 }).length by rw [List.length_set]; exact hk)
    have q := HX.out.1.at_ k HKM1.out
    rw [List.getElem_set_self] at q
    have q0 : x.cell? ⟨g, k * 9, none⟩ = some (.int .i64 f.proto) := q.c0
    have q6 : x.cell? ⟨g, k * 9 + 6, none⟩ = some (.int .i64 s1) := q.c6
    have f6 := HX.out.1.free (k * 9 + 6)
    clear q
    by_cases hp : f.proto = 6
    · have hpI : (f.proto : Int) = 6 := by omega
      have HP := Lib.hid hp
      clear hp
      rcases HK.out.2.2.2.1 with ⟨b4, n4⟩ | ⟨b4, n4⟩
      · have N4 := Lib.hid n4
        clear n4
        rcases HK.out.2.2.2.2 with ⟨b1, n1⟩ | ⟨b1, n1⟩
        · have N1 := Lib.hid n1
          clear n1
          go_upto_region 9 with (fail)
          clear q0 q6 f6 b4 b1
          have HKM := Lib.hid (show k < (l.set k { f with st := s1 }).length by rw [List.length_set]; exact hk)
          have HGM := Lib.hid (show ∀ h, (l.set k { f with st := s1 })[k]'h = { f with st := s1 } from fun h => List.getElem_set_self h)
          have hcell : ∀ W, LeB x W → W.cell? ⟨g, k * 9, none⟩ = some (.int .i64 f.proto) ∧ W.cell? ⟨g, k * 9 + 6, none⟩ = some (.int .i64 s1) := fun W hW => by
            have q := ((HX.out.1.below hW).at_ k HKM.out)
            rw [HGM.out] at q
            exact ⟨q.c0, q.c6⟩
          obtain ⟨wt, hwt⟩ : ∃ y, waitC f.proto s1 = y := ⟨_, rfl⟩
          have hwl : wt ≤ 30 := by rw [← hwt]; exact waitC_le _ _
          have HW := Lib.hid hwt
          clear hwt
          refine wp_region_lex 12 (by kernel_rfl) (by kernel_rfl) (JB x) LeB (qphiF [(10, .int .i64 wt)]) qphiF_st JB.mono ?_ ?_
          · exact (Below.refl _ _).drew
          simp only [List.take_succ_cons, List.take_zero, List.drop_succ_cons, List.drop_zero, pairs, List.zipIdx_cons, List.zipIdx_nil, List.map_cons, List.map_nil, Nat.zero_add, Nat.reduceAdd]
          (repeat (first | (refine lex_pure rfl rfl (fun K hK => ?_); go_simp; refine hK _ ?_; clear hK K; try simp (disch := omega) only [IntWalk.i64_in, IntWalk.u8_in, Int.add_sub_cancel, Int.tmod_eq_emod_of_nonneg, Int.tdiv_eq_ediv_of_nonneg]) | (refine lex_load rfl rfl _ (fun m W hJ hF => (by have cc := hcell W hJ; go_simp; rfl)) ?_; try simp (disch := omega) only [IntWalk.i64_in, IntWalk.u8_in, Int.add_sub_cancel, Int.tmod_eq_emod_of_nonneg, Int.tdiv_eq_ediv_of_nonneg]) | (refine lex_sadd rfl rfl rfl rfl rfl (by first | omega | (simp only [ByteArray.size_append]; omega)) ?_; go_simp)))
          refine lex_eff' (sp := fun _ v _ => v = .int .i64 wt) rfl rfl (by intro _ _ _ _ h; exact h) (fun m W hJ hF => ?_) (fun v x hh => ?_) rfl
          · refine gives_call Try.call93 ((flowWait_ok 6 s1 W).mono ?_)
            rintro e w' ⟨rfl, rfl⟩
            rw [show waitC 6 s1 = wt by rw [← HP.out]; exact HW.out]
            exact ⟨_, rfl, hJ, LeB.of (Below.refl _ _), rfl⟩
          obtain ⟨_, _, -, rfl, -⟩ := hh
          (repeat (first | (refine lex_pure rfl rfl (fun K hK => ?_); go_simp; refine hK _ ?_; clear hK K; try simp (disch := omega) only [IntWalk.i64_in, IntWalk.u8_in, Int.add_sub_cancel, Int.tmod_eq_emod_of_nonneg, Int.tdiv_eq_ediv_of_nonneg]) | (refine lex_load rfl rfl _ (fun m W hJ hF => (by have cc := hcell W hJ; go_simp; rfl)) ?_; try simp (disch := omega) only [IntWalk.i64_in, IntWalk.u8_in, Int.add_sub_cancel, Int.tmod_eq_emod_of_nonneg, Int.tdiv_eq_ediv_of_nonneg]) | (refine lex_sadd rfl rfl rfl rfl rfl (by first | omega | (simp only [ByteArray.size_append]; omega)) ?_; go_simp)))
          refine lex_nil (fun m W hJ hF => ?_)
          have HO := Lib.hid (HX.out.1.below hJ)
          have f7 := HO.out.free (k * 9 + 7)
          have q7 : W.cell? ⟨g, k * 9 + 7, none⟩ = some (.int .i64 f.til) := by
            have q := HO.out.at_ k HKM.out
            rw [HGM.out] at q
            exact q.c7
          clear hF hJ hcell
          obtain ⟨W2, hW2, X2⟩ := HO.out.put k HKM.out { f with st := s1, til := now + wt } 7 (by omega) (.int .i64 ((now : Int) + wt)) (by rw [HGM.out]; rfl)
          rw [List.set_set] at X2
          have hfin := Lib.hid X2
          have HW2 := Lib.hid hW2
          clear X2 hW2 HKM HGM
          go_wp2_with fail
          rw [HW2.out]
          go_ret
          rw [pass_eq (back := _) (flags := flags) (fun h => h.2 N4.out) (s := s1) (by unfold passSt; rw [if_neg (fun h => h.2 N1.out)]; simpa using HX.out.2) HW.out]
          exact ⟨_, rfl, hfin.out.ownS, hfin.out.bl⟩
        · have N1 := Lib.hid n1
          clear n1
          go_upto_region 9 with (fail)
          obtain ⟨y, hy, Y⟩ := HX.out.1.put k HKM1.out { f with st := 3 } 6 (by omega) (.int .i64 3) (by rw [List.getElem_set_self]; rfl)
          rw [List.set_set] at Y
          rw [hy]
          have HY := Lib.hid (And.intro Y trivial)
          clear Y hy q0 q6 f6 b4 b1
          have HKM := Lib.hid (show k < (l.set k { f with st := 3 }).length by rw [List.length_set]; exact hk)
          have HGM := Lib.hid (show ∀ h, (l.set k { f with st := 3 })[k]'h = { f with st := 3 } from fun h => List.getElem_set_self h)
          have hcell : ∀ W, LeB y W → W.cell? ⟨g, k * 9, none⟩ = some (.int .i64 f.proto) ∧ W.cell? ⟨g, k * 9 + 6, none⟩ = some (.int .i64 3) := fun W hW => by
            have q := ((HY.out.1.below hW).at_ k HKM.out)
            rw [HGM.out] at q
            exact ⟨q.c0, q.c6⟩
          obtain ⟨wt, hwt⟩ : ∃ y, waitC f.proto 3 = y := ⟨_, rfl⟩
          have hwl : wt ≤ 30 := by rw [← hwt]; exact waitC_le _ _
          have HW := Lib.hid hwt
          clear hwt
          refine wp_region_lex 12 (by kernel_rfl) (by kernel_rfl) (JB y) LeB (qphiF [(10, .int .i64 wt)]) qphiF_st JB.mono ?_ ?_
          · exact (Below.refl _ _).drew
          simp only [List.take_succ_cons, List.take_zero, List.drop_succ_cons, List.drop_zero, pairs, List.zipIdx_cons, List.zipIdx_nil, List.map_cons, List.map_nil, Nat.zero_add, Nat.reduceAdd]
          (repeat (first | (refine lex_pure rfl rfl (fun K hK => ?_); go_simp; refine hK _ ?_; clear hK K; try simp (disch := omega) only [IntWalk.i64_in, IntWalk.u8_in, Int.add_sub_cancel, Int.tmod_eq_emod_of_nonneg, Int.tdiv_eq_ediv_of_nonneg]) | (refine lex_load rfl rfl _ (fun m W hJ hF => (by have cc := hcell W hJ; go_simp; rfl)) ?_; try simp (disch := omega) only [IntWalk.i64_in, IntWalk.u8_in, Int.add_sub_cancel, Int.tmod_eq_emod_of_nonneg, Int.tdiv_eq_ediv_of_nonneg]) | (refine lex_sadd rfl rfl rfl rfl rfl (by first | omega | (simp only [ByteArray.size_append]; omega)) ?_; go_simp)))
          refine lex_eff' (sp := fun _ v _ => v = .int .i64 wt) rfl rfl (by intro _ _ _ _ h; exact h) (fun m W hJ hF => ?_) (fun v x hh => ?_) rfl
          · refine gives_call Try.call93 ((flowWait_ok 6 3 W).mono ?_)
            rintro e w' ⟨rfl, rfl⟩
            rw [show waitC 6 3 = wt by rw [← HP.out]; exact HW.out]
            exact ⟨_, rfl, hJ, LeB.of (Below.refl _ _), rfl⟩
          obtain ⟨_, _, -, rfl, -⟩ := hh
          (repeat (first | (refine lex_pure rfl rfl (fun K hK => ?_); go_simp; refine hK _ ?_; clear hK K; try simp (disch := omega) only [IntWalk.i64_in, IntWalk.u8_in, Int.add_sub_cancel, Int.tmod_eq_emod_of_nonneg, Int.tdiv_eq_ediv_of_nonneg]) | (refine lex_load rfl rfl _ (fun m W hJ hF => (by have cc := hcell W hJ; go_simp; rfl)) ?_; try simp (disch := omega) only [IntWalk.i64_in, IntWalk.u8_in, Int.add_sub_cancel, Int.tmod_eq_emod_of_nonneg, Int.tdiv_eq_ediv_of_nonneg]) | (refine lex_sadd rfl rfl rfl rfl rfl (by first | omega | (simp only [ByteArray.size_append]; omega)) ?_; go_simp)))
          refine lex_nil (fun m W hJ hF => ?_)
          have HO := Lib.hid (HY.out.1.below hJ)
          have f7 := HO.out.free (k * 9 + 7)
          have q7 : W.cell? ⟨g, k * 9 + 7, none⟩ = some (.int .i64 f.til) := by
            have q := HO.out.at_ k HKM.out
            rw [HGM.out] at q
            exact q.c7
          clear hF hJ hcell
          obtain ⟨W2, hW2, X2⟩ := HO.out.put k HKM.out { f with st := 3, til := now + wt } 7 (by omega) (.int .i64 ((now : Int) + wt)) (by rw [HGM.out]; rfl)
          rw [List.set_set] at X2
          have hfin := Lib.hid X2
          have HW2 := Lib.hid hW2
          clear X2 hW2 HKM HGM
          go_wp2_with fail
          rw [HW2.out]
          go_ret
          rw [pass_eq (back := _) (flags := flags) (fun h => h.2 N4.out) (s := 3) (by unfold passSt; rw [if_pos ⟨HP.out, by rw [N1.out]; decide⟩]) HW.out]
          exact ⟨_, rfl, hfin.out.ownS, hfin.out.bl⟩
      · have N4 := Lib.hid n4
        clear n4
        go_wp2_with fail
        have hD := Delete_ok HX.out.1 (by rw [List.length_set]; exact HK.out.2.1) k HKM1.out
        rw [List.length_set] at hD
        refine hD.mono ?_
        rintro e w2 ⟨rfl, hO2⟩
        have e : ∀ b, l.eraseIdx k = passC l k f b flags now := fun b => (if_pos ⟨HP.out, by rw [N4.out]; decide⟩).symm
        rw [List.eraseIdx_set_eq] at hO2 ⊢
        have H3 := Lib.hid (And.intro hO2 e)
        clear hO2 e q0 q6 f6 b4 hD
        go_wp2_with fail
        go_ret
        rw [← H3.out.2]
        exact ⟨_, rfl, H3.out.1.own, H3.out.1.bl⟩
    · have hpI : ((f.proto : Int) == 6) = false := by simp; omega
      have HP := Lib.hid hp
      clear hp
      go_upto_region 9 with (fail)
      clear q0 q6 f6
      have HKM := Lib.hid (show k < (l.set k { f with st := s1 }).length by rw [List.length_set]; exact hk)
      have HGM := Lib.hid (show ∀ h, (l.set k { f with st := s1 })[k]'h = { f with st := s1 } from fun h => List.getElem_set_self h)
      have hcell : ∀ W, LeB x W → W.cell? ⟨g, k * 9, none⟩ = some (.int .i64 f.proto) ∧ W.cell? ⟨g, k * 9 + 6, none⟩ = some (.int .i64 s1) := fun W hW => by
        have q := ((HX.out.1.below hW).at_ k HKM.out)
        rw [HGM.out] at q
        exact ⟨q.c0, q.c6⟩
      obtain ⟨wt, hwt⟩ : ∃ y, waitC f.proto s1 = y := ⟨_, rfl⟩
      have hwl : wt ≤ 30 := by rw [← hwt]; exact waitC_le _ _
      have HW := Lib.hid hwt
      clear hwt
      refine wp_region_lex 12 (by kernel_rfl) (by kernel_rfl) (JB x) LeB (qphiF [(10, .int .i64 wt)]) qphiF_st JB.mono ?_ ?_
      · exact (Below.refl _ _).drew
      simp only [List.take_succ_cons, List.take_zero, List.drop_succ_cons, List.drop_zero, pairs, List.zipIdx_cons, List.zipIdx_nil, List.map_cons, List.map_nil, Nat.zero_add, Nat.reduceAdd]
      (repeat (first | (refine lex_pure rfl rfl (fun K hK => ?_); go_simp; refine hK _ ?_; clear hK K; try simp (disch := omega) only [IntWalk.i64_in, IntWalk.u8_in, Int.add_sub_cancel, Int.tmod_eq_emod_of_nonneg, Int.tdiv_eq_ediv_of_nonneg]) | (refine lex_load rfl rfl _ (fun m W hJ hF => (by have cc := hcell W hJ; go_simp; rfl)) ?_; try simp (disch := omega) only [IntWalk.i64_in, IntWalk.u8_in, Int.add_sub_cancel, Int.tmod_eq_emod_of_nonneg, Int.tdiv_eq_ediv_of_nonneg]) | (refine lex_sadd rfl rfl rfl rfl rfl (by first | omega | (simp only [ByteArray.size_append]; omega)) ?_; go_simp)))
      refine lex_eff' (sp := fun _ v _ => v = .int .i64 wt) rfl rfl (by intro _ _ _ _ h; exact h) (fun m W hJ hF => ?_) (fun v x hh => ?_) rfl
      · refine gives_call Try.call93 ((flowWait_ok f.proto s1 W).mono ?_)
        rintro e w' ⟨rfl, rfl⟩
        rw [HW.out]
        exact ⟨_, rfl, hJ, LeB.of (Below.refl _ _), rfl⟩
      obtain ⟨_, _, -, rfl, -⟩ := hh
      (repeat (first | (refine lex_pure rfl rfl (fun K hK => ?_); go_simp; refine hK _ ?_; clear hK K; try simp (disch := omega) only [IntWalk.i64_in, IntWalk.u8_in, Int.add_sub_cancel, Int.tmod_eq_emod_of_nonneg, Int.tdiv_eq_ediv_of_nonneg]) | (refine lex_load rfl rfl _ (fun m W hJ hF => (by have cc := hcell W hJ; go_simp; rfl)) ?_; try simp (disch := omega) only [IntWalk.i64_in, IntWalk.u8_in, Int.add_sub_cancel, Int.tmod_eq_emod_of_nonneg, Int.tdiv_eq_ediv_of_nonneg]) | (refine lex_sadd rfl rfl rfl rfl rfl (by first | omega | (simp only [ByteArray.size_append]; omega)) ?_; go_simp)))
      refine lex_nil (fun m W hJ hF => ?_)
      have HO := Lib.hid (HX.out.1.below hJ)
      have f7 := HO.out.free (k * 9 + 7)
      have q7 : W.cell? ⟨g, k * 9 + 7, none⟩ = some (.int .i64 f.til) := by
        have q := HO.out.at_ k HKM.out
        rw [HGM.out] at q
        exact q.c7
      clear hF hJ hcell
      obtain ⟨W2, hW2, X2⟩ := HO.out.put k HKM.out { f with st := s1, til := now + wt } 7 (by omega) (.int .i64 ((now : Int) + wt)) (by rw [HGM.out]; rfl)
      rw [List.set_set] at X2
      have hfin := Lib.hid X2
      have HW2 := Lib.hid hW2
      clear X2 hW2 HKM HGM
      go_wp2_with fail
      rw [HW2.out]
      go_ret
      rw [pass_eq (back := _) (flags := flags) (fun h => HP.out h.1) (s := s1) (by unfold passSt; rw [if_neg (fun h => HP.out h.1)]; simpa using HX.out.2) HW.out]
      exact ⟨_, rfl, hfin.out.ownS, hfin.out.bl⟩
end Go.Proofs.Ytdenjmdngmmodaa
