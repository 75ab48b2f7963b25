/- Nets: LongestNet of both hands, as called. -/
import Derived.Test.YtmjddgdcokbmeaaDoorNtD
import Derived.Test.YtmjddgdcokbmeaaDoorIxNet
namespace Go.Proofs.YtmjddgdcokbmeaaDoor
open Go.RowKit
set_option linter.unusedVariables false
set_option linter.unusedSimpArgs false
set_option maxRecDepth 200000
set_option maxHeartbeats 4000000

theorem sLongestNet_ok (A : Option Addr) (c : Nat) (l : List Nt) (hl : l.length ≤ 20) (hc : l.length ≤ c) (hn : ∀ x ∈ l, x ∈ N6) (ip : Nat) (hip : ip < 4294967296) (w : World) (hr : Rd w A (rowC Nt.row l)) :
    Calls Tryd.prog 28 #[.slice A l.length c, .int .i64 ip] w fun e w' => e = .returned (.tuple #[.int .i64 (lgRes l ip).1, .int .i64 (lgRes l ip).2]) ∧ LeB w w' := by
  obtain ⟨r, hR⟩ : ∃ r, lgRes l ip = r := ⟨_, rfl⟩
  rw [hR]
  have hlI : (l.length : Int) ≤ 20 := by omega
  have HK := Lib.hid (And.intro hr (And.intro hn (And.intro hip hR)))
  clear hr hn hip hR
  go_enter Tryd.func28, Tryd.ntmps28
  go_wp2_with fail
  refine (l05Nets_ok A c l hl hc HK.out.2.1 w HK.out.1).mono ?_
  rintro e w1 ⟨rfl, hB1⟩
  have H1 := Lib.hid hB1
  clear hB1
  go_wp2_with fail
  refine (sIp_t ip HK.out.2.2.1 _).mono ?_
  rintro e w1' ⟨rfl, rfl⟩
  go_wp2_with fail
  refine (l05Longest_ok A c l hl hc HK.out.2.1 ip HK.out.2.2.1 w1 (HK.out.1.below H1.out (Nat.le_refl _))).mono ?_
  rintro e w2 ⟨rfl, hB2⟩
  have H2 := Lib.hid (LeB.tr H1.out hB2)
  clear hB2
  obtain ⟨m, hm⟩ : ∃ m, lg l ip l.length = m := ⟨_, rfl⟩
  rw [hm]
  have HM := Lib.hid hm
  clear hm
  by_cases h0 : m < 0
  · have hr2 : r = (0, 5) := by rw [← HK.out.2.2.2]; unfold lgRes; rw [HM.out, if_pos h0]
    subst hr2
    go_wp2_with fail
    go_ret2
    exact ⟨rfl, H2.out⟩
  · have hr2 : r = (m, 0) := by rw [← HK.out.2.2.2]; unfold lgRes; rw [HM.out, if_neg h0]
    subst hr2
    have hd : decide (m < 0) = false := decide_eq_false h0
    clear h0
    go_wp2_with fail
    go_ret2
    exact ⟨rfl, H2.out⟩
theorem netPred (w : World) : PredNet 67 #[] (fun _ => false) w := by
  intro W f hf hW
  show Calls Tryd.prog 67 #[.agg f.cells] W _
  have HF := Lib.hid hf
  clear hf hW
  go_enter Tryd.func67, Tryd.ntmps67
  go_upto_region 1 with (fail)
  generalize hw0 : World.alloc W (.cells f.cells 54) = wa
  have hblk : wa.heap[World.heap W |>.size]? = some (.cells f.cells 54 (0, 0)) := by rw [← hw0]; exact heap_alloc_new _ _
  have hlt : (World.heap W).size < wa.heap.size := (Array.getElem?_eq_some_iff.1 hblk).1
  have hB0 : Below (World.heap W).size W wa := by rw [← hw0]; exact (Below.refl _ _).alloc (Nat.le_refl _) _
  clear hw0
  have c0 := blk_cell hblk 0
  have c1 := blk_cell hblk 1
  simp at c0 c1
  have HX := Lib.hid hB0
  clear hblk hlt hB0
  go_wp2_with fail
  refine (NetOK_ok f HF.out wa).mono ?_
  rintro e w1 ⟨rfl, hB1⟩
  have H1 := Lib.hid (LeB.tr HX.out hB1)
  clear hB1 c0 c1
  go_wp2_with fail
  go_ret
  exact ⟨rfl, H1.out⟩
theorem Contains_no (A : Option Addr) (c : Nat) (l : List Nt) (hl : l.length ≤ 20) (hc : l.length ≤ c) (hn : ∀ x ∈ l, x ∈ N6) (w : World) (hr : Rd w A (rowC Nt.row l)) :
    Calls Tryd.prog 66 #[.slice A l.length c, .func (.func 67) #[] #[]] w fun e w' => e = .returned (.bool false) ∧ LeB w w' := by
  have hi : idxG (fun _ : Nt => false) l = -1 := (idxG_neg _ _).2 fun _ _ => rfl
  have hcall := IndexFuncNet_ok 67 #[] (fun _ => false) A c l (by omega) hc w hr (netPred w) hn Tryd.call67
  rw [hi] at hcall
  have HC := Lib.hid hcall
  clear hcall hi hr hn
  go_enter Tryd.func66, Tryd.ntmps66
  go_wp2_with fail
  refine HC.out.mono ?_
  rintro e w1 ⟨rfl, hB1⟩
  have H1 := Lib.hid hB1
  clear hB1
  go_wp2_with fail
  go_ret
  exact ⟨rfl, H1.out⟩
theorem LongestNet_ok (A : Option Addr) (c : Nat) (l : List Nt) (hl : l.length ≤ 20) (hc : l.length ≤ c) (hn : ∀ x ∈ l, x ∈ N6) (ip : Nat) (hip : ip < 4294967296) (w : World) (hr : Rd w A (rowC Nt.row l)) :
    Calls Tryd.prog 27 #[.slice A l.length c, .int .i64 ip] w fun e w' => e = .returned (.tuple #[.int .i64 (lgRes l ip).1, .int .i64 (lgRes l ip).2]) ∧ LeB w w' := by
  obtain ⟨rr, hRR⟩ : ∃ r, lgRes l ip = r := ⟨_, rfl⟩
  rw [hRR]
  have hlI : (l.length : Int) ≤ 20 := by omega
  have hcI : (l.length : Int) ≤ c := by omega
  have HK := Lib.hid (And.intro hr (And.intro hn (And.intro hip hRR)))
  clear hr hn hip hRR
  go_enter Tryd.func27, Tryd.ntmps27
  go_wp2_with fail
  refine (Contains_no A c l hl hc HK.out.2.1 w HK.out.1).mono ?_
  rintro e w1 ⟨rfl, hB1⟩
  have H1 := Lib.hid hB1
  clear hB1
  go_wp2_with fail
  refine (isAddress_t ip HK.out.2.2.1 _).mono ?_
  rintro e w1' ⟨rfl, rfl⟩
  go_wp2_with fail
  go_loopw [6, 27] (fun v i wr => ∃ (k : Nat), i = .int .i64 k ∧ k ≤ l.length ∧ v = .int .i64 (lg l ip k) ∧ LeB w wr) (fun _ i _ => (l.length - (intOf i).toNat))
  case atStart => exact ⟨0, rfl, Nat.zero_le _, rfl, H1.out⟩
  case round =>
    obtain ⟨k, rfl, hk, rfl, hB⟩ := hrel
    have HR := Lib.hid (And.intro hB True.intro)
    clear hB
    obtain ⟨r, hr⟩ : ∃ r, lg l ip k = r := ⟨_, rfl⟩
    rw [hr]
    have HG := Lib.hid hr
    clear hr
    by_cases hlt : k < l.length
    · have hltI : (k : Int) < l.length := by omega
      obtain ⟨ad, rfl, q1⟩ := Nt.At.of (HK.out.1.below HR.out.1 (Nat.le_refl _)) k hlt
      have hx := HK.out.2.1 _ (List.getElem_mem hlt)
      obtain ⟨x, hxx⟩ : ∃ x, l[k] = x := ⟨_, rfl⟩
      rw [hxx] at q1 hx
      have HE := Lib.hid hxx
      clear hxx
      obtain ⟨p0, p1⟩ := q1
      go_upto_region 11 with (fail)
      clear p0 p1
      generalize hw0 : World.alloc wr (.cells #[.int .i64 (x.ip : Int), .int .i64 (x.bits : Int)] 54) = wb
      have hblk : wb.heap[wr.heap.size]? = some (.cells #[.int .i64 (x.ip : Int), .int .i64 (x.bits : Int)] 54 (0, 0)) := by rw [← hw0]; exact heap_alloc_new _ _
      have hB0 : LeB wr wb := by rw [← hw0]; exact (Below.refl _ _).alloc (Nat.le_refl _) _
      have HV := Lib.hid (And.intro (Array.getElem?_eq_some_iff.1 hblk).1 hblk)
      have HV0 := Lib.hid hB0
      have HY := Lib.hid (LeB.tr HR.out.1 hB0)
      clear hw0 hblk hB0
      obtain ⟨b, hb⟩ : ∃ b, hasB (ntAt l k) ip = b := ⟨_, rfl⟩
      have hcall := fun W => has_ok x hx ip HK.out.2.2.1 b (by rw [← hb, ntAt_get l k hlt, HE.out]) W
      have HC := Lib.hid hcall
      have HB := Lib.hid hb
      clear hcall hb hx
      have hck : ∀ W, Below wb.heap.size wb W → W.cell? ⟨wr.heap.size, 0, none⟩ = some (.int .i64 (x.ip : Int)) ∧ W.cell? ⟨wr.heap.size, 1, none⟩ = some (.int .i64 (x.bits : Int)) := fun W hW => by
        have e1 := (hW.block _ HV.out.1).trans HV.out.2
        exact ⟨blk_cell e1 0, blk_cell e1 1⟩
      have HCK := Lib.hid hck
      clear hck
      cases b with
      | false =>
        have hcell := HCK.out
        refine wp_region_lex 16 (by kernel_rfl) (by kernel_rfl) (JB wb) LeB (oneφ 2 false) oneφ_st JB.mono ?_ ?_
        · exact (Below.refl _ _).drew
        simp only [List.take_succ_cons, List.take_zero, List.drop_succ_cons, List.drop_zero, pairs, List.zipIdx_cons, List.zipIdx_nil, List.map_cons, List.map_nil, Nat.zero_add, Nat.reduceAdd]
        refine LexG.out ?_
        (repeat (first | (refine lexg_pure rfl rfl (fun K hK => ?_); go_simp; refine hK _ ?_; clear hK K; try simp (disch := omega) only [IntWalk.i64_in, IntWalk.u8_in, Int.add_sub_cancel, Int.tmod_eq_emod_of_nonneg, Int.tdiv_eq_ediv_of_nonneg]) | (refine lexg_load rfl rfl _ (fun m W hJ hF => (by have cc := hcell W hJ; go_simp; rfl)) ?_; try simp (disch := omega) only [IntWalk.i64_in, IntWalk.u8_in, Int.add_sub_cancel, Int.tmod_eq_emod_of_nonneg, Int.tdiv_eq_ediv_of_nonneg]) | (refine lexg_skip rfl rfl rfl rfl rfl (fun K hK => ?_); go_simp; refine hK _ ?_; clear hK K) | (refine lexg_skipU rfl rfl rfl rfl (fun K hK => ?_); go_simp; refine hK _ ?_; clear hK K) | (refine lexg_pureG rfl rfl rfl rfl rfl rfl (fun K hK => ?_); go_simp; refine hK _ ?_; clear hK K; try simp (disch := omega) only [IntWalk.i64_in, IntWalk.u8_in, Int.add_sub_cancel, Int.tmod_eq_emod_of_nonneg, Int.tdiv_eq_ediv_of_nonneg]) | (refine lexg_loadG rfl rfl rfl rfl rfl rfl _ (fun m W hJ hF => (by have cc := hcell W hJ; go_simp; rfl)) ?_; try simp (disch := omega) only [IntWalk.i64_in, IntWalk.u8_in, Int.add_sub_cancel, Int.tmod_eq_emod_of_nonneg, Int.tdiv_eq_ediv_of_nonneg])))
        refine lexg_eff (sp := fun _ v _ => v = .bool false) rfl rfl (by intro _ _ _ _ h; exact h) (fun m W hJ hF => ?_) (fun v x hh => ?_) rfl
        · refine gives_call Tryd.call68 ((HC.out W).mono ?_)
          rintro e w' ⟨rfl, h4⟩
          exact ⟨_, rfl, hJ.step h4, h4, rfl⟩
        obtain ⟨_, _, -, rfl, -⟩ := hh
        (repeat (first | (refine lexg_pure rfl rfl (fun K hK => ?_); go_simp; refine hK _ ?_; clear hK K; try simp (disch := omega) only [IntWalk.i64_in, IntWalk.u8_in, Int.add_sub_cancel, Int.tmod_eq_emod_of_nonneg, Int.tdiv_eq_ediv_of_nonneg]) | (refine lexg_load rfl rfl _ (fun m W hJ hF => (by have cc := hcell W hJ; go_simp; rfl)) ?_; try simp (disch := omega) only [IntWalk.i64_in, IntWalk.u8_in, Int.add_sub_cancel, Int.tmod_eq_emod_of_nonneg, Int.tdiv_eq_ediv_of_nonneg]) | (refine lexg_skip rfl rfl rfl rfl rfl (fun K hK => ?_); go_simp; refine hK _ ?_; clear hK K) | (refine lexg_skipU rfl rfl rfl rfl (fun K hK => ?_); go_simp; refine hK _ ?_; clear hK K) | (refine lexg_pureG rfl rfl rfl rfl rfl rfl (fun K hK => ?_); go_simp; refine hK _ ?_; clear hK K; try simp (disch := omega) only [IntWalk.i64_in, IntWalk.u8_in, Int.add_sub_cancel, Int.tmod_eq_emod_of_nonneg, Int.tdiv_eq_ediv_of_nonneg]) | (refine lexg_loadG rfl rfl rfl rfl rfl rfl _ (fun m W hJ hF => (by have cc := hcell W hJ; go_simp; rfl)) ?_; try simp (disch := omega) only [IntWalk.i64_in, IntWalk.u8_in, Int.add_sub_cancel, Int.tmod_eq_emod_of_nonneg, Int.tdiv_eq_ediv_of_nonneg])))
        refine lexg_nil (fun m W hJ hF => ?_)
        have HZ := Lib.hid (LeB.tr HY.out hJ)
        clear hF hJ hcell
        go_wp2_with fail
        go_roundw
        case rel => exact ⟨k + 1, by go_num, by omega, by rw [lg_no l ip k HB.out, HG.out], HZ.out⟩
        case measure => simp [intOf]; omega
      | true =>
        by_cases hneg : r < 0
        · have HNG := Lib.hid hneg
          have hcell := HCK.out
          refine wp_region_lex 16 (by kernel_rfl) (by kernel_rfl) (JB wb) LeB (oneφ 2 true) oneφ_st JB.mono ?_ ?_
          · exact (Below.refl _ _).drew
          simp only [List.take_succ_cons, List.take_zero, List.drop_succ_cons, List.drop_zero, pairs, List.zipIdx_cons, List.zipIdx_nil, List.map_cons, List.map_nil, Nat.zero_add, Nat.reduceAdd]
          refine LexG.out ?_
          (repeat (first | (refine lexg_pure rfl rfl (fun K hK => ?_); go_simp; refine hK _ ?_; clear hK K; try simp (disch := omega) only [IntWalk.i64_in, IntWalk.u8_in, Int.add_sub_cancel, Int.tmod_eq_emod_of_nonneg, Int.tdiv_eq_ediv_of_nonneg]) | (refine lexg_load rfl rfl _ (fun m W hJ hF => (by have cc := hcell W hJ; go_simp; rfl)) ?_; try simp (disch := omega) only [IntWalk.i64_in, IntWalk.u8_in, Int.add_sub_cancel, Int.tmod_eq_emod_of_nonneg, Int.tdiv_eq_ediv_of_nonneg]) | (refine lexg_skip rfl rfl rfl rfl rfl (fun K hK => ?_); go_simp; refine hK _ ?_; clear hK K) | (refine lexg_skipU rfl rfl rfl rfl (fun K hK => ?_); go_simp; refine hK _ ?_; clear hK K) | (refine lexg_pureG rfl rfl rfl rfl rfl rfl (fun K hK => ?_); go_simp; refine hK _ ?_; clear hK K; try simp (disch := omega) only [IntWalk.i64_in, IntWalk.u8_in, Int.add_sub_cancel, Int.tmod_eq_emod_of_nonneg, Int.tdiv_eq_ediv_of_nonneg]) | (refine lexg_loadG rfl rfl rfl rfl rfl rfl _ (fun m W hJ hF => (by have cc := hcell W hJ; go_simp; rfl)) ?_; try simp (disch := omega) only [IntWalk.i64_in, IntWalk.u8_in, Int.add_sub_cancel, Int.tmod_eq_emod_of_nonneg, Int.tdiv_eq_ediv_of_nonneg])))
          refine lexg_eff (sp := fun _ v _ => v = .bool true) rfl rfl (by intro _ _ _ _ h; exact h) (fun m W hJ hF => ?_) (fun v x hh => ?_) rfl
          · refine gives_call Tryd.call68 ((HC.out W).mono ?_)
            rintro e w' ⟨rfl, h4⟩
            exact ⟨_, rfl, hJ.step h4, h4, rfl⟩
          obtain ⟨_, _, -, rfl, -⟩ := hh
          (repeat (first | (refine lexg_pure rfl rfl (fun K hK => ?_); go_simp; refine hK _ ?_; clear hK K; try simp (disch := omega) only [IntWalk.i64_in, IntWalk.u8_in, Int.add_sub_cancel, Int.tmod_eq_emod_of_nonneg, Int.tdiv_eq_ediv_of_nonneg]) | (refine lexg_load rfl rfl _ (fun m W hJ hF => (by have cc := hcell W hJ; go_simp; rfl)) ?_; try simp (disch := omega) only [IntWalk.i64_in, IntWalk.u8_in, Int.add_sub_cancel, Int.tmod_eq_emod_of_nonneg, Int.tdiv_eq_ediv_of_nonneg]) | (refine lexg_skip rfl rfl rfl rfl rfl (fun K hK => ?_); go_simp; refine hK _ ?_; clear hK K) | (refine lexg_skipU rfl rfl rfl rfl (fun K hK => ?_); go_simp; refine hK _ ?_; clear hK K) | (refine lexg_pureG rfl rfl rfl rfl rfl rfl (fun K hK => ?_); go_simp; refine hK _ ?_; clear hK K; try simp (disch := omega) only [IntWalk.i64_in, IntWalk.u8_in, Int.add_sub_cancel, Int.tmod_eq_emod_of_nonneg, Int.tdiv_eq_ediv_of_nonneg]) | (refine lexg_loadG rfl rfl rfl rfl rfl rfl _ (fun m W hJ hF => (by have cc := hcell W hJ; go_simp; rfl)) ?_; try simp (disch := omega) only [IntWalk.i64_in, IntWalk.u8_in, Int.add_sub_cancel, Int.tmod_eq_emod_of_nonneg, Int.tdiv_eq_ediv_of_nonneg])))
          refine lexg_nil (fun m W hJ hF => ?_)
          have HZ := Lib.hid (LeB.tr HY.out hJ)
          clear hF hJ hcell
          go_wp2_with fail
          go_roundw
          case rel => exact ⟨k + 1, by go_num, by omega, by rw [lg_new l ip k HB.out (.inl (by rw [HG.out]; exact HNG.out))], HZ.out⟩
          case measure => simp [intOf]; omega
        obtain ⟨kb, rfl⟩ := Int.eq_ofNat_of_zero_le (by omega : 0 ≤ r)
        have hinv := lg_inv l ip k
        rw [HG.out] at hinv
        have hkb : kb < l.length := by have := hinv.1.2; omega
        have hkbI : (kb : Int) < l.length := by omega
        have hd0 : decide ((kb : Int) < 0) = false := by simp
        obtain ⟨ady, ey, qy⟩ := Nt.At.of (HK.out.1.below HR.out.1 (Nat.le_refl _)) kb hkb
        cases ey
        obtain ⟨y, hy⟩ : ∃ y, l[kb] = y := ⟨_, rfl⟩
        rw [hy] at qy
        have HEY := Lib.hid hy
        have HQY := Lib.hid (qy.below HV0.out)
        clear hinv hneg hy qy
        by_cases hgt : y.bits < x.bits
        · have hgI : (y.bits : Int) < x.bits := by omega
          have hgN := hgt
          have HGT := Lib.hid hgt
          clear hgt
          have hcell : ∀ W, Below wb.heap.size wb W → W.cell? ⟨wr.heap.size, 0, none⟩ = some (.int .i64 (x.ip : Int)) ∧ W.cell? ⟨wr.heap.size, 1, none⟩ = some (.int .i64 (x.bits : Int)) ∧ W.cell? ⟨(ad.add (kb * 2)).block, (ad.add (kb * 2)).off + 1, none⟩ = some (.int .i64 (y.bits : Int)) := fun W hW => ⟨(HCK.out W hW).1, (HCK.out W hW).2, (HQY.out.below hW).c1⟩
          refine wp_region_lex 16 (by kernel_rfl) (by kernel_rfl) (JB wb) LeB (oneφ 2 true) oneφ_st JB.mono ?_ ?_
          · exact (Below.refl _ _).drew
          simp only [List.take_succ_cons, List.take_zero, List.drop_succ_cons, List.drop_zero, pairs, List.zipIdx_cons, List.zipIdx_nil, List.map_cons, List.map_nil, Nat.zero_add, Nat.reduceAdd]
          refine LexG.out ?_
          (repeat (first | (refine lexg_pure rfl rfl (fun K hK => ?_); go_simp; refine hK _ ?_; clear hK K; try simp (disch := omega) only [IntWalk.i64_in, IntWalk.u8_in, Int.add_sub_cancel, Int.tmod_eq_emod_of_nonneg, Int.tdiv_eq_ediv_of_nonneg]) | (refine lexg_load rfl rfl _ (fun m W hJ hF => (by have cc := hcell W hJ; go_simp; rfl)) ?_; try simp (disch := omega) only [IntWalk.i64_in, IntWalk.u8_in, Int.add_sub_cancel, Int.tmod_eq_emod_of_nonneg, Int.tdiv_eq_ediv_of_nonneg]) | (refine lexg_skip rfl rfl rfl rfl rfl (fun K hK => ?_); go_simp; refine hK _ ?_; clear hK K) | (refine lexg_skipU rfl rfl rfl rfl (fun K hK => ?_); go_simp; refine hK _ ?_; clear hK K) | (refine lexg_pureG rfl rfl rfl rfl rfl rfl (fun K hK => ?_); go_simp; refine hK _ ?_; clear hK K; try simp (disch := omega) only [IntWalk.i64_in, IntWalk.u8_in, Int.add_sub_cancel, Int.tmod_eq_emod_of_nonneg, Int.tdiv_eq_ediv_of_nonneg]) | (refine lexg_loadG rfl rfl rfl rfl rfl rfl _ (fun m W hJ hF => (by have cc := hcell W hJ; go_simp; rfl)) ?_; try simp (disch := omega) only [IntWalk.i64_in, IntWalk.u8_in, Int.add_sub_cancel, Int.tmod_eq_emod_of_nonneg, Int.tdiv_eq_ediv_of_nonneg])))
          refine lexg_eff (sp := fun _ v _ => v = .bool true) rfl rfl (by intro _ _ _ _ h; exact h) (fun m W hJ hF => ?_) (fun v x hh => ?_) rfl
          · refine gives_call Tryd.call68 ((HC.out W).mono ?_)
            rintro e w' ⟨rfl, h4⟩
            exact ⟨_, rfl, hJ.step h4, h4, rfl⟩
          obtain ⟨_, _, -, rfl, -⟩ := hh
          (repeat (first | (refine lexg_pure rfl rfl (fun K hK => ?_); go_simp; refine hK _ ?_; clear hK K; try simp (disch := omega) only [IntWalk.i64_in, IntWalk.u8_in, Int.add_sub_cancel, Int.tmod_eq_emod_of_nonneg, Int.tdiv_eq_ediv_of_nonneg]) | (refine lexg_load rfl rfl _ (fun m W hJ hF => (by have cc := hcell W hJ; go_simp; rfl)) ?_; try simp (disch := omega) only [IntWalk.i64_in, IntWalk.u8_in, Int.add_sub_cancel, Int.tmod_eq_emod_of_nonneg, Int.tdiv_eq_ediv_of_nonneg]) | (refine lexg_skip rfl rfl rfl rfl rfl (fun K hK => ?_); go_simp; refine hK _ ?_; clear hK K) | (refine lexg_skipU rfl rfl rfl rfl (fun K hK => ?_); go_simp; refine hK _ ?_; clear hK K) | (refine lexg_pureG rfl rfl rfl rfl rfl rfl (fun K hK => ?_); go_simp; refine hK _ ?_; clear hK K; try simp (disch := omega) only [IntWalk.i64_in, IntWalk.u8_in, Int.add_sub_cancel, Int.tmod_eq_emod_of_nonneg, Int.tdiv_eq_ediv_of_nonneg]) | (refine lexg_loadG rfl rfl rfl rfl rfl rfl _ (fun m W hJ hF => (by have cc := hcell W hJ; go_simp; rfl)) ?_; try simp (disch := omega) only [IntWalk.i64_in, IntWalk.u8_in, Int.add_sub_cancel, Int.tmod_eq_emod_of_nonneg, Int.tdiv_eq_ediv_of_nonneg])))
          refine lexg_nil (fun m W hJ hF => ?_)
          have HZ := Lib.hid (LeB.tr HY.out hJ)
          clear hF hJ hcell
          go_wp2_with fail
          go_roundw
          case rel => exact ⟨k + 1, by go_num, by omega, by rw [lg_new l ip k HB.out (.inr (by rw [HG.out, Int.toNat_natCast, ntAt_get l kb hkb, ntAt_get l k hlt, HE.out, HEY.out]; exact HGT.out))], HZ.out⟩
          case measure => simp [intOf]; omega
        · have hgI : decide ((y.bits : Int) < x.bits) = false := by simp; omega
          have hgN : decide (y.bits < x.bits) = false := by simp; omega
          have HGT := Lib.hid hgt
          clear hgt
          have hcell : ∀ W, Below wb.heap.size wb W → W.cell? ⟨wr.heap.size, 0, none⟩ = some (.int .i64 (x.ip : Int)) ∧ W.cell? ⟨wr.heap.size, 1, none⟩ = some (.int .i64 (x.bits : Int)) ∧ W.cell? ⟨(ad.add (kb * 2)).block, (ad.add (kb * 2)).off + 1, none⟩ = some (.int .i64 (y.bits : Int)) := fun W hW => ⟨(HCK.out W hW).1, (HCK.out W hW).2, (HQY.out.below hW).c1⟩
          refine wp_region_lex 16 (by kernel_rfl) (by kernel_rfl) (JB wb) LeB (oneφ 2 true) oneφ_st JB.mono ?_ ?_
          · exact (Below.refl _ _).drew
          simp only [List.take_succ_cons, List.take_zero, List.drop_succ_cons, List.drop_zero, pairs, List.zipIdx_cons, List.zipIdx_nil, List.map_cons, List.map_nil, Nat.zero_add, Nat.reduceAdd]
          refine LexG.out ?_
          (repeat (first | (refine lexg_pure rfl rfl (fun K hK => ?_); go_simp; refine hK _ ?_; clear hK K; try simp (disch := omega) only [IntWalk.i64_in, IntWalk.u8_in, Int.add_sub_cancel, Int.tmod_eq_emod_of_nonneg, Int.tdiv_eq_ediv_of_nonneg]) | (refine lexg_load rfl rfl _ (fun m W hJ hF => (by have cc := hcell W hJ; go_simp; rfl)) ?_; try simp (disch := omega) only [IntWalk.i64_in, IntWalk.u8_in, Int.add_sub_cancel, Int.tmod_eq_emod_of_nonneg, Int.tdiv_eq_ediv_of_nonneg]) | (refine lexg_skip rfl rfl rfl rfl rfl (fun K hK => ?_); go_simp; refine hK _ ?_; clear hK K) | (refine lexg_skipU rfl rfl rfl rfl (fun K hK => ?_); go_simp; refine hK _ ?_; clear hK K) | (refine lexg_pureG rfl rfl rfl rfl rfl rfl (fun K hK => ?_); go_simp; refine hK _ ?_; clear hK K; try simp (disch := omega) only [IntWalk.i64_in, IntWalk.u8_in, Int.add_sub_cancel, Int.tmod_eq_emod_of_nonneg, Int.tdiv_eq_ediv_of_nonneg]) | (refine lexg_loadG rfl rfl rfl rfl rfl rfl _ (fun m W hJ hF => (by have cc := hcell W hJ; go_simp; rfl)) ?_; try simp (disch := omega) only [IntWalk.i64_in, IntWalk.u8_in, Int.add_sub_cancel, Int.tmod_eq_emod_of_nonneg, Int.tdiv_eq_ediv_of_nonneg])))
          refine lexg_eff (sp := fun _ v _ => v = .bool true) rfl rfl (by intro _ _ _ _ h; exact h) (fun m W hJ hF => ?_) (fun v x hh => ?_) rfl
          · refine gives_call Tryd.call68 ((HC.out W).mono ?_)
            rintro e w' ⟨rfl, h4⟩
            exact ⟨_, rfl, hJ.step h4, h4, rfl⟩
          obtain ⟨_, _, -, rfl, -⟩ := hh
          (repeat (first | (refine lexg_pure rfl rfl (fun K hK => ?_); go_simp; refine hK _ ?_; clear hK K; try simp (disch := omega) only [IntWalk.i64_in, IntWalk.u8_in, Int.add_sub_cancel, Int.tmod_eq_emod_of_nonneg, Int.tdiv_eq_ediv_of_nonneg]) | (refine lexg_load rfl rfl _ (fun m W hJ hF => (by have cc := hcell W hJ; go_simp; rfl)) ?_; try simp (disch := omega) only [IntWalk.i64_in, IntWalk.u8_in, Int.add_sub_cancel, Int.tmod_eq_emod_of_nonneg, Int.tdiv_eq_ediv_of_nonneg]) | (refine lexg_skip rfl rfl rfl rfl rfl (fun K hK => ?_); go_simp; refine hK _ ?_; clear hK K) | (refine lexg_skipU rfl rfl rfl rfl (fun K hK => ?_); go_simp; refine hK _ ?_; clear hK K) | (refine lexg_pureG rfl rfl rfl rfl rfl rfl (fun K hK => ?_); go_simp; refine hK _ ?_; clear hK K; try simp (disch := omega) only [IntWalk.i64_in, IntWalk.u8_in, Int.add_sub_cancel, Int.tmod_eq_emod_of_nonneg, Int.tdiv_eq_ediv_of_nonneg]) | (refine lexg_loadG rfl rfl rfl rfl rfl rfl _ (fun m W hJ hF => (by have cc := hcell W hJ; go_simp; rfl)) ?_; try simp (disch := omega) only [IntWalk.i64_in, IntWalk.u8_in, Int.add_sub_cancel, Int.tmod_eq_emod_of_nonneg, Int.tdiv_eq_ediv_of_nonneg])))
          refine lexg_nil (fun m W hJ hF => ?_)
          have HZ := Lib.hid (LeB.tr HY.out hJ)
          clear hF hJ hcell
          go_wp2_with fail
          go_roundw
          case rel => exact ⟨k + 1, by go_num, by omega, by rw [lg_old l ip k (by rw [HG.out]; omega) (by rw [HG.out, Int.toNat_natCast, ntAt_get l kb hkb, ntAt_get l k hlt, HE.out, HEY.out]; have := HGT.out; omega), HG.out], HZ.out⟩
          case measure => simp [intOf]; omega
    · obtain rfl : k = l.length := by omega
      by_cases h0 : r < 0
      · have hr2 : rr = (0, 5) := by rw [← HK.out.2.2.2]; unfold lgRes; rw [HG.out, if_pos h0]
        subst hr2
        go_wp2_with fail
        go_ret2
        exact ⟨rfl, HR.out.1⟩
      · have hr2 : rr = (r, 0) := by rw [← HK.out.2.2.2]; unfold lgRes; rw [HG.out, if_neg h0]
        subst hr2
        have hd : decide (r < 0) = false := decide_eq_false h0
        clear h0
        go_wp2_with fail
        go_ret2
        exact ⟨rfl, HR.out.1⟩
end Go.Proofs.YtmjddgdcokbmeaaDoor
