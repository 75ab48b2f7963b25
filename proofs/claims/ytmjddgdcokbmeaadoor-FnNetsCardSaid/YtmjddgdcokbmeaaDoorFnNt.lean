/- The law FnNets: what it answers of any two rows of bytes. -/
import Derived.Test.YtmjddgdcokbmeaaDoorNtH
import Derived.Test.YtmjddgdcokbmeaaDoorOfW
namespace Go.Proofs.YtmjddgdcokbmeaaDoor
open Go.RowKit
set_option linter.unusedVariables false
set_option linter.unusedSimpArgs false
set_option maxRecDepth 200000
set_option maxHeartbeats 4000000

theorem lgRes_cases (l : List Nt) (ip : Nat) : (lgRes l ip = (0, 5) ∧ ∀ j, j < l.length → hasB (ntAt l j) ip = false) ∨ ∃ kb : Nat, kb < l.length ∧ lgRes l ip = ((kb : Int), 0) ∧ hasB (ntAt l kb) ip = true ∧ ∀ j, j < l.length → hasB (ntAt l j) ip = true → (ntAt l j).bits ≤ (ntAt l kb).bits := by
  obtain ⟨⟨a, b⟩, c, d⟩ := lg_inv l ip l.length
  by_cases h : lg l ip l.length < 0
  · exact .inl ⟨by unfold lgRes; rw [if_pos h], c h⟩
  · obtain ⟨kb, hk⟩ := Int.eq_ofNat_of_zero_le (by omega : 0 ≤ lg l ip l.length)
    rw [hk] at b d
    simp only [Int.toNat_natCast] at d
    exact .inr ⟨kb, by omega, by unfold lgRes; rw [if_neg h, hk], (d (by omega)).1, (d (by omega)).2⟩
theorem FnNets_ok (A : Option Addr) (c : Nat) (bs : List UInt8) (A2 : Option Addr) (c2 : Nat) (bs2 : List UInt8) (hc : bs.length ≤ c) (hc2 : bs2.length ≤ c2) (w : World) (hr : Rd w A (bs.map bV)) (hr2 : Rd w A2 (bs2.map bV)) (hw : StdW w) :
    Calls Tryd.prog 5 #[.slice A bs.length c, .slice A2 bs2.length c2] w fun e w' => e = .returned (.bool true) ∧ Below w.heap.size w w' := by
  by_cases h1 : 1048576 < bs.length
  · have g1 : (1048576 : Int) < bs.length := by omega
    go_enter Tryd.func5, Tryd.ntmps5
    go_wp2
    go_ret
    exact ⟨rfl, Below.refl _ _⟩
  have g1 : decide ((1048576 : Int) < bs.length) = false := by simp; omega
  by_cases h2 : 1048576 < bs2.length
  · have g2 : (1048576 : Int) < bs2.length := by omega
    go_enter Tryd.func5, Tryd.ntmps5
    go_wp2
    go_ret
    exact ⟨rfl, Below.refl _ _⟩
  have g2 : decide ((1048576 : Int) < bs2.length) = false := by simp; omega
  have HK := Lib.hid (And.intro hr (And.intro hr2 (And.intro hw (And.intro h1 h2))))
  clear hr hr2 hw hc hc2 h1 h2
  go_enter Tryd.func5, Tryd.ntmps5
  go_wp2_with fail
  refine (NetsOf_ok A c bs (by have := HK.out.2.2.2.1; omega) w HK.out.1).mono ?_
  rintro e w1 ⟨v, l, rfl, h5, hin, ho, hB⟩
  clear g1 g2
  obtain ⟨An, cn, rfl, hcn, hrn, -⟩ := own_slice ho
  have B1 := Lib.hid hB
  have HN := Lib.hid (And.intro hin hrn)
  have h5I : (l.length : Int) ≤ 5 := by omega
  have hcnI : (l.length : Int) ≤ cn := by omega
  clear hB hin ho hrn
  go_wp2_with fail
  refine (WanOf_ok A2 c2 bs2 (by have := HK.out.2.2.2.2; omega) w1 (HK.out.2.1.below B1.out (Nat.le_refl _))).mono ?_
  rintro e w2 ⟨ip, rfl, hip, hB⟩
  have B2 := Lib.hid (And.intro (LeB.tr B1.out hB) (HN.out.2.below hB (Nat.le_refl _)))
  have HI := Lib.hid hip
  clear hB hip
  obtain ⟨r, hrr⟩ : ∃ r, lgRes l ip = r := ⟨_, rfl⟩
  have k1 := fun W (h : LeB w2 W) => LongestNet_ok An cn l (by omega) hcn HN.out.1 ip HI.out W (B2.out.2.below h (Nat.le_refl _))
  have k2 := fun W (h : LeB w2 W) => sLongestNet_ok An cn l (by omega) hcn HN.out.1 ip HI.out W (B2.out.2.below h (Nat.le_refl _))
  have hcs := lgRes_cases l ip
  rw [hrr] at k1 k2 hcs
  have HL := Lib.hid (And.intro k1 k2)
  clear k1 k2 hrr
  rcases hcs with ⟨rfl, hno⟩ | ⟨kb, hkb, rfl, hhas, hmost⟩
  · have HO := Lib.hid hno
    clear hno
    go_wp2_with fail
    refine (HL.out.1 _ (Below.refl _ _)).mono ?_
    rintro e w3 ⟨rfl, hB⟩
    have B3 := Lib.hid hB
    clear hB
    go_wp2_with fail
    refine (HL.out.2 _ B3.out).mono ?_
    rintro e w4 ⟨rfl, hB⟩
    have B4 := Lib.hid (LeB.tr B3.out hB)
    clear hB
    go_wp2_with fail
    go_loopw [11] (fun i wr => ∃ k : Nat, i = .int .i64 k ∧ k ≤ l.length ∧ LeB w2 wr) (fun i _ => (l.length - (intOf i).toNat))
    case atStart => exact ⟨0, rfl, Nat.zero_le _, B4.out⟩
    case round =>
      obtain ⟨k, rfl, hk, hB⟩ := hrel
      have HR := Lib.hid hB
      clear hB
      by_cases hlt : k < l.length
      · have hltI : (k : Int) < l.length := by omega
        obtain ⟨ad, e1, q1⟩ := Nt.At.of (B2.out.2.below HR.out (Nat.le_refl _)) k hlt
        subst e1
        have hx := HN.out.1 _ (List.getElem_mem hlt)
        obtain ⟨y, hy⟩ : ∃ y, l[k] = y := ⟨_, rfl⟩
        rw [hy] at q1 hx
        obtain ⟨b, hb⟩ : ∃ b, hasB (ntAt l k) ip = b := ⟨_, rfl⟩
        have hyb : hasB y ip = b := by rw [← hb, ntAt_get l k hlt, hy]
        have HQ := Lib.hid q1
        have HY := Lib.hid (And.intro hx (And.intro hyb (And.intro hb hy)))
        clear hx hyb hb hy
        have hb0 : b = false := by rw [← HY.out.2.2.1]; exact HO.out k hlt
        subst hb0
        have p0 := q1.c0
        have p1 := q1.c1
        clear q1
        go_wp2_with fail
        refine (NetHas_ok y HY.out.1 ip HI.out _ HY.out.2.1 wr).mono ?_
        rintro e w5 ⟨rfl, hB⟩
        have p0' := (HQ.out.below hB).c0
        have p1' := (HQ.out.below hB).c1
        have B5 := Lib.hid hB
        clear hB p0 p1
        go_wp2_with fail
        refine (NetText_ok y HY.out.1 w5 (HK.out.2.2.1.below (LeB.tr B2.out.1 (LeB.tr HR.out B5.out)))).mono ?_
        rintro e w6 ⟨rfl, hB⟩
        have B6 := Lib.hid (LeB.tr B5.out hB)
        clear hB p0' p1'
        obtain ⟨t, ht⟩ : ∃ t, ntText y = t := ⟨_, rfl⟩
        have hcall := ReadNet_ok y HY.out.1 w6 (HK.out.2.2.1.below (LeB.tr B2.out.1 (LeB.tr HR.out B6.out)))
        rw [ht] at hcall ⊢
        clear ht
        have HC := Lib.hid hcall
        clear hcall
        go_wp2_with fail
        refine HC.out.mono ?_
        rintro e w7 ⟨rfl, hB⟩
        have B7 := Lib.hid (LeB.tr B6.out hB)
        clear hB
        go_upto_region 15 with (fail)
        generalize hw0 : World.alloc w7 (.cells y.cells 54) = wb
        have hblk : wb.heap[w7.heap.size]? = some (.cells y.cells 54 (0, 0)) := by rw [← hw0]; exact heap_alloc_new _ _
        have hB0 : LeB w7 wb := by rw [← hw0]; exact (Below.refl _ _).alloc (Nat.le_refl _) _
        have hcell : ∀ W, Below wb.heap.size wb W → (W.cell? ⟨w7.heap.size, 0, none⟩ = some (.int .i64 (y.ip : Int)) ∧ W.cell? ⟨w7.heap.size, 1, none⟩ = some (.int .i64 (y.bits : Int))) ∧ W.cell? (ad.add (k * 2)) = some (.int .i64 (y.ip : Int)) ∧ W.cell? ⟨(ad.add (k * 2)).block, (ad.add (k * 2)).off + 1, none⟩ = some (.int .i64 (y.bits : Int)) := fun W hW => by
          have e1 := (hW.block _ (Array.getElem?_eq_some_iff.1 hblk).1).trans hblk
          have e2 := HQ.out.below (LeB.tr B7.out (LeB.tr hB0 hW))
          exact ⟨⟨blk_cell e1 0, blk_cell e1 1⟩, e2.c0, e2.c1⟩
        have B8 := Lib.hid (LeB.tr B7.out hB0)
        clear hw0 hblk hB0
        refine wp_region_lex 25 (by kernel_rfl) (by kernel_rfl) (JB wb) LeB (oneφ 23 true) oneφ_st JB.mono ?_ ?_
        · exact (Below.refl _ _).drew
        simp only [List.take_succ_cons, List.take_zero, List.drop_succ_cons, List.drop_zero, pairs, List.zipIdx_cons, List.zipIdx_nil, List.map_cons, List.map_nil, Nat.zero_add, Nat.reduceAdd]
        refine LexG.out ?_
        (repeat (first | (refine lexg_pure rfl rfl (fun K hK => ?_); go_simp; refine hK _ ?_; clear hK K; try simp (disch := omega) only [IntWalk.i64_in, IntWalk.u8_in, Int.add_sub_cancel, Int.tmod_eq_emod_of_nonneg, Int.tdiv_eq_ediv_of_nonneg]) | (refine lexg_load rfl rfl _ (fun m W hJ hF => (by have cc := hcell W hJ; go_simp; rfl)) ?_; try simp (disch := omega) only [IntWalk.i64_in, IntWalk.u8_in, Int.add_sub_cancel, Int.tmod_eq_emod_of_nonneg, Int.tdiv_eq_ediv_of_nonneg]) | (refine lexg_skip rfl rfl rfl rfl rfl (fun K hK => ?_); go_simp; refine hK _ ?_; clear hK K) | (refine lexg_skipU rfl rfl rfl rfl (fun K hK => ?_); go_simp; refine hK _ ?_; clear hK K) | (refine lexg_pureG rfl rfl rfl rfl rfl rfl (fun K hK => ?_); go_simp; refine hK _ ?_; clear hK K; try simp (disch := omega) only [IntWalk.i64_in, IntWalk.u8_in, Int.add_sub_cancel, Int.tmod_eq_emod_of_nonneg, Int.tdiv_eq_ediv_of_nonneg]) | (refine lexg_loadG rfl rfl rfl rfl rfl rfl _ (fun m W hJ hF => (by have cc := hcell W hJ; go_simp; rfl)) ?_; try simp (disch := omega) only [IntWalk.i64_in, IntWalk.u8_in, Int.add_sub_cancel, Int.tmod_eq_emod_of_nonneg, Int.tdiv_eq_ediv_of_nonneg])))
        refine lexg_effG (sp := fun _ v _ => v = .bool true) rfl rfl rfl rfl rfl rfl (by intro _ _ _ _ h; exact h) (fun m W hJ hF => ?_) (fun v x hh => ?_)
        · refine gives_call Tryd.call32 ((NetOK_ok y HY.out.1 W).mono ?_)
          rintro e w' ⟨rfl, h4⟩
          exact ⟨_, rfl, hJ.step h4, h4, rfl⟩
        obtain ⟨_, _, -, rfl⟩ := hh
        (repeat (first | (refine lexg_pure rfl rfl (fun K hK => ?_); go_simp; refine hK _ ?_; clear hK K; try simp (disch := omega) only [IntWalk.i64_in, IntWalk.u8_in, Int.add_sub_cancel, Int.tmod_eq_emod_of_nonneg, Int.tdiv_eq_ediv_of_nonneg]) | (refine lexg_load rfl rfl _ (fun m W hJ hF => (by have cc := hcell W hJ; go_simp; rfl)) ?_; try simp (disch := omega) only [IntWalk.i64_in, IntWalk.u8_in, Int.add_sub_cancel, Int.tmod_eq_emod_of_nonneg, Int.tdiv_eq_ediv_of_nonneg]) | (refine lexg_skip rfl rfl rfl rfl rfl (fun K hK => ?_); go_simp; refine hK _ ?_; clear hK K) | (refine lexg_skipU rfl rfl rfl rfl (fun K hK => ?_); go_simp; refine hK _ ?_; clear hK K) | (refine lexg_pureG rfl rfl rfl rfl rfl rfl (fun K hK => ?_); go_simp; refine hK _ ?_; clear hK K; try simp (disch := omega) only [IntWalk.i64_in, IntWalk.u8_in, Int.add_sub_cancel, Int.tmod_eq_emod_of_nonneg, Int.tdiv_eq_ediv_of_nonneg]) | (refine lexg_loadG rfl rfl rfl rfl rfl rfl _ (fun m W hJ hF => (by have cc := hcell W hJ; go_simp; rfl)) ?_; try simp (disch := omega) only [IntWalk.i64_in, IntWalk.u8_in, Int.add_sub_cancel, Int.tmod_eq_emod_of_nonneg, Int.tdiv_eq_ediv_of_nonneg])))
        refine lexg_nil (fun m W hJ hF => ?_)
        have B9 := Lib.hid (And.intro (B8.out.tr (by exact hJ)) (LeB.tr HR.out (B8.out.tr (by exact hJ))))
        clear hF hJ hcell
        go_wp2_with fail
        go_quiet (fail)
        go_wp2_with fail
        go_roundw
        case rel => exact ⟨k + 1, by go_num, by omega, below_drewN B9.out.2 _⟩
        case measure => simp [intOf]; omega
      · obtain rfl : k = l.length := by omega
        go_wp2_with fail
        go_ret
        exact ⟨rfl, LeB.tr B2.out.1 HR.out⟩
  · have HO := Lib.hid (And.intro hhas hmost)
    have hkbI : (kb : Int) < l.length := by omega
    clear hhas hmost
    go_wp2_with fail
    refine (HL.out.1 _ (Below.refl _ _)).mono ?_
    rintro e w3 ⟨rfl, hB⟩
    have B3 := Lib.hid hB
    clear hB
    go_wp2_with fail
    refine (HL.out.2 _ B3.out).mono ?_
    rintro e w4 ⟨rfl, hB⟩
    have B4 := Lib.hid (LeB.tr B3.out hB)
    clear hB
    go_wp2_with fail
    go_loopw [11] (fun i wr => ∃ k : Nat, i = .int .i64 k ∧ k ≤ l.length ∧ LeB w2 wr) (fun i _ => (l.length - (intOf i).toNat))
    case atStart => exact ⟨0, rfl, Nat.zero_le _, B4.out⟩
    case round =>
      obtain ⟨k, rfl, hk, hB⟩ := hrel
      have HR := Lib.hid hB
      clear hB
      by_cases hlt : k < l.length
      · have hltI : (k : Int) < l.length := by omega
        obtain ⟨ad, e1, q1⟩ := Nt.At.of (B2.out.2.below HR.out (Nat.le_refl _)) k hlt
        subst e1
        have hx := HN.out.1 _ (List.getElem_mem hlt)
        obtain ⟨y, hy⟩ : ∃ y, l[k] = y := ⟨_, rfl⟩
        rw [hy] at q1 hx
        obtain ⟨b, hb⟩ : ∃ b, hasB (ntAt l k) ip = b := ⟨_, rfl⟩
        have hyb : hasB y ip = b := by rw [← hb, ntAt_get l k hlt, hy]
        have HQ := Lib.hid q1
        have HY := Lib.hid (And.intro hx (And.intro hyb (And.intro hb hy)))
        clear hx hyb hb hy
        have p0 := q1.c0
        have p1 := q1.c1
        clear q1
        go_wp2_with fail
        refine (NetHas_ok y HY.out.1 ip HI.out _ HY.out.2.1 wr).mono ?_
        rintro e w5 ⟨rfl, hB⟩
        have p0' := (HQ.out.below hB).c0
        have p1' := (HQ.out.below hB).c1
        have B5 := Lib.hid hB
        clear hB p0 p1
        go_wp2_with fail
        refine (NetText_ok y HY.out.1 w5 (HK.out.2.2.1.below (LeB.tr B2.out.1 (LeB.tr HR.out B5.out)))).mono ?_
        rintro e w6 ⟨rfl, hB⟩
        have B6 := Lib.hid (LeB.tr B5.out hB)
        clear hB p0' p1'
        obtain ⟨t, ht⟩ : ∃ t, ntText y = t := ⟨_, rfl⟩
        have hcall := ReadNet_ok y HY.out.1 w6 (HK.out.2.2.1.below (LeB.tr B2.out.1 (LeB.tr HR.out B6.out)))
        rw [ht] at hcall ⊢
        clear ht
        have HC := Lib.hid hcall
        clear hcall
        go_wp2_with fail
        refine HC.out.mono ?_
        rintro e w7 ⟨rfl, hB⟩
        have B7 := Lib.hid (LeB.tr B6.out hB)
        clear hB
        go_upto_region 15 with (fail)
        generalize hw0 : World.alloc w7 (.cells y.cells 54) = wb
        have hblk : wb.heap[w7.heap.size]? = some (.cells y.cells 54 (0, 0)) := by rw [← hw0]; exact heap_alloc_new _ _
        have hB0 : LeB w7 wb := by rw [← hw0]; exact (Below.refl _ _).alloc (Nat.le_refl _) _
        have hcell : ∀ W, Below wb.heap.size wb W → (W.cell? ⟨w7.heap.size, 0, none⟩ = some (.int .i64 (y.ip : Int)) ∧ W.cell? ⟨w7.heap.size, 1, none⟩ = some (.int .i64 (y.bits : Int))) ∧ W.cell? (ad.add (k * 2)) = some (.int .i64 (y.ip : Int)) ∧ W.cell? ⟨(ad.add (k * 2)).block, (ad.add (k * 2)).off + 1, none⟩ = some (.int .i64 (y.bits : Int)) := fun W hW => by
          have e1 := (hW.block _ (Array.getElem?_eq_some_iff.1 hblk).1).trans hblk
          have e2 := HQ.out.below (LeB.tr B7.out (LeB.tr hB0 hW))
          exact ⟨⟨blk_cell e1 0, blk_cell e1 1⟩, e2.c0, e2.c1⟩
        have B8 := Lib.hid (LeB.tr B7.out hB0)
        clear hw0 hblk hB0
        refine wp_region_lex 25 (by kernel_rfl) (by kernel_rfl) (JB wb) LeB (oneφ 23 true) oneφ_st JB.mono ?_ ?_
        · exact (Below.refl _ _).drew
        simp only [List.take_succ_cons, List.take_zero, List.drop_succ_cons, List.drop_zero, pairs, List.zipIdx_cons, List.zipIdx_nil, List.map_cons, List.map_nil, Nat.zero_add, Nat.reduceAdd]
        refine LexG.out ?_
        (repeat (first | (refine lexg_pure rfl rfl (fun K hK => ?_); go_simp; refine hK _ ?_; clear hK K; try simp (disch := omega) only [IntWalk.i64_in, IntWalk.u8_in, Int.add_sub_cancel, Int.tmod_eq_emod_of_nonneg, Int.tdiv_eq_ediv_of_nonneg]) | (refine lexg_load rfl rfl _ (fun m W hJ hF => (by have cc := hcell W hJ; go_simp; rfl)) ?_; try simp (disch := omega) only [IntWalk.i64_in, IntWalk.u8_in, Int.add_sub_cancel, Int.tmod_eq_emod_of_nonneg, Int.tdiv_eq_ediv_of_nonneg]) | (refine lexg_skip rfl rfl rfl rfl rfl (fun K hK => ?_); go_simp; refine hK _ ?_; clear hK K) | (refine lexg_skipU rfl rfl rfl rfl (fun K hK => ?_); go_simp; refine hK _ ?_; clear hK K) | (refine lexg_pureG rfl rfl rfl rfl rfl rfl (fun K hK => ?_); go_simp; refine hK _ ?_; clear hK K; try simp (disch := omega) only [IntWalk.i64_in, IntWalk.u8_in, Int.add_sub_cancel, Int.tmod_eq_emod_of_nonneg, Int.tdiv_eq_ediv_of_nonneg]) | (refine lexg_loadG rfl rfl rfl rfl rfl rfl _ (fun m W hJ hF => (by have cc := hcell W hJ; go_simp; rfl)) ?_; try simp (disch := omega) only [IntWalk.i64_in, IntWalk.u8_in, Int.add_sub_cancel, Int.tmod_eq_emod_of_nonneg, Int.tdiv_eq_ediv_of_nonneg])))
        refine lexg_effG (sp := fun _ v _ => v = .bool true) rfl rfl rfl rfl rfl rfl (by intro _ _ _ _ h; exact h) (fun m W hJ hF => ?_) (fun v x hh => ?_)
        · refine gives_call Tryd.call32 ((NetOK_ok y HY.out.1 W).mono ?_)
          rintro e w' ⟨rfl, h4⟩
          exact ⟨_, rfl, hJ.step h4, h4, rfl⟩
        obtain ⟨_, _, -, rfl⟩ := hh
        (repeat (first | (refine lexg_pure rfl rfl (fun K hK => ?_); go_simp; refine hK _ ?_; clear hK K; try simp (disch := omega) only [IntWalk.i64_in, IntWalk.u8_in, Int.add_sub_cancel, Int.tmod_eq_emod_of_nonneg, Int.tdiv_eq_ediv_of_nonneg]) | (refine lexg_load rfl rfl _ (fun m W hJ hF => (by have cc := hcell W hJ; go_simp; rfl)) ?_; try simp (disch := omega) only [IntWalk.i64_in, IntWalk.u8_in, Int.add_sub_cancel, Int.tmod_eq_emod_of_nonneg, Int.tdiv_eq_ediv_of_nonneg]) | (refine lexg_skip rfl rfl rfl rfl rfl (fun K hK => ?_); go_simp; refine hK _ ?_; clear hK K) | (refine lexg_skipU rfl rfl rfl rfl (fun K hK => ?_); go_simp; refine hK _ ?_; clear hK K) | (refine lexg_pureG rfl rfl rfl rfl rfl rfl (fun K hK => ?_); go_simp; refine hK _ ?_; clear hK K; try simp (disch := omega) only [IntWalk.i64_in, IntWalk.u8_in, Int.add_sub_cancel, Int.tmod_eq_emod_of_nonneg, Int.tdiv_eq_ediv_of_nonneg]) | (refine lexg_loadG rfl rfl rfl rfl rfl rfl _ (fun m W hJ hF => (by have cc := hcell W hJ; go_simp; rfl)) ?_; try simp (disch := omega) only [IntWalk.i64_in, IntWalk.u8_in, Int.add_sub_cancel, Int.tmod_eq_emod_of_nonneg, Int.tdiv_eq_ediv_of_nonneg])))
        refine lexg_nil (fun m W hJ hF => ?_)
        have B9 := Lib.hid (And.intro (B8.out.tr (by exact hJ)) (LeB.tr HR.out (B8.out.tr (by exact hJ))))
        clear hF hJ hcell
        go_wp2_with fail
        cases b with
        | false =>
          go_quiet (fail)
          go_wp2_with fail
          go_roundw
          case rel => exact ⟨k + 1, by go_num, by omega, below_drewN B9.out.2 _⟩
          case measure => simp [intOf]; omega
        | true =>
          have hle := HO.out.2 k hlt HY.out.2.2.1
          rw [ntAt_get l k hlt, ntAt_get l kb hkb, HY.out.2.2.2] at hle
          obtain ⟨ad2, e2, q2⟩ := Nt.At.of (B2.out.2.below B9.out.2 (Nat.le_refl _)) kb hkb
          cases e2
          obtain ⟨z, hz⟩ : ∃ z, l[kb] = z := ⟨_, rfl⟩
          rw [hz] at q2 hle
          have p1 := (HQ.out.below B9.out.1).c1
          have p3 := q2.c1
          have hgI : decide ((z.bits : Int) < y.bits) = false := by simp; omega
          have hgN : decide (z.bits < y.bits) = false := by simp; omega
          clear hle q2 hz
          go_quiet (fail)
          go_wp2_with fail
          go_roundw
          case rel => exact ⟨k + 1, by go_num, by omega, below_drewN B9.out.2 _⟩
          case measure => simp [intOf]; omega
      · obtain rfl : k = l.length := by omega
        obtain ⟨ad2, e2, q2⟩ := Nt.At.of (B2.out.2.below HR.out (Nat.le_refl _)) kb hkb
        cases e2
        have hx := HN.out.1 _ (List.getElem_mem hkb)
        have hbb := HO.out.1
        rw [ntAt_get l kb hkb] at hbb
        obtain ⟨z, hz⟩ : ∃ z, l[kb] = z := ⟨_, rfl⟩
        rw [hz] at q2 hx hbb
        have p0 := q2.c0
        have p1 := q2.c1
        have HX := Lib.hid (And.intro hx hbb)
        clear q2 hz hx hbb
        go_wp2_with fail
        refine (NetHas_ok z HX.out.1 ip HI.out true HX.out.2 wr).mono ?_
        rintro e w5 ⟨rfl, hB⟩
        have B5 := Lib.hid hB
        clear hB p0 p1
        go_wp2_with fail
        go_ret
        exact ⟨rfl, LeB.tr B2.out.1 (LeB.tr HR.out B5.out)⟩
end Go.Proofs.YtmjddgdcokbmeaaDoor
