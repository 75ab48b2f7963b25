/- Nets: the longest net that has an address (both hands), as called. -/
import Derived.Test.YtmjddgdcokbmeaaDoorNtB
import Derived.Test.YtmjddgdcokbmeaaDoorNtC
import Derived.Test.YtmjddgdcokbmeaaDoorLexG
namespace Go.Proofs.YtmjddgdcokbmeaaDoor
open Go.RowKit
set_option linter.unusedVariables false
set_option linter.unusedSimpArgs false
set_option maxRecDepth 200000
set_option maxHeartbeats 4000000

/-- What LongestNet answers. -/
def lgRes (l : List Nt) (ip : Nat) : Int × Int := if lg l ip l.length < 0 then (0, 5) else (lg l ip l.length, 0)
theorem q0n {P : Program} {f : FuncId} {args : Array Value} {w : World} {n : Nat} {v : Value}
    (h : ∀ W, Calls P f args W fun e w' => e = .returned v ∧ LeB W w') : Calls P f args (w.drewN n) fun e w' => e = .returned v ∧ LeB (w.drewN n) w' := h _
theorem l05Nets_ok (A : Option Addr) (c : Nat) (l : List Nt) (hl : l.length ≤ 20) (hc : l.length ≤ c) (hn : ∀ x ∈ l, x ∈ N6) (w : World) (hr : Rd w A (rowC Nt.row l)) :
    Calls Tryd.prog 69 #[.slice A l.length c] w fun e w' => e = .returned (.bool true) ∧ LeB w w' := by
  have hlI : (l.length : Int) ≤ 20 := by omega
  have hcI : (l.length : Int) ≤ c := by omega
  have HK := Lib.hid (And.intro hr hn)
  clear hr hn
  go_enter Tryd.func69, Tryd.ntmps69
  go_wp2_with fail
  go_loopw [3] (fun i wr => ∃ k : Nat, i = .int .i64 k ∧ k ≤ l.length ∧ LeB w wr) (fun i _ => (l.length - (intOf i).toNat))
  case atStart => exact ⟨0, rfl, Nat.zero_le _, Below.refl _ _⟩
  case round =>
    obtain ⟨k, rfl, hk, hB⟩ := hrel
    have HR := Lib.hid hB
    clear hB
    by_cases hlt : k < l.length
    · have hltI : (k : Int) < l.length := by omega
      obtain ⟨ad, rfl, q1⟩ := Nt.At.of (HK.out.1.below HR.out (Nat.le_refl _)) k hlt
      have hx := HK.out.2 _ (List.getElem_mem hlt)
      obtain ⟨x, hxx⟩ : ∃ x, l[k] = x := ⟨_, rfl⟩
      rw [hxx] at q1 hx
      clear hxx
      have hcall := sNetOK_ok x hx wr
      obtain ⟨c0, c1⟩ := q1
      clear hx
      go_wp2_with fail
      refine hcall.mono ?_
      rintro e w1 ⟨rfl, hB1⟩
      clear c0 c1 hcall
      have HB := Lib.hid (LeB.tr HR.out hB1)
      clear hB1
      go_wp2_with fail
      go_roundw
      case rel => exact ⟨k + 1, by go_num, by omega, HB.out⟩
      case measure => simp [intOf]; omega
    · obtain rfl : k = l.length := by omega
      go_wp2_with fail
      go_ret
      exact ⟨rfl, HR.out⟩
def oneφ (i : Nat) (b : Bool) : Nat → Option Spec := fun j => if j = i then some (fun _ v _ => v = .bool b) else none
theorem oneφ_st {i : Nat} {b : Bool} : ∀ j sp x v w w', oneφ i b j = some sp → LeB w w' → sp x v w → sp x v w' := by
  intro j sp x v w w' hj _ h
  unfold oneφ at hj
  split at hj
  · cases hj; exact h
  · cases hj
theorem l05Longest_ok (A : Option Addr) (c : Nat) (l : List Nt) (hl : l.length ≤ 20) (hc : l.length ≤ c) (hn : ∀ x ∈ l, x ∈ N6) (ip : Nat) (hip : ip < 4294967296) (w : World) (hr : Rd w A (rowC Nt.row l)) :
    Calls Tryd.prog 70 #[.slice A l.length c, .int .i64 ip] w fun e w' => e = .returned (.int .i64 (lg l ip l.length)) ∧ LeB w w' := by
  have hlI : (l.length : Int) ≤ 20 := by omega
  have hcI : (l.length : Int) ≤ c := by omega
  have HK := Lib.hid (And.intro hr (And.intro hn (And.intro hip True.intro)))
  clear hr hn hip
  go_enter Tryd.func70, Tryd.ntmps70
  go_wp2_with fail
  go_loopw [5, 6] (fun v i wr => ∃ (k : Nat), i = .int .i64 k ∧ k ≤ l.length ∧ v = .int .i64 (lg l ip k) ∧ LeB w wr) (fun _ i _ => (l.length - (intOf i).toNat))
  case atStart => exact ⟨0, rfl, Nat.zero_le _, rfl, Below.refl _ _⟩
  case round =>
    obtain ⟨k, rfl, hk, rfl, hB⟩ := hrel
    have HR := Lib.hid (And.intro hB True.intro)
    clear hB
    obtain ⟨r, hr⟩ : ∃ r, lg l ip k = r := ⟨_, rfl⟩
    rw [hr]
    have HG := Lib.hid hr
    clear hr
    by_cases hlt : k < l.length
    · have hltI : (k : Int) < l.length := by omega
      obtain ⟨ad, rfl, q1⟩ := Nt.At.of (HK.out.1.below HR.out.1 (Nat.le_refl _)) k hlt
      have hx := HK.out.2.1 _ (List.getElem_mem hlt)
      obtain ⟨x, hxx⟩ : ∃ x, l[k] = x := ⟨_, rfl⟩
      rw [hxx] at q1 hx
      have HE := Lib.hid hxx
      have HQ := Lib.hid q1
      clear hxx q1
      go_upto_region 5 with (fail)
      obtain ⟨b, hb⟩ : ∃ b, hasB (ntAt l k) ip = b := ⟨_, rfl⟩
      have hcall := fun W => sHas_ok x hx ip HK.out.2.2.1 b (by rw [← hb, ntAt_get l k hlt, HE.out]) W
      have HC := Lib.hid hcall
      have HB := Lib.hid hb
      clear hcall hb hx
      have hck : ∀ W, Below wr.heap.size wr W → W.cell? (ad.add (k * 2)) = some (.int .i64 (x.ip : Int)) ∧ W.cell? ⟨(ad.add (k * 2)).block, (ad.add (k * 2)).off + 1, none⟩ = some (.int .i64 (x.bits : Int)) := fun W hW => ⟨(HQ.out.below hW).c0, (HQ.out.below hW).c1⟩
      have HCK := Lib.hid hck
      clear hck
      cases b with
      | false =>
        have hcell := HCK.out
        refine wp_region_lex 22 (by kernel_rfl) (by kernel_rfl) (JB wr) LeB (oneφ 5 false) oneφ_st JB.mono ?_ ?_
        · exact (Below.refl _ _).drew
        simp only [List.take_succ_cons, List.take_zero, List.drop_succ_cons, List.drop_zero, pairs, List.zipIdx_cons, List.zipIdx_nil, List.map_cons, List.map_nil, Nat.zero_add, Nat.reduceAdd]
        refine LexG.out ?_
        (repeat (first | (refine lexg_pure rfl rfl (fun K hK => ?_); go_simp; refine hK _ ?_; clear hK K; try simp (disch := omega) only [IntWalk.i64_in, IntWalk.u8_in, Int.add_sub_cancel, Int.tmod_eq_emod_of_nonneg, Int.tdiv_eq_ediv_of_nonneg]) | (refine lexg_load rfl rfl _ (fun m W hJ hF => (by have cc := hcell W hJ; go_simp; rfl)) ?_; try simp (disch := omega) only [IntWalk.i64_in, IntWalk.u8_in, Int.add_sub_cancel, Int.tmod_eq_emod_of_nonneg, Int.tdiv_eq_ediv_of_nonneg]) | (refine lexg_skip rfl rfl rfl rfl rfl (fun K hK => ?_); go_simp; refine hK _ ?_; clear hK K) | (refine lexg_skipU rfl rfl rfl rfl (fun K hK => ?_); go_simp; refine hK _ ?_; clear hK K) | (refine lexg_pureG rfl rfl rfl rfl rfl rfl (fun K hK => ?_); go_simp; refine hK _ ?_; clear hK K; try simp (disch := omega) only [IntWalk.i64_in, IntWalk.u8_in, Int.add_sub_cancel, Int.tmod_eq_emod_of_nonneg, Int.tdiv_eq_ediv_of_nonneg]) | (refine lexg_loadG rfl rfl rfl rfl rfl rfl _ (fun m W hJ hF => (by have cc := hcell W hJ; go_simp; rfl)) ?_; try simp (disch := omega) only [IntWalk.i64_in, IntWalk.u8_in, Int.add_sub_cancel, Int.tmod_eq_emod_of_nonneg, Int.tdiv_eq_ediv_of_nonneg])))
        refine lexg_eff (sp := fun _ v _ => v = .bool false) rfl rfl (by intro _ _ _ _ h; exact h) (fun m W hJ hF => ?_) (fun v x hh => ?_) rfl
        · refine gives_call Tryd.call100 ((HC.out W).mono ?_)
          rintro e w' ⟨rfl, h4⟩
          exact ⟨_, rfl, hJ.step h4, h4, rfl⟩
        obtain ⟨_, _, -, rfl, -⟩ := hh
        (repeat (first | (refine lexg_pure rfl rfl (fun K hK => ?_); go_simp; refine hK _ ?_; clear hK K; try simp (disch := omega) only [IntWalk.i64_in, IntWalk.u8_in, Int.add_sub_cancel, Int.tmod_eq_emod_of_nonneg, Int.tdiv_eq_ediv_of_nonneg]) | (refine lexg_load rfl rfl _ (fun m W hJ hF => (by have cc := hcell W hJ; go_simp; rfl)) ?_; try simp (disch := omega) only [IntWalk.i64_in, IntWalk.u8_in, Int.add_sub_cancel, Int.tmod_eq_emod_of_nonneg, Int.tdiv_eq_ediv_of_nonneg]) | (refine lexg_skip rfl rfl rfl rfl rfl (fun K hK => ?_); go_simp; refine hK _ ?_; clear hK K) | (refine lexg_skipU rfl rfl rfl rfl (fun K hK => ?_); go_simp; refine hK _ ?_; clear hK K) | (refine lexg_pureG rfl rfl rfl rfl rfl rfl (fun K hK => ?_); go_simp; refine hK _ ?_; clear hK K; try simp (disch := omega) only [IntWalk.i64_in, IntWalk.u8_in, Int.add_sub_cancel, Int.tmod_eq_emod_of_nonneg, Int.tdiv_eq_ediv_of_nonneg]) | (refine lexg_loadG rfl rfl rfl rfl rfl rfl _ (fun m W hJ hF => (by have cc := hcell W hJ; go_simp; rfl)) ?_; try simp (disch := omega) only [IntWalk.i64_in, IntWalk.u8_in, Int.add_sub_cancel, Int.tmod_eq_emod_of_nonneg, Int.tdiv_eq_ediv_of_nonneg])))
        refine lexg_nil (fun m W hJ hF => ?_)
        have HZ := Lib.hid (LeB.tr HR.out.1 hJ)
        clear hF hJ hcell
        go_wp2_with fail
        go_roundw
        case rel => exact ⟨k + 1, by go_num, by omega, by rw [lg_no l ip k HB.out, HG.out], HZ.out⟩
        case measure => simp [intOf]; omega
      | true =>
        by_cases hneg : r < 0
        · have HNG := Lib.hid hneg
          have hcell := HCK.out
          refine wp_region_lex 22 (by kernel_rfl) (by kernel_rfl) (JB wr) LeB (oneφ 5 true) oneφ_st JB.mono ?_ ?_
          · exact (Below.refl _ _).drew
          simp only [List.take_succ_cons, List.take_zero, List.drop_succ_cons, List.drop_zero, pairs, List.zipIdx_cons, List.zipIdx_nil, List.map_cons, List.map_nil, Nat.zero_add, Nat.reduceAdd]
          refine LexG.out ?_
          (repeat (first | (refine lexg_pure rfl rfl (fun K hK => ?_); go_simp; refine hK _ ?_; clear hK K; try simp (disch := omega) only [IntWalk.i64_in, IntWalk.u8_in, Int.add_sub_cancel, Int.tmod_eq_emod_of_nonneg, Int.tdiv_eq_ediv_of_nonneg]) | (refine lexg_load rfl rfl _ (fun m W hJ hF => (by have cc := hcell W hJ; go_simp; rfl)) ?_; try simp (disch := omega) only [IntWalk.i64_in, IntWalk.u8_in, Int.add_sub_cancel, Int.tmod_eq_emod_of_nonneg, Int.tdiv_eq_ediv_of_nonneg]) | (refine lexg_skip rfl rfl rfl rfl rfl (fun K hK => ?_); go_simp; refine hK _ ?_; clear hK K) | (refine lexg_skipU rfl rfl rfl rfl (fun K hK => ?_); go_simp; refine hK _ ?_; clear hK K) | (refine lexg_pureG rfl rfl rfl rfl rfl rfl (fun K hK => ?_); go_simp; refine hK _ ?_; clear hK K; try simp (disch := omega) only [IntWalk.i64_in, IntWalk.u8_in, Int.add_sub_cancel, Int.tmod_eq_emod_of_nonneg, Int.tdiv_eq_ediv_of_nonneg]) | (refine lexg_loadG rfl rfl rfl rfl rfl rfl _ (fun m W hJ hF => (by have cc := hcell W hJ; go_simp; rfl)) ?_; try simp (disch := omega) only [IntWalk.i64_in, IntWalk.u8_in, Int.add_sub_cancel, Int.tmod_eq_emod_of_nonneg, Int.tdiv_eq_ediv_of_nonneg])))
          refine lexg_eff (sp := fun _ v _ => v = .bool true) rfl rfl (by intro _ _ _ _ h; exact h) (fun m W hJ hF => ?_) (fun v x hh => ?_) rfl
          · refine gives_call Tryd.call100 ((HC.out W).mono ?_)
            rintro e w' ⟨rfl, h4⟩
            exact ⟨_, rfl, hJ.step h4, h4, rfl⟩
          obtain ⟨_, _, -, rfl, -⟩ := hh
          (repeat (first | (refine lexg_pure rfl rfl (fun K hK => ?_); go_simp; refine hK _ ?_; clear hK K; try simp (disch := omega) only [IntWalk.i64_in, IntWalk.u8_in, Int.add_sub_cancel, Int.tmod_eq_emod_of_nonneg, Int.tdiv_eq_ediv_of_nonneg]) | (refine lexg_load rfl rfl _ (fun m W hJ hF => (by have cc := hcell W hJ; go_simp; rfl)) ?_; try simp (disch := omega) only [IntWalk.i64_in, IntWalk.u8_in, Int.add_sub_cancel, Int.tmod_eq_emod_of_nonneg, Int.tdiv_eq_ediv_of_nonneg]) | (refine lexg_skip rfl rfl rfl rfl rfl (fun K hK => ?_); go_simp; refine hK _ ?_; clear hK K) | (refine lexg_skipU rfl rfl rfl rfl (fun K hK => ?_); go_simp; refine hK _ ?_; clear hK K) | (refine lexg_pureG rfl rfl rfl rfl rfl rfl (fun K hK => ?_); go_simp; refine hK _ ?_; clear hK K; try simp (disch := omega) only [IntWalk.i64_in, IntWalk.u8_in, Int.add_sub_cancel, Int.tmod_eq_emod_of_nonneg, Int.tdiv_eq_ediv_of_nonneg]) | (refine lexg_loadG rfl rfl rfl rfl rfl rfl _ (fun m W hJ hF => (by have cc := hcell W hJ; go_simp; rfl)) ?_; try simp (disch := omega) only [IntWalk.i64_in, IntWalk.u8_in, Int.add_sub_cancel, Int.tmod_eq_emod_of_nonneg, Int.tdiv_eq_ediv_of_nonneg])))
          refine lexg_nil (fun m W hJ hF => ?_)
          have HZ := Lib.hid (LeB.tr HR.out.1 hJ)
          clear hF hJ hcell
          go_wp2_with fail
          go_roundw
          case rel => exact ⟨k + 1, by go_num, by omega, by rw [lg_new l ip k HB.out (.inl (by rw [HG.out]; exact HNG.out))], HZ.out⟩
          case measure => simp [intOf]; omega
        obtain ⟨kb, rfl⟩ := Int.eq_ofNat_of_zero_le (by omega : 0 ≤ r)
        have hinv := lg_inv l ip k
        rw [HG.out] at hinv
        have hkb : kb < l.length := by have := hinv.1.2; omega
        have hkbI : (kb : Int) < l.length := by omega
        have hd0 : decide ((kb : Int) < 0) = false := by simp
        obtain ⟨ady, ey, qy⟩ := Nt.At.of (HK.out.1.below HR.out.1 (Nat.le_refl _)) kb hkb
        cases ey
        obtain ⟨y, hy⟩ : ∃ y, l[kb] = y := ⟨_, rfl⟩
        rw [hy] at qy
        have HEY := Lib.hid hy
        have HQY := Lib.hid qy
        clear hinv hneg hy qy
        by_cases hgt : y.bits < x.bits
        · have hgI : (y.bits : Int) < x.bits := by omega
          have hgN := hgt
          have HGT := Lib.hid hgt
          clear hgt
          have hcell : ∀ W, Below wr.heap.size wr W → W.cell? (ad.add (k * 2)) = some (.int .i64 (x.ip : Int)) ∧ W.cell? ⟨(ad.add (k * 2)).block, (ad.add (k * 2)).off + 1, none⟩ = some (.int .i64 (x.bits : Int)) ∧ W.cell? ⟨(ad.add (kb * 2)).block, (ad.add (kb * 2)).off + 1, none⟩ = some (.int .i64 (y.bits : Int)) := fun W hW => ⟨(HCK.out W hW).1, (HCK.out W hW).2, (HQY.out.below hW).c1⟩
          refine wp_region_lex 22 (by kernel_rfl) (by kernel_rfl) (JB wr) LeB (oneφ 5 true) oneφ_st JB.mono ?_ ?_
          · exact (Below.refl _ _).drew
          simp only [List.take_succ_cons, List.take_zero, List.drop_succ_cons, List.drop_zero, pairs, List.zipIdx_cons, List.zipIdx_nil, List.map_cons, List.map_nil, Nat.zero_add, Nat.reduceAdd]
          refine LexG.out ?_
          (repeat (first | (refine lexg_pure rfl rfl (fun K hK => ?_); go_simp; refine hK _ ?_; clear hK K; try simp (disch := omega) only [IntWalk.i64_in, IntWalk.u8_in, Int.add_sub_cancel, Int.tmod_eq_emod_of_nonneg, Int.tdiv_eq_ediv_of_nonneg]) | (refine lexg_load rfl rfl _ (fun m W hJ hF => (by have cc := hcell W hJ; go_simp; rfl)) ?_; try simp (disch := omega) only [IntWalk.i64_in, IntWalk.u8_in, Int.add_sub_cancel, Int.tmod_eq_emod_of_nonneg, Int.tdiv_eq_ediv_of_nonneg]) | (refine lexg_skip rfl rfl rfl rfl rfl (fun K hK => ?_); go_simp; refine hK _ ?_; clear hK K) | (refine lexg_skipU rfl rfl rfl rfl (fun K hK => ?_); go_simp; refine hK _ ?_; clear hK K) | (refine lexg_pureG rfl rfl rfl rfl rfl rfl (fun K hK => ?_); go_simp; refine hK _ ?_; clear hK K; try simp (disch := omega) only [IntWalk.i64_in, IntWalk.u8_in, Int.add_sub_cancel, Int.tmod_eq_emod_of_nonneg, Int.tdiv_eq_ediv_of_nonneg]) | (refine lexg_loadG rfl rfl rfl rfl rfl rfl _ (fun m W hJ hF => (by have cc := hcell W hJ; go_simp; rfl)) ?_; try simp (disch := omega) only [IntWalk.i64_in, IntWalk.u8_in, Int.add_sub_cancel, Int.tmod_eq_emod_of_nonneg, Int.tdiv_eq_ediv_of_nonneg])))
          refine lexg_eff (sp := fun _ v _ => v = .bool true) rfl rfl (by intro _ _ _ _ h; exact h) (fun m W hJ hF => ?_) (fun v x hh => ?_) rfl
          · refine gives_call Tryd.call100 ((HC.out W).mono ?_)
            rintro e w' ⟨rfl, h4⟩
            exact ⟨_, rfl, hJ.step h4, h4, rfl⟩
          obtain ⟨_, _, -, rfl, -⟩ := hh
          (repeat (first | (refine lexg_pure rfl rfl (fun K hK => ?_); go_simp; refine hK _ ?_; clear hK K; try simp (disch := omega) only [IntWalk.i64_in, IntWalk.u8_in, Int.add_sub_cancel, Int.tmod_eq_emod_of_nonneg, Int.tdiv_eq_ediv_of_nonneg]) | (refine lexg_load rfl rfl _ (fun m W hJ hF => (by have cc := hcell W hJ; go_simp; rfl)) ?_; try simp (disch := omega) only [IntWalk.i64_in, IntWalk.u8_in, Int.add_sub_cancel, Int.tmod_eq_emod_of_nonneg, Int.tdiv_eq_ediv_of_nonneg]) | (refine lexg_skip rfl rfl rfl rfl rfl (fun K hK => ?_); go_simp; refine hK _ ?_; clear hK K) | (refine lexg_skipU rfl rfl rfl rfl (fun K hK => ?_); go_simp; refine hK _ ?_; clear hK K) | (refine lexg_pureG rfl rfl rfl rfl rfl rfl (fun K hK => ?_); go_simp; refine hK _ ?_; clear hK K; try simp (disch := omega) only [IntWalk.i64_in, IntWalk.u8_in, Int.add_sub_cancel, Int.tmod_eq_emod_of_nonneg, Int.tdiv_eq_ediv_of_nonneg]) | (refine lexg_loadG rfl rfl rfl rfl rfl rfl _ (fun m W hJ hF => (by have cc := hcell W hJ; go_simp; rfl)) ?_; try simp (disch := omega) only [IntWalk.i64_in, IntWalk.u8_in, Int.add_sub_cancel, Int.tmod_eq_emod_of_nonneg, Int.tdiv_eq_ediv_of_nonneg])))
          refine lexg_nil (fun m W hJ hF => ?_)
          have HZ := Lib.hid (LeB.tr HR.out.1 hJ)
          clear hF hJ hcell
          go_wp2_with fail
          go_roundw
          case rel => exact ⟨k + 1, by go_num, by omega, by rw [lg_new l ip k HB.out (.inr (by rw [HG.out, Int.toNat_natCast, ntAt_get l kb hkb, ntAt_get l k hlt, HE.out, HEY.out]; exact HGT.out))], HZ.out⟩
          case measure => simp [intOf]; omega
        · have hgI : decide ((y.bits : Int) < x.bits) = false := by simp; omega
          have hgN : decide (y.bits < x.bits) = false := by simp; omega
          have HGT := Lib.hid hgt
          clear hgt
          have hcell : ∀ W, Below wr.heap.size wr W → W.cell? (ad.add (k * 2)) = some (.int .i64 (x.ip : Int)) ∧ W.cell? ⟨(ad.add (k * 2)).block, (ad.add (k * 2)).off + 1, none⟩ = some (.int .i64 (x.bits : Int)) ∧ W.cell? ⟨(ad.add (kb * 2)).block, (ad.add (kb * 2)).off + 1, none⟩ = some (.int .i64 (y.bits : Int)) := fun W hW => ⟨(HCK.out W hW).1, (HCK.out W hW).2, (HQY.out.below hW).c1⟩
          refine wp_region_lex 22 (by kernel_rfl) (by kernel_rfl) (JB wr) LeB (oneφ 5 true) oneφ_st JB.mono ?_ ?_
          · exact (Below.refl _ _).drew
          simp only [List.take_succ_cons, List.take_zero, List.drop_succ_cons, List.drop_zero, pairs, List.zipIdx_cons, List.zipIdx_nil, List.map_cons, List.map_nil, Nat.zero_add, Nat.reduceAdd]
          refine LexG.out ?_
          (repeat (first | (refine lexg_pure rfl rfl (fun K hK => ?_); go_simp; refine hK _ ?_; clear hK K; try simp (disch := omega) only [IntWalk.i64_in, IntWalk.u8_in, Int.add_sub_cancel, Int.tmod_eq_emod_of_nonneg, Int.tdiv_eq_ediv_of_nonneg]) | (refine lexg_load rfl rfl _ (fun m W hJ hF => (by have cc := hcell W hJ; go_simp; rfl)) ?_; try simp (disch := omega) only [IntWalk.i64_in, IntWalk.u8_in, Int.add_sub_cancel, Int.tmod_eq_emod_of_nonneg, Int.tdiv_eq_ediv_of_nonneg]) | (refine lexg_skip rfl rfl rfl rfl rfl (fun K hK => ?_); go_simp; refine hK _ ?_; clear hK K) | (refine lexg_skipU rfl rfl rfl rfl (fun K hK => ?_); go_simp; refine hK _ ?_; clear hK K) | (refine lexg_pureG rfl rfl rfl rfl rfl rfl (fun K hK => ?_); go_simp; refine hK _ ?_; clear hK K; try simp (disch := omega) only [IntWalk.i64_in, IntWalk.u8_in, Int.add_sub_cancel, Int.tmod_eq_emod_of_nonneg, Int.tdiv_eq_ediv_of_nonneg]) | (refine lexg_loadG rfl rfl rfl rfl rfl rfl _ (fun m W hJ hF => (by have cc := hcell W hJ; go_simp; rfl)) ?_; try simp (disch := omega) only [IntWalk.i64_in, IntWalk.u8_in, Int.add_sub_cancel, Int.tmod_eq_emod_of_nonneg, Int.tdiv_eq_ediv_of_nonneg])))
          refine lexg_eff (sp := fun _ v _ => v = .bool true) rfl rfl (by intro _ _ _ _ h; exact h) (fun m W hJ hF => ?_) (fun v x hh => ?_) rfl
          · refine gives_call Tryd.call100 ((HC.out W).mono ?_)
            rintro e w' ⟨rfl, h4⟩
            exact ⟨_, rfl, hJ.step h4, h4, rfl⟩
          obtain ⟨_, _, -, rfl, -⟩ := hh
          (repeat (first | (refine lexg_pure rfl rfl (fun K hK => ?_); go_simp; refine hK _ ?_; clear hK K; try simp (disch := omega) only [IntWalk.i64_in, IntWalk.u8_in, Int.add_sub_cancel, Int.tmod_eq_emod_of_nonneg, Int.tdiv_eq_ediv_of_nonneg]) | (refine lexg_load rfl rfl _ (fun m W hJ hF => (by have cc := hcell W hJ; go_simp; rfl)) ?_; try simp (disch := omega) only [IntWalk.i64_in, IntWalk.u8_in, Int.add_sub_cancel, Int.tmod_eq_emod_of_nonneg, Int.tdiv_eq_ediv_of_nonneg]) | (refine lexg_skip rfl rfl rfl rfl rfl (fun K hK => ?_); go_simp; refine hK _ ?_; clear hK K) | (refine lexg_skipU rfl rfl rfl rfl (fun K hK => ?_); go_simp; refine hK _ ?_; clear hK K) | (refine lexg_pureG rfl rfl rfl rfl rfl rfl (fun K hK => ?_); go_simp; refine hK _ ?_; clear hK K; try simp (disch := omega) only [IntWalk.i64_in, IntWalk.u8_in, Int.add_sub_cancel, Int.tmod_eq_emod_of_nonneg, Int.tdiv_eq_ediv_of_nonneg]) | (refine lexg_loadG rfl rfl rfl rfl rfl rfl _ (fun m W hJ hF => (by have cc := hcell W hJ; go_simp; rfl)) ?_; try simp (disch := omega) only [IntWalk.i64_in, IntWalk.u8_in, Int.add_sub_cancel, Int.tmod_eq_emod_of_nonneg, Int.tdiv_eq_ediv_of_nonneg])))
          refine lexg_nil (fun m W hJ hF => ?_)
          have HZ := Lib.hid (LeB.tr HR.out.1 hJ)
          clear hF hJ hcell
          go_wp2_with fail
          go_roundw
          case rel => exact ⟨k + 1, by go_num, by omega, by rw [lg_old l ip k (by rw [HG.out]; omega) (by rw [HG.out, Int.toNat_natCast, ntAt_get l kb hkb, ntAt_get l k hlt, HE.out, HEY.out]; have := HGT.out; omega), HG.out], HZ.out⟩
          case measure => simp [intOf]; omega
    · obtain rfl : k = l.length := by omega
      have HE := Lib.hid HG.out
      go_wp2_with fail
      go_ret
      exact ⟨by rw [HE.out]; rfl, HR.out.1⟩
end Go.Proofs.YtmjddgdcokbmeaaDoor
