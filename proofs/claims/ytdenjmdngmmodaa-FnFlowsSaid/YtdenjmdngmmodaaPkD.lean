/- Packets read. -/
import Derived.Test.YtdenjmdngmmodaaPkC
namespace Go.Proofs.Ytdenjmdngmmodaa
open Go.RowKit
set_option linter.unusedVariables false
set_option linter.unusedSimpArgs false
set_option maxRecDepth 20000
set_option maxHeartbeats 2000000

structure Pk where
  s : Nat
  d : Nat
  p : Nat
  t : Nat
  i : Nat
  body : List UInt8
def Pk.v (f : Pk) : Value := .agg #[.int .i64 f.s, .int .i64 f.d, .int .i64 f.p, .int .i64 f.t, .int .i64 f.i, .string (bstr f.body)]
def Pk.zero : Pk := ⟨0, 0, 0, 0, 0, []⟩
def pkOf (bs : List UInt8) : Pk := ⟨numL ((bs.drop 12).take 4), numL ((bs.drop 16).take 4), (bs.getD 9 0).toNat, (bs.getD 8 0).toNat, numL ((bs.drop 4).take 2), (bs.drop 20).take (numL ((bs.drop 2).take 2) - 20)⟩
theorem ofInt_i64 (a : Nat) (h : a < 9223372036854775808) : BitVec.ofInt 64 (a : Int) = BitVec.ofNat 64 a := by simp
theorem and_16383 (n : Nat) (h : n < 9223372036854775808) : bits .and .i64 (n : Int) 16383 = ((n % 16384 : Nat) : Int) := by
  show IntKind.i64.wrap ((BitVec.ofInt 64 (n : Int) &&& BitVec.ofInt 64 ((16383 : Nat) : Int)).toNat : Int) = _
  rw [BitVec.toNat_and, ofInt_i64 n h, ofInt_i64 16383 (by omega), IntKind.wrap_i64, BitVec.toNat_ofNat, BitVec.toNat_ofNat, Nat.mod_eq_of_lt (by omega : n < 2 ^ 64), show 16383 % 2 ^ 64 = 2 ^ 14 - 1 from rfl, Nat.and_two_pow_sub_one_eq_mod]
  omega
/-- What readPacket answers. -/
def rdPk (bs : List UInt8) : Pk × Int :=
  if 20 ≤ bs.length ∧ bs.length ≤ 400 ∧ (bs.getD 0 0).toNat = 69 ∧ 20 ≤ numL ((bs.drop 2).take 2) ∧ numL ((bs.drop 2).take 2) ≤ bs.length then
    if f16 (ws true (bs.take 20)) = 65535 then
      if numL ((bs.drop 6).take 2) % 16384 = 0 then (pkOf bs, 0) else (.zero, 11)
    else (.zero, 8)
  else (.zero, 3)
def readPacketφ (bs : List UInt8) : Nat → Option Spec
  | 2 => some (fun _ v _ => v = .int .i64 (numL ((bs.drop 12).take 4)))
  | 5 => some (fun _ v _ => v = .int .i64 (numL ((bs.drop 16).take 4)))
  | 16 => some (fun _ v _ => v = .int .i64 (numL ((bs.drop 4).take 2)))
  | 20 => some (fun _ v _ => v = .int .i64 (numL ((bs.drop 2).take 2)))
  | _ => none

theorem readPacket_ok (A : Option Addr) (c : Nat) (bs : List UInt8) (hl : bs.length ≤ 1099511627776) (hc : bs.length ≤ c) (w : World) (hr : Rd w A (bs.map bV)) :
    Calls Try.prog 67 #[.slice A bs.length c] w fun e w' => e = .returned (.tuple #[(rdPk bs).1.v, .int .i64 (rdPk bs).2]) ∧ Below w.heap.size w w' := by
  by_cases hlen : 20 ≤ bs.length ∧ bs.length ≤ 400
  · have hd : decide ((20 : Int) ≤ bs.length ∧ (bs.length : Int) ≤ 400) = true := by simp; omega
    obtain ⟨ad, rfl, hk0⟩ := hr.at_ (k := 0) (by simp; omega)
    have hk0' : w.cell? (ad.add 0) = some (.int .u8 ((bs.getD 0 0).toNat : Int)) := by rw [hk0]; simp [bV, List.getD, show 0 < bs.length by omega]
    obtain ⟨ab, ao, sp⟩ := ad
    obtain rfl : sp = none := by simpa [Addr.add] using World.cell?_spot hk0
    have cell : ∀ k, k < 20 → w.cell? ⟨ab, ao + k, none⟩ = some (.int .u8 ((bs.getD k 0).toNat : Int)) := fun k hk => by
      obtain ⟨ad', e, h⟩ := hr.at_ (k := k) (by simp; omega)
      cases e
      rw [show (⟨ab, ao + k, none⟩ : Addr) = (⟨ab, ao, none⟩ : Addr).add k from by rw [Addr.add_lit], h]
      simp [bV, List.getD, show k < bs.length by omega]
    have HD := Lib.hid hd
    have Hl := Lib.hid (And.intro hlen (And.intro hl hc))
    have hlen20 : (20 : Int) ≤ bs.length := by omega
    have hcc : (20 : Int) ≤ c := by omega
    have n2 : ¬ c = 2 := by omega
    have n4 : ¬ c = 4 := by omega
    have n6 : ¬ c = 6 := by omega
    have n12 : ¬ c = 12 := by omega
    have n16 : ¬ c = 16 := by omega
    have k2 : (2 : Int) ≤ c := by omega
    have k4 : (4 : Int) ≤ c := by omega
    have k6 : (6 : Int) ≤ c := by omega
    have k8 : (8 : Int) ≤ c := by omega
    have k12 : (12 : Int) ≤ c := by omega
    have k16 : (16 : Int) ≤ c := by omega
    clear hlen hl hc hd hk0 hk0'
    go_enter Try.func67, Try.ntmps67
    go_wp2_with fail
    generalize hw0 : World.alloc w (.cells #[.int .i64 0, .int .i64 0, .int .i64 0, .int .i64 0, .int .i64 0, .string ⟨#[]⟩] 39) = w0
    have hblk : w0.heap[World.heap w |>.size]? = some (.cells #[.int .i64 0, .int .i64 0, .int .i64 0, .int .i64 0, .int .i64 0, .string ⟨#[]⟩] 39 (0, 0)) := by rw [← hw0]; exact heap_alloc_new _ _
    have hlt : (World.heap w).size < w0.heap.size := (Array.getElem?_eq_some_iff.1 hblk).1
    have hB0 : Below (World.heap w).size w w0 := by rw [← hw0]; exact (Below.refl _ _).alloc (Nat.le_refl _) _
    clear hw0
    refine (within_ok _ _ _ _).mono ?_
    rintro e w1 ⟨rfl, rfl⟩
    rw [HD.out]
    have hr0 := hr.below hB0 (Nat.le_refl _)
    have hrs : ∀ W, Below w0.heap.size w0 W → ∀ k n, 0 < k → k < 20 → Rd W (some ⟨ab, ao + k, none⟩) (((bs.drop k).take n).map bV) := fun W hW k n h0 h1 => by
      have h := (hr0.below hW (Nat.le_refl _)).sl Hl.out.2.2 k n h0
      rw [if_neg (by have := Hl.out; omega)] at h
      exact h
    have hdl : ∀ k n, k + n ≤ 20 → ((bs.drop k).take n).length = n := fun k n h => by have := Hl.out; rw [List.length_take, List.length_drop]; omega
    have c00 : w0.cell? ⟨ab, ao, none⟩ = some (.int .u8 ((bs.getD 0 0).toNat : Int)) := (hB0.cell (World.block_lt_of_cell? w _ (cell 0 (by omega)))).trans (cell 0 (by omega))
    have c08 : w0.cell? ⟨ab, ao + 8, none⟩ = some (.int .u8 ((bs.getD 8 0).toNat : Int)) := (hB0.cell (World.block_lt_of_cell? w _ (cell 8 (by omega)))).trans (cell 8 (by omega))
    have c09 : w0.cell? ⟨ab, ao + 9, none⟩ = some (.int .u8 ((bs.getD 9 0).toNat : Int)) := (hB0.cell (World.block_lt_of_cell? w _ (cell 9 (by omega)))).trans (cell 9 (by omega))
    have u8 := (bs.getD 8 0).toNat_lt
    have u9 := (bs.getD 9 0).toNat_lt
    clear cell
    have hbr : rdPk bs = if (bs.getD 0 0).toNat = 69 ∧ 20 ≤ numL ((bs.drop 2).take 2) ∧ numL ((bs.drop 2).take 2) ≤ bs.length then (if f16 (ws true (bs.take 20)) = 65535 then (if numL ((bs.drop 6).take 2) % 16384 = 0 then (pkOf bs, 0) else (.zero, 11)) else (.zero, 8)) else (.zero, 3) := by
      unfold rdPk; have h1 := Hl.out.1.1; have h2 := Hl.out.1.2; simp only [h1, h2, true_and]
    have hpk : pkOf bs = ⟨numL ((bs.drop 12).take 4), numL ((bs.drop 16).take 4), (bs.getD 9 0).toNat, (bs.getD 8 0).toNat, numL ((bs.drop 4).take 2), (bs.drop 20).take (numL ((bs.drop 2).take 2) - 20)⟩ := rfl
    have HPK := Lib.hid hpk
    clear hpk
    generalize (bs.getD 0 0).toNat = x0 at *
    generalize (bs.getD 8 0).toNat = x8 at *
    generalize (bs.getD 9 0).toNat = x9 at *
    by_cases h69 : x0 = 69
    · subst h69
      have HBR := Lib.hid hbr
      clear hbr
      go_wp2_with fail
      refine (hdl 2 2 (by omega) ▸ num_ok _ (c - 2) ((bs.drop 2).take 2) (by rw [hdl 2 2 (by omega)]; omega) w0 (hrs w0 (Below.refl _ _) 2 2 (by omega) (by omega))).mono ?_
      rintro e w1 ⟨rfl, rfl⟩
      go_wp2_with fail
      refine (within_ok _ _ _ _).mono ?_
      rintro e w1 ⟨rfl, rfl⟩
      generalize hN : numL ((bs.drop 2).take 2) = N at *
      by_cases hL : 20 ≤ N ∧ N ≤ bs.length
      · rw [show decide ((20 : Int) ≤ N ∧ (N : Int) ≤ bs.length) = true from by simp; omega]
        obtain ⟨hL1, hL2⟩ := hL
        go_wp2_with fail
        have h20 : (bs.take 20).length = 20 := by have := Hl.out; rw [List.length_take]; omega
        refine (h20 ▸ sum16_ok (some ⟨ab, ao, none⟩) c (bs.take 20) (by rw [h20]; omega) w0 (hr0.hd 20)).mono ?_
        rintro e w1 ⟨rfl, rfl⟩
        by_cases hs : f16 (ws true (bs.take 20)) = 65535
        · rw [hs]
          go_wp2_with fail
          refine (hdl 6 2 (by omega) ▸ num_ok _ (c - 6) ((bs.drop 6).take 2) (by rw [hdl 6 2 (by omega)]; omega) w0 (hrs w0 (Below.refl _ _) 6 2 (by omega) (by omega))).mono ?_
          rintro e w1 ⟨rfl, rfl⟩
          have hbits := and_16383 (numL ((bs.drop 6).take 2)) (by have := numL_lt ((bs.drop 6).take 2); rw [hdl 6 2 (by omega)] at this; omega)
          have hbr2 : rdPk bs = if numL ((bs.drop 6).take 2) % 16384 = 0 then (pkOf bs, 0) else (.zero, 11) := by rw [HBR.out, if_pos ⟨trivial, hL1, hL2⟩, if_pos hs]
          generalize hq6 : numL ((bs.drop 6).take 2) % 16384 = q6 at *
          by_cases hq : q6 = 0
          · subst hq
            have hfin : rdPk bs = (pkOf bs, 0) := hbr2
            have HF := Lib.hid hfin
            clear hfin hbr2 hq6
            go_wp2_with fail
            have hcell : ∀ W, Below w0.heap.size w0 W → W.cell? ⟨ab, ao + 9, none⟩ = some (.int .u8 (x9 : Int)) ∧ W.cell? ⟨ab, ao + 8, none⟩ = some (.int .u8 (x8 : Int)) ∧ (convert 22 9 (.slice (if c = 20 then some ⟨ab, ao, none⟩ else some ⟨ab, ao + 20, none⟩) (N - 20) (c - 20))).run Try.prog W = .ok (.string (bstr ((bs.drop 20).take (N - 20)))) W := fun W hW => by
              have hr' := hr0.below hW (Nat.le_refl _)
              exact ⟨(hW.cell (World.block_lt_of_cell? w0 _ c09)).trans c09, (hW.cell (World.block_lt_of_cell? w0 _ c08)).trans c08, bytes_str _ _ _ _ (by rw [List.length_take, List.length_drop]; omega) _ (hr'.sl Hl.out.2.2 20 _ (by omega))⟩
            have x8' : (x8 : Int) ≤ 255 := by omega
            have x9' : (x9 : Int) ≤ 255 := by omega
            have hN1 : (20 : Int) ≤ N := by omega
            have i8 : (8 : Int) < bs.length := by omega
            have i9 : (9 : Int) < bs.length := by omega
            have hN2 : (N : Int) ≤ bs.length := by omega
            have hN3 : (N : Int) ≤ c := by have := Hl.out.2.2; omega
            have HC := Lib.hid (And.intro c00 (And.intro c08 c09))
            clear c00 c08 c09 hs
            refine wp_region_lex 24 (by kernel_rfl) (by kernel_rfl) (JB w0) LeB (readPacketφ bs) ?_ JB.mono ?_ ?_
            · intro j sp x v W W' hj hL h
              unfold readPacketφ at hj
              split at hj <;> first | (cases hj; first | exact h | exact BsSp.st hL h | exact ArgRow.st hL h | exact OwnSp.st hL h | exact AllocSp.st hL h) | cases hj
            · exact (Below.refl _ _).drew
            simp only [List.take_succ_cons, List.take_zero, List.drop_succ_cons, List.drop_zero, pairs, List.zipIdx_cons, List.zipIdx_nil, List.map_cons, List.map_nil, Nat.zero_add, Nat.reduceAdd]
            (repeat (first | (refine lex_pure rfl rfl (fun K hK => ?_); go_simp; refine hK _ ?_; clear hK K; try simp (disch := omega) only [IntWalk.i64_in, IntWalk.u8_in, Int.add_sub_cancel, Int.tmod_eq_emod_of_nonneg, Int.tdiv_eq_ediv_of_nonneg]) | (refine lex_load rfl rfl _ (fun m W hJ hF => (by have cc := hcell W hJ; go_simp; rfl)) ?_; try simp (disch := omega) only [IntWalk.i64_in, IntWalk.u8_in, Int.add_sub_cancel, Int.tmod_eq_emod_of_nonneg, Int.tdiv_eq_ediv_of_nonneg]) | (refine lex_sadd rfl rfl rfl rfl rfl (by first | omega | (simp only [ByteArray.size_append]; omega)) ?_; go_simp)))
            refine lex_eff' (sp := fun _ v _ => v = .int .i64 (numL ((bs.drop 12).take 4))) rfl rfl (by intro _ _ _ _ h; exact h) (fun m W hJ hF => ?_) (fun v x hh => ?_) rfl
            · have hr' := (hr.below hB0 (Nat.le_refl _)).below hJ (Nat.le_refl _)
              have hn : ((bs.drop 12).take 4).length = 4 := by simp only [List.length_take, List.length_drop]; omega
              refine gives_call Try.call115 ((hn ▸ num_ok _ (c - 12) ((bs.drop 12).take 4) (by omega) W (hrs _ hJ 12 4 (by omega) (by omega))).mono ?_)
              rintro e w' ⟨rfl, rfl⟩
              exact ⟨_, rfl, hJ, LeB.of (Below.refl _ _), rfl⟩
            obtain ⟨_, _, -, rfl, -⟩ := hh
            (repeat (first | (refine lex_pure rfl rfl (fun K hK => ?_); go_simp; refine hK _ ?_; clear hK K; try simp (disch := omega) only [IntWalk.i64_in, IntWalk.u8_in, Int.add_sub_cancel, Int.tmod_eq_emod_of_nonneg, Int.tdiv_eq_ediv_of_nonneg]) | (refine lex_load rfl rfl _ (fun m W hJ hF => (by have cc := hcell W hJ; go_simp; rfl)) ?_; try simp (disch := omega) only [IntWalk.i64_in, IntWalk.u8_in, Int.add_sub_cancel, Int.tmod_eq_emod_of_nonneg, Int.tdiv_eq_ediv_of_nonneg]) | (refine lex_sadd rfl rfl rfl rfl rfl (by first | omega | (simp only [ByteArray.size_append]; omega)) ?_; go_simp)))
            refine lex_eff' (sp := fun _ v _ => v = .int .i64 (numL ((bs.drop 16).take 4))) rfl rfl (by intro _ _ _ _ h; exact h) (fun m W hJ hF => ?_) (fun v x hh => ?_) rfl
            · have hr' := (hr.below hB0 (Nat.le_refl _)).below hJ (Nat.le_refl _)
              have hn : ((bs.drop 16).take 4).length = 4 := by simp only [List.length_take, List.length_drop]; omega
              refine gives_call Try.call115 ((hn ▸ num_ok _ (c - 16) ((bs.drop 16).take 4) (by omega) W (hrs _ hJ 16 4 (by omega) (by omega))).mono ?_)
              rintro e w' ⟨rfl, rfl⟩
              exact ⟨_, rfl, hJ, LeB.of (Below.refl _ _), rfl⟩
            obtain ⟨_, _, -, rfl, -⟩ := hh
            (repeat (first | (refine lex_pure rfl rfl (fun K hK => ?_); go_simp; refine hK _ ?_; clear hK K; try simp (disch := omega) only [IntWalk.i64_in, IntWalk.u8_in, Int.add_sub_cancel, Int.tmod_eq_emod_of_nonneg, Int.tdiv_eq_ediv_of_nonneg]) | (refine lex_load rfl rfl _ (fun m W hJ hF => (by have cc := hcell W hJ; go_simp; rfl)) ?_; try simp (disch := omega) only [IntWalk.i64_in, IntWalk.u8_in, Int.add_sub_cancel, Int.tmod_eq_emod_of_nonneg, Int.tdiv_eq_ediv_of_nonneg]) | (refine lex_sadd rfl rfl rfl rfl rfl (by first | omega | (simp only [ByteArray.size_append]; omega)) ?_; go_simp)))
            refine lex_eff' (sp := fun _ v _ => v = .int .i64 (numL ((bs.drop 4).take 2))) rfl rfl (by intro _ _ _ _ h; exact h) (fun m W hJ hF => ?_) (fun v x hh => ?_) rfl
            · have hr' := (hr.below hB0 (Nat.le_refl _)).below hJ (Nat.le_refl _)
              have hn : ((bs.drop 4).take 2).length = 2 := by simp only [List.length_take, List.length_drop]; omega
              refine gives_call Try.call115 ((hn ▸ num_ok _ (c - 4) ((bs.drop 4).take 2) (by omega) W (hrs _ hJ 4 2 (by omega) (by omega))).mono ?_)
              rintro e w' ⟨rfl, rfl⟩
              exact ⟨_, rfl, hJ, LeB.of (Below.refl _ _), rfl⟩
            obtain ⟨_, _, -, rfl, -⟩ := hh
            (repeat (first | (refine lex_pure rfl rfl (fun K hK => ?_); go_simp; refine hK _ ?_; clear hK K; try simp (disch := omega) only [IntWalk.i64_in, IntWalk.u8_in, Int.add_sub_cancel, Int.tmod_eq_emod_of_nonneg, Int.tdiv_eq_ediv_of_nonneg]) | (refine lex_load rfl rfl _ (fun m W hJ hF => (by have cc := hcell W hJ; go_simp; rfl)) ?_; try simp (disch := omega) only [IntWalk.i64_in, IntWalk.u8_in, Int.add_sub_cancel, Int.tmod_eq_emod_of_nonneg, Int.tdiv_eq_ediv_of_nonneg]) | (refine lex_sadd rfl rfl rfl rfl rfl (by first | omega | (simp only [ByteArray.size_append]; omega)) ?_; go_simp)))
            refine lex_eff' (sp := fun _ v _ => v = .int .i64 (numL ((bs.drop 2).take 2))) rfl rfl (by intro _ _ _ _ h; exact h) (fun m W hJ hF => ?_) (fun v x hh => ?_) rfl
            · have hr' := (hr.below hB0 (Nat.le_refl _)).below hJ (Nat.le_refl _)
              have hn : ((bs.drop 2).take 2).length = 2 := by simp only [List.length_take, List.length_drop]; omega
              refine gives_call Try.call115 ((hn ▸ num_ok _ (c - 2) ((bs.drop 2).take 2) (by omega) W (hrs _ hJ 2 2 (by omega) (by omega))).mono ?_)
              rintro e w' ⟨rfl, rfl⟩
              exact ⟨_, rfl, hJ, LeB.of (Below.refl _ _), rfl⟩
            obtain ⟨_, _, -, rfl, -⟩ := hh
            (repeat (first | (refine lex_pure rfl rfl (fun K hK => ?_); go_simp; refine hK _ ?_; clear hK K; try simp (disch := omega) only [IntWalk.i64_in, IntWalk.u8_in, Int.add_sub_cancel, Int.tmod_eq_emod_of_nonneg, Int.tdiv_eq_ediv_of_nonneg]) | (refine lex_load rfl rfl _ (fun m W hJ hF => (by have cc := hcell W hJ; go_simp; rfl)) ?_; try simp (disch := omega) only [IntWalk.i64_in, IntWalk.u8_in, Int.add_sub_cancel, Int.tmod_eq_emod_of_nonneg, Int.tdiv_eq_ediv_of_nonneg]) | (refine lex_sadd rfl rfl rfl rfl rfl (by first | omega | (simp only [ByteArray.size_append]; omega)) ?_; go_simp)))
            refine lex_nil (fun m W hJ hF => ?_)
            have hres := (hJ.block _ hlt).trans hblk
            have hB := Below.trans hB0 (Below.mono hJ hB0.size)
            clear hF hcell hJ hblk hrs hdl
            generalize (if c = 20 then some _ else _) = A20
            have Hb := Lib.hid hres
            clear hres
            go_wp2_with (refine wpList_store_row rfl _ _ 39 rfl w.heap.size 39 _ _ rfl rfl Hb.out rfl infoPk rfl ?_)
            refine bodyPost_ret (ret_cell_tmp rfl rfl (setRow_heap _ _ _ _ _ _ Hb.out) Try.underlying39 rfl infoPk) rfl ?_
            exact ⟨by rw [HF.out, HPK.out]; rfl, below_setRow hB (Nat.le_refl _) _⟩
          · have hfin : rdPk bs = (.zero, 11) := by rw [hbr2, if_neg hq]
            have HF := Lib.hid hfin
            have g1 : ((q6 : Int) != 0) = true := by simp; omega
            have g2 : ((q6 : Int) == 0) = false := by simp; omega
            clear hfin hbr2 hq6 hq hrs hdl hs
            have Hb := Lib.hid hblk
            clear hblk
            go_wp2_with (refine wpList_store_row rfl _ _ 39 rfl w.heap.size 39 _ _ rfl rfl Hb.out rfl infoPk rfl ?_)
            refine bodyPost_ret (ret_cell_tmp rfl rfl (setRow_heap _ _ _ _ _ _ Hb.out) Try.underlying39 rfl infoPk) rfl ?_
            exact ⟨by rw [HF.out]; rfl, below_setRow hB0 (Nat.le_refl _) _⟩
        · have hfin : rdPk bs = (.zero, 8) := by rw [HBR.out, if_pos ⟨trivial, hL1, hL2⟩, if_neg hs]
          have HF := Lib.hid hfin
          have hle := f16_le (ws true (bs.take 20))
          generalize f16 (ws true (bs.take 20)) = F at *
          have g1 : (((65535 - F : Nat) : Int) != 0) = true := by simp; omega
          have g2 : (((65535 - F : Nat) : Int) == 0) = false := by simp; omega
          generalize 65535 - F = F' at *
          clear hfin hrs hdl hs hle
          have Hb := Lib.hid hblk
          clear hblk
          go_wp2_with (refine wpList_store_row rfl _ _ 39 rfl w.heap.size 39 _ _ rfl rfl Hb.out rfl infoPk rfl ?_)
          refine bodyPost_ret (ret_cell_tmp rfl rfl (setRow_heap _ _ _ _ _ _ Hb.out) Try.underlying39 rfl infoPk) rfl ?_
          exact ⟨by rw [HF.out]; rfl, below_setRow hB0 (Nat.le_refl _) _⟩
      · rw [show decide ((20 : Int) ≤ N ∧ (N : Int) ≤ bs.length) = false from by simp; omega]
        have hfin : rdPk bs = (.zero, 3) := by rw [HBR.out, if_neg (by intro h; exact hL h.2)]
        have HF := Lib.hid hfin
        clear hfin hrs hdl hL
        have Hb := Lib.hid hblk
        clear hblk
        go_wp2_with (refine wpList_store_row rfl _ _ 39 rfl w.heap.size 39 _ _ rfl rfl Hb.out rfl infoPk rfl ?_)
        refine bodyPost_ret (ret_cell_tmp rfl rfl (setRow_heap _ _ _ _ _ _ Hb.out) Try.underlying39 rfl infoPk) rfl ?_
        exact ⟨by rw [HF.out]; rfl, below_setRow hB0 (Nat.le_refl _) _⟩
    · have hfin : rdPk bs = (.zero, 3) := by rw [hbr, if_neg (by intro h; exact h69 h.1)]
      have HF := Lib.hid hfin
      have g1 : ((x0 : Int) != 69) = true := by simp; omega
      have g2 : ((x0 : Int) == 69) = false := by simp; omega
      clear hfin hbr hrs hdl h69
      have Hb := Lib.hid hblk
      clear hblk
      go_wp2_with (refine wpList_store_row rfl _ _ 39 rfl w.heap.size 39 _ _ rfl rfl Hb.out rfl infoPk rfl ?_)
      refine bodyPost_ret (ret_cell_tmp rfl rfl (setRow_heap _ _ _ _ _ _ Hb.out) Try.underlying39 rfl infoPk) rfl ?_
      exact ⟨by rw [HF.out]; rfl, below_setRow hB0 (Nat.le_refl _) _⟩
  · have hfin : rdPk bs = (.zero, 3) := by rw [rdPk, if_neg (by omega)]
    have HF := Lib.hid hfin
    have hd : decide ((20 : Int) ≤ bs.length ∧ (bs.length : Int) ≤ 400) = false := by simp; omega
    have HD := Lib.hid hd
    clear hfin hlen hd
    go_enter Try.func67, Try.ntmps67
    go_wp2_with fail
    refine (within_ok _ _ _ _).mono ?_
    rintro e w1 ⟨rfl, rfl⟩
    rw [HD.out]
    generalize hw0 : World.alloc w (.cells #[.int .i64 0, .int .i64 0, .int .i64 0, .int .i64 0, .int .i64 0, .string ⟨#[]⟩] 39) = w0
    have hblk : w0.heap[World.heap w |>.size]? = some (.cells #[.int .i64 0, .int .i64 0, .int .i64 0, .int .i64 0, .int .i64 0, .string ⟨#[]⟩] 39 (0, 0)) := by rw [← hw0]; exact heap_alloc_new _ _
    have hlt : (World.heap w).size < w0.heap.size := (Array.getElem?_eq_some_iff.1 hblk).1
    have hB0 : Below (World.heap w).size w w0 := by rw [← hw0]; exact (Below.refl _ _).alloc (Nat.le_refl _) _
    clear hw0
    have Hb := Lib.hid hblk
    clear hblk
    go_wp2_with (refine wpList_store_row rfl _ _ 39 rfl w.heap.size 39 _ _ rfl rfl Hb.out rfl infoPk rfl ?_)
    refine bodyPost_ret (ret_cell_tmp rfl rfl (setRow_heap _ _ _ _ _ _ Hb.out) Try.underlying39 rfl infoPk) rfl ?_
    exact ⟨by rw [HF.out]; rfl, below_setRow hB0 (Nat.le_refl _) _⟩

theorem ReadPacket_ok (A : Option Addr) (c : Nat) (bs : List UInt8) (hl : bs.length ≤ 65536) (hc : bs.length ≤ c) (w : World) (hr : Rd w A (bs.map bV)) :
    Calls Try.prog 21 #[.slice A bs.length c] w fun e w' => e = .returned (.tuple #[(rdPk bs).1.v, .int .i64 (rdPk bs).2]) ∧ Below w.heap.size w w' := by
  have hl2 : (bs.length : Int) ≤ 65536 := by omega
  go_enter Try.func21, Try.ntmps21
  go_wp2_with fail
  generalize hw0 : World.alloc w (.cells #[.int .i64 0, .int .i64 0, .int .i64 0, .int .i64 0, .int .i64 0, .string ⟨#[]⟩] 39) = w0
  have hblk : w0.heap[World.heap w |>.size]? = some (.cells #[.int .i64 0, .int .i64 0, .int .i64 0, .int .i64 0, .int .i64 0, .string ⟨#[]⟩] 39 (0, 0)) := by rw [← hw0]; exact heap_alloc_new _ _
  have hlt : (World.heap w).size < w0.heap.size := (Array.getElem?_eq_some_iff.1 hblk).1
  have hB0 : Below (World.heap w).size w w0 := by rw [← hw0]; exact (Below.refl _ _).alloc (Nat.le_refl _) _
  clear hw0
  refine (readPacket_ok A c bs (by omega) hc w0 (hr.below hB0 (Nat.le_refl _))).mono ?_
  rintro e w1 ⟨rfl, hB1⟩
  have hb1 := (hB1.block _ hlt).trans hblk
  have hB := Below.trans hB0 (hB1.mono hB0.size)
  have Hb := Lib.hid hb1
  clear hblk hb1
  go_wp2_with (refine wpList_store_row rfl _ _ 39 rfl w.heap.size 39 _ _ rfl rfl Hb.out rfl infoPk rfl ?_)
  refine bodyPost_ret (ret_cell_tmp rfl rfl (setRow_heap _ _ _ _ _ _ Hb.out) Try.underlying39 rfl infoPk) rfl ?_
  exact ⟨rfl, below_setRow hB (Nat.le_refl _) _⟩
end Go.Proofs.Ytdenjmdngmmodaa
