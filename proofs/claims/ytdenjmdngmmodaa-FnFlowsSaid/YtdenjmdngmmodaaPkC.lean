/- Packets: the second way to their bytes, and both calls. -/
import Derived.Test.YtdenjmdngmmodaaPkB
namespace Go.Proofs.Ytdenjmdngmmodaa
open Go.RowKit
set_option linter.unusedVariables false
set_option linter.unusedSimpArgs false
set_option maxRecDepth 20000
set_option maxHeartbeats 1000000

theorem pkA_str (p t i L : Nat) (hp : p < 256) (ht : t < 256) : (⟨#[69, 0]⟩ : ByteArray) ++ bstr (beN L 2) ++ bstr (beN i 2) ++ ⟨#[0, 0]⟩ ++ bstr (beN t 1) ++ bstr (beN p 1) = bstr (pkA p t i L) := by
  have e1 : (⟨#[69, 0]⟩ : ByteArray) = bstr [69, 0] := rfl
  have e2 : (⟨#[0, 0]⟩ : ByteArray) = bstr [0, 0] := rfl
  have e3 : beN t 1 = [UInt8.ofNat t] := by show [UInt8.ofNat (t / 256 ^ 0 % 256)] = _; rw [show t / 256 ^ 0 % 256 = t by omega]
  have e4 : beN p 1 = [UInt8.ofNat p] := by show [UInt8.ofNat (p / 256 ^ 0 % 256)] = _; rw [show p / 256 ^ 0 % 256 = p by omega]
  rw [e1, e2, e3, e4]
  simp only [bstr_append, List.append_assoc, pkA]
  rfl

def l02Pkφ1 (L i t p : Nat) : Nat → Option Spec
  | 4 => some (fun _ v _ => v = .string (bstr (beN (L) 2)))
  | 8 => some (fun _ v _ => v = .string (bstr (beN (i) 2)))
  | 13 => some (fun _ v _ => v = .string (bstr (beN (t) 1)))
  | 17 => some (fun _ v _ => v = .string (bstr (beN (p) 1)))
  | _ => none

def l02Pkφ2 (s d : Nat) : Nat → Option Spec
  | 2 => some (fun _ v _ => v = .string (bstr (beN (s) 4)))
  | 5 => some (fun _ v _ => v = .string (bstr (beN (d) 4)))
  | _ => none

def l02Pkφ3 (s d p t i L : Nat) : Nat → Option Spec
  | 5 => some (fun _ v _ => v = .int .i64 (csum s d p t i L))
  | 6 => some (fun _ v _ => v = .string (bstr (beN (csum s d p t i L) 2)))
  | _ => none

theorem l02PacketBytes_ok (s d p t i : Nat) (b : ByteArray) (h : PacketOK s d p t i b) (w : World) :
    Calls Try.prog 66 #[.agg #[.int .i64 s, .int .i64 d, .int .i64 p, .int .i64 t, .int .i64 i, .string b]] w fun e w' => e = .returned (.string (bstr (packetB s d p t i b))) ∧ Below w.heap.size w w' := by
  have hb : (b.size : Int) ≤ 380 := by have := h.body; omega
  have ht : t < 256 := h.ttl
  have hp : p < 256 := h.proto
  have hsb : s < 4294967296 := h.src
  have hdb : d < 4294967296 := h.dst
  have hib : i < 65536 := h.id
  clear h
  obtain ⟨L, hL⟩ : ∃ L : Nat, L = 20 + b.size := ⟨_, rfl⟩
  have hLi : (20 : Int) + b.size = L := by omega
  have hL4 : L ≤ 400 := by omega
  have HL := Lib.hid hL
  clear hL
  have hlit : (⟨#[69, 0]⟩ : ByteArray).size = 2 := rfl
  have hlit2 : (⟨#[0, 0]⟩ : ByteArray).size = 2 := rfl
  have hzA : (bstr (pkA p t i L)).size = 10 := by rw [bstr_size, pkA_len]
  have hzR : (bstr (pkR s d)).size = 8 := by rw [bstr_size, pkR_len]
  have hcs : csum s d p t i L ≤ 65535 := Nat.sub_le _ _
  have hsum : ∀ W, Calls Try.prog 118 #[.string (bstr (pkA p t i L) ++ ⟨#[0, 0]⟩ ++ bstr (pkR s d))] W fun e w' => e = .returned (.int .i64 (csum s d p t i L)) ∧ W = w' := fun W => by
    have e2 : (⟨#[0, 0]⟩ : ByteArray) = bstr [0, 0] := rfl
    have e3 : bstr (pkA p t i L) ++ ⟨#[0, 0]⟩ ++ bstr (pkR s d) = bstr (headB s d p t i L) := by rw [e2, bstr_append, bstr_append, headB_eq, List.append_assoc]
    rw [e3]
    exact l01Sum16_ok (headB s d p t i L) (by rw [headB_len]; omega) W
  go_enter Try.func66, Try.ntmps66
  go_wp2
  generalize hw0 : World.alloc w (.cells #[.int .i64 s, .int .i64 d, .int .i64 p, .int .i64 t, .int .i64 i, .string b] 39) = w0
  have hblk : w0.heap[World.heap w |>.size]? = some (.cells #[.int .i64 s, .int .i64 d, .int .i64 p, .int .i64 t, .int .i64 i, .string b] 39 (0, 0)) := by rw [← hw0]; exact heap_alloc_new _ _
  have hlt : (World.heap w).size < w0.heap.size := (Array.getElem?_eq_some_iff.1 hblk).1
  have hB0 : Below (World.heap w).size w w0 := by rw [← hw0]; exact (Below.refl _ _).alloc (Nat.le_refl _) _
  clear hw0
  have hcell : ∀ W, Below w0.heap.size w0 W → ∀ j, W.cell? ⟨w.heap.size, j, none⟩ = #[Value.int .i64 s, .int .i64 d, .int .i64 p, .int .i64 t, .int .i64 i, .string b][j]? := fun W hW j => (hW.cell hlt).trans (blk_cell hblk j)
  refine wp_region_lex 19 (by kernel_rfl) (by kernel_rfl) (JB w0) LeB (l02Pkφ1 L i t p) ?_ JB.mono ?_ ?_
  · intro j sp x v W W' hj hL h
    unfold l02Pkφ1 at hj
    split at hj <;> first | (cases hj; first | exact h | exact BsSp.st hL h | exact ArgRow.st hL h | exact OwnSp.st hL h | exact AllocSp.st hL h) | cases hj
  · exact (Below.refl _ _).drew
  simp only [List.take_succ_cons, List.take_zero, List.drop_succ_cons, List.drop_zero, pairs, List.zipIdx_cons, List.zipIdx_nil, List.map_cons, List.map_nil, Nat.zero_add, Nat.reduceAdd]
  (repeat (first | (refine lex_pure rfl rfl (fun K hK => ?_); go_simp; refine hK _ ?_; clear hK K; try simp (disch := omega) only [IntWalk.i64_in, IntWalk.u8_in, Int.add_sub_cancel, Int.tmod_eq_emod_of_nonneg, Int.tdiv_eq_ediv_of_nonneg]) | (refine lex_load rfl rfl _ (fun m W hJ hF => (by have cc := hcell W hJ; go_simp; rfl)) ?_; try simp (disch := omega) only [IntWalk.i64_in, IntWalk.u8_in, Int.add_sub_cancel, Int.tmod_eq_emod_of_nonneg, Int.tdiv_eq_ediv_of_nonneg]) | (refine lex_sadd rfl rfl rfl rfl rfl (by first | omega | (simp only [ByteArray.size_append]; omega)) ?_; go_simp)))
  refine lex_eff' (sp := fun _ v _ => v = .string (bstr (beN (L) 2))) rfl rfl (by intro _ _ _ _ h; exact h) (fun m W hJ hF => ?_) (fun v x hh => ?_) rfl
  · refine gives_call Try.call114 ((l01Number_ok (L) 2 W (by omega) (by omega)).mono ?_)
    rintro e w' ⟨rfl, h2⟩
    exact ⟨_, rfl, hJ.step h2, LeB.of h2, rfl⟩
  obtain ⟨_, _, -, rfl, -⟩ := hh
  have hz4 : (bstr (beN (L) 2)).size = 2 := by rw [bstr_size, beN_len]
  (repeat (first | (refine lex_pure rfl rfl (fun K hK => ?_); go_simp; refine hK _ ?_; clear hK K; try simp (disch := omega) only [IntWalk.i64_in, IntWalk.u8_in, Int.add_sub_cancel, Int.tmod_eq_emod_of_nonneg, Int.tdiv_eq_ediv_of_nonneg]) | (refine lex_load rfl rfl _ (fun m W hJ hF => (by have cc := hcell W hJ; go_simp; rfl)) ?_; try simp (disch := omega) only [IntWalk.i64_in, IntWalk.u8_in, Int.add_sub_cancel, Int.tmod_eq_emod_of_nonneg, Int.tdiv_eq_ediv_of_nonneg]) | (refine lex_sadd rfl rfl rfl rfl rfl (by first | omega | (simp only [ByteArray.size_append]; omega)) ?_; go_simp)))
  refine lex_eff' (sp := fun _ v _ => v = .string (bstr (beN (i) 2))) rfl rfl (by intro _ _ _ _ h; exact h) (fun m W hJ hF => ?_) (fun v x hh => ?_) rfl
  · refine gives_call Try.call114 ((l01Number_ok (i) 2 W (by omega) (by omega)).mono ?_)
    rintro e w' ⟨rfl, h2⟩
    exact ⟨_, rfl, hJ.step h2, LeB.of h2, rfl⟩
  obtain ⟨_, _, -, rfl, -⟩ := hh
  have hz8 : (bstr (beN (i) 2)).size = 2 := by rw [bstr_size, beN_len]
  (repeat (first | (refine lex_pure rfl rfl (fun K hK => ?_); go_simp; refine hK _ ?_; clear hK K; try simp (disch := omega) only [IntWalk.i64_in, IntWalk.u8_in, Int.add_sub_cancel, Int.tmod_eq_emod_of_nonneg, Int.tdiv_eq_ediv_of_nonneg]) | (refine lex_load rfl rfl _ (fun m W hJ hF => (by have cc := hcell W hJ; go_simp; rfl)) ?_; try simp (disch := omega) only [IntWalk.i64_in, IntWalk.u8_in, Int.add_sub_cancel, Int.tmod_eq_emod_of_nonneg, Int.tdiv_eq_ediv_of_nonneg]) | (refine lex_sadd rfl rfl rfl rfl rfl (by first | omega | (simp only [ByteArray.size_append]; omega)) ?_; go_simp)))
  refine lex_eff' (sp := fun _ v _ => v = .string (bstr (beN (t) 1))) rfl rfl (by intro _ _ _ _ h; exact h) (fun m W hJ hF => ?_) (fun v x hh => ?_) rfl
  · refine gives_call Try.call114 ((l01Number_ok (t) 1 W (by omega) (by omega)).mono ?_)
    rintro e w' ⟨rfl, h2⟩
    exact ⟨_, rfl, hJ.step h2, LeB.of h2, rfl⟩
  obtain ⟨_, _, -, rfl, -⟩ := hh
  have hz13 : (bstr (beN (t) 1)).size = 1 := by rw [bstr_size, beN_len]
  (repeat (first | (refine lex_pure rfl rfl (fun K hK => ?_); go_simp; refine hK _ ?_; clear hK K; try simp (disch := omega) only [IntWalk.i64_in, IntWalk.u8_in, Int.add_sub_cancel, Int.tmod_eq_emod_of_nonneg, Int.tdiv_eq_ediv_of_nonneg]) | (refine lex_load rfl rfl _ (fun m W hJ hF => (by have cc := hcell W hJ; go_simp; rfl)) ?_; try simp (disch := omega) only [IntWalk.i64_in, IntWalk.u8_in, Int.add_sub_cancel, Int.tmod_eq_emod_of_nonneg, Int.tdiv_eq_ediv_of_nonneg]) | (refine lex_sadd rfl rfl rfl rfl rfl (by first | omega | (simp only [ByteArray.size_append]; omega)) ?_; go_simp)))
  refine lex_eff' (sp := fun _ v _ => v = .string (bstr (beN (p) 1))) rfl rfl (by intro _ _ _ _ h; exact h) (fun m W hJ hF => ?_) (fun v x hh => ?_) rfl
  · refine gives_call Try.call114 ((l01Number_ok (p) 1 W (by omega) (by omega)).mono ?_)
    rintro e w' ⟨rfl, h2⟩
    exact ⟨_, rfl, hJ.step h2, LeB.of h2, rfl⟩
  obtain ⟨_, _, -, rfl, -⟩ := hh
  have hz17 : (bstr (beN (p) 1)).size = 1 := by rw [bstr_size, beN_len]
  (repeat (first | (refine lex_pure rfl rfl (fun K hK => ?_); go_simp; refine hK _ ?_; clear hK K; try simp (disch := omega) only [IntWalk.i64_in, IntWalk.u8_in, Int.add_sub_cancel, Int.tmod_eq_emod_of_nonneg, Int.tdiv_eq_ediv_of_nonneg]) | (refine lex_load rfl rfl _ (fun m W hJ hF => (by have cc := hcell W hJ; go_simp; rfl)) ?_; try simp (disch := omega) only [IntWalk.i64_in, IntWalk.u8_in, Int.add_sub_cancel, Int.tmod_eq_emod_of_nonneg, Int.tdiv_eq_ediv_of_nonneg]) | (refine lex_sadd rfl rfl rfl rfl rfl (by first | omega | (simp only [ByteArray.size_append]; omega)) ?_; go_simp)))
  refine lex_nil (fun m W1 hJ hF => ?_)
  have hblk' := (hJ.block _ hlt).trans hblk
  have hlt' := Nat.lt_of_lt_of_le hlt hJ.size
  have hB' : Below w.heap.size w W1 := Below.trans hB0 (Below.mono hJ hB0.size)
  clear hF hJ hcell hblk hlt hB0
  have hblk := hblk'
  have hlt := hlt'
  have hB0 := hB'
  clear hblk' hlt' hB'
  have hcell : ∀ W, Below W1.heap.size W1 W → ∀ j, W.cell? ⟨w.heap.size, j, none⟩ = #[Value.int .i64 s, .int .i64 d, .int .i64 p, .int .i64 t, .int .i64 i, .string b][j]? := fun W hW j => (hW.cell hlt).trans (blk_cell hblk j)
  go_wp2_with fail
  rw [pkA_str p t i L hp ht]
  refine wp_region_lex 7 (by kernel_rfl) (by kernel_rfl) (JB W1) LeB (l02Pkφ2 s d) ?_ JB.mono ?_ ?_
  · intro j sp x v W W' hj hL h
    unfold l02Pkφ2 at hj
    split at hj <;> first | (cases hj; first | exact h | exact BsSp.st hL h | exact ArgRow.st hL h | exact OwnSp.st hL h | exact AllocSp.st hL h) | cases hj
  · exact (Below.refl _ _).drew
  simp only [List.take_succ_cons, List.take_zero, List.drop_succ_cons, List.drop_zero, pairs, List.zipIdx_cons, List.zipIdx_nil, List.map_cons, List.map_nil, Nat.zero_add, Nat.reduceAdd]
  (repeat (first | (refine lex_pure rfl rfl (fun K hK => ?_); go_simp; refine hK _ ?_; clear hK K; try simp (disch := omega) only [IntWalk.i64_in, IntWalk.u8_in, Int.add_sub_cancel, Int.tmod_eq_emod_of_nonneg, Int.tdiv_eq_ediv_of_nonneg]) | (refine lex_load rfl rfl _ (fun m W hJ hF => (by have cc := hcell W hJ; go_simp; rfl)) ?_; try simp (disch := omega) only [IntWalk.i64_in, IntWalk.u8_in, Int.add_sub_cancel, Int.tmod_eq_emod_of_nonneg, Int.tdiv_eq_ediv_of_nonneg]) | (refine lex_sadd rfl rfl rfl rfl rfl (by first | omega | (simp only [ByteArray.size_append]; omega)) ?_; go_simp)))
  refine lex_eff' (sp := fun _ v _ => v = .string (bstr (beN (s) 4))) rfl rfl (by intro _ _ _ _ h; exact h) (fun m W hJ hF => ?_) (fun v x hh => ?_) rfl
  · refine gives_call Try.call114 ((l01Number_ok (s) 4 W (by omega) (by omega)).mono ?_)
    rintro e w' ⟨rfl, h2⟩
    exact ⟨_, rfl, hJ.step h2, LeB.of h2, rfl⟩
  obtain ⟨_, _, -, rfl, -⟩ := hh
  have hz2 : (bstr (beN (s) 4)).size = 4 := by rw [bstr_size, beN_len]
  (repeat (first | (refine lex_pure rfl rfl (fun K hK => ?_); go_simp; refine hK _ ?_; clear hK K; try simp (disch := omega) only [IntWalk.i64_in, IntWalk.u8_in, Int.add_sub_cancel, Int.tmod_eq_emod_of_nonneg, Int.tdiv_eq_ediv_of_nonneg]) | (refine lex_load rfl rfl _ (fun m W hJ hF => (by have cc := hcell W hJ; go_simp; rfl)) ?_; try simp (disch := omega) only [IntWalk.i64_in, IntWalk.u8_in, Int.add_sub_cancel, Int.tmod_eq_emod_of_nonneg, Int.tdiv_eq_ediv_of_nonneg]) | (refine lex_sadd rfl rfl rfl rfl rfl (by first | omega | (simp only [ByteArray.size_append]; omega)) ?_; go_simp)))
  refine lex_eff' (sp := fun _ v _ => v = .string (bstr (beN (d) 4))) rfl rfl (by intro _ _ _ _ h; exact h) (fun m W hJ hF => ?_) (fun v x hh => ?_) rfl
  · refine gives_call Try.call114 ((l01Number_ok (d) 4 W (by omega) (by omega)).mono ?_)
    rintro e w' ⟨rfl, h2⟩
    exact ⟨_, rfl, hJ.step h2, LeB.of h2, rfl⟩
  obtain ⟨_, _, -, rfl, -⟩ := hh
  have hz5 : (bstr (beN (d) 4)).size = 4 := by rw [bstr_size, beN_len]
  (repeat (first | (refine lex_pure rfl rfl (fun K hK => ?_); go_simp; refine hK _ ?_; clear hK K; try simp (disch := omega) only [IntWalk.i64_in, IntWalk.u8_in, Int.add_sub_cancel, Int.tmod_eq_emod_of_nonneg, Int.tdiv_eq_ediv_of_nonneg]) | (refine lex_load rfl rfl _ (fun m W hJ hF => (by have cc := hcell W hJ; go_simp; rfl)) ?_; try simp (disch := omega) only [IntWalk.i64_in, IntWalk.u8_in, Int.add_sub_cancel, Int.tmod_eq_emod_of_nonneg, Int.tdiv_eq_ediv_of_nonneg]) | (refine lex_sadd rfl rfl rfl rfl rfl (by first | omega | (simp only [ByteArray.size_append]; omega)) ?_; go_simp)))
  refine lex_nil (fun m W2 hJ hF => ?_)
  have hblk' := (hJ.block _ hlt).trans hblk
  have hlt' := Nat.lt_of_lt_of_le hlt hJ.size
  have hB' : Below w.heap.size w W2 := Below.trans hB0 (Below.mono hJ hB0.size)
  clear hF hJ hcell hblk hlt hB0
  have hblk := hblk'
  have hlt := hlt'
  have hB0 := hB'
  clear hblk' hlt' hB'
  have hcell : ∀ W, Below W2.heap.size W2 W → ∀ j, W.cell? ⟨w.heap.size, j, none⟩ = #[Value.int .i64 s, .int .i64 d, .int .i64 p, .int .i64 t, .int .i64 i, .string b][j]? := fun W hW j => (hW.cell hlt).trans (blk_cell hblk j)
  go_wp2_with fail
  rw [show bstr (beN s 4) ++ bstr (beN d 4) = bstr (pkR s d) from by rw [bstr_append]; rfl]
  refine wp_region_lex 13 (by kernel_rfl) (by kernel_rfl) (JB W2) LeB (l02Pkφ3 s d p t i L) ?_ JB.mono ?_ ?_
  · intro j sp x v W W' hj hL h
    unfold l02Pkφ3 at hj
    split at hj <;> first | (cases hj; first | exact h | exact BsSp.st hL h | exact ArgRow.st hL h | exact OwnSp.st hL h | exact AllocSp.st hL h) | cases hj
  · exact (Below.refl _ _).drew
  simp only [List.take_succ_cons, List.take_zero, List.drop_succ_cons, List.drop_zero, pairs, List.zipIdx_cons, List.zipIdx_nil, List.map_cons, List.map_nil, Nat.zero_add, Nat.reduceAdd]
  (repeat (first | (refine lex_pure rfl rfl (fun K hK => ?_); go_simp; refine hK _ ?_; clear hK K; try simp (disch := omega) only [IntWalk.i64_in, IntWalk.u8_in, Int.add_sub_cancel, Int.tmod_eq_emod_of_nonneg, Int.tdiv_eq_ediv_of_nonneg]) | (refine lex_load rfl rfl _ (fun m W hJ hF => (by have cc := hcell W hJ; go_simp; rfl)) ?_; try simp (disch := omega) only [IntWalk.i64_in, IntWalk.u8_in, Int.add_sub_cancel, Int.tmod_eq_emod_of_nonneg, Int.tdiv_eq_ediv_of_nonneg]) | (refine lex_sadd rfl rfl rfl rfl rfl (by first | omega | (simp only [ByteArray.size_append]; omega)) ?_; go_simp)))
  refine lex_eff' (sp := fun _ v _ => v = .int .i64 (csum s d p t i L)) rfl rfl (by intro _ _ _ _ h; exact h) (fun m W hJ hF => ?_) (fun v x hh => ?_) rfl
  · refine gives_call Try.call118 ((hsum W).mono ?_)
    rintro e w' ⟨rfl, rfl⟩
    exact ⟨_, rfl, hJ, LeB.of (Below.refl _ _), rfl⟩
  obtain ⟨_, _, -, rfl, -⟩ := hh
  (repeat (first | (refine lex_pure rfl rfl (fun K hK => ?_); go_simp; refine hK _ ?_; clear hK K; try simp (disch := omega) only [IntWalk.i64_in, IntWalk.u8_in, Int.add_sub_cancel, Int.tmod_eq_emod_of_nonneg, Int.tdiv_eq_ediv_of_nonneg]) | (refine lex_load rfl rfl _ (fun m W hJ hF => (by have cc := hcell W hJ; go_simp; rfl)) ?_; try simp (disch := omega) only [IntWalk.i64_in, IntWalk.u8_in, Int.add_sub_cancel, Int.tmod_eq_emod_of_nonneg, Int.tdiv_eq_ediv_of_nonneg]) | (refine lex_sadd rfl rfl rfl rfl rfl (by first | omega | (simp only [ByteArray.size_append]; omega)) ?_; go_simp)))
  refine lex_eff' (sp := fun _ v _ => v = .string (bstr (beN (csum s d p t i L) 2))) rfl rfl (by intro _ _ _ _ h; exact h) (fun m W hJ hF => ?_) (fun v x hh => ?_) rfl
  · refine gives_call Try.call114 ((l01Number_ok (csum s d p t i L) 2 W (by omega) (by omega)).mono ?_)
    rintro e w' ⟨rfl, h2⟩
    exact ⟨_, rfl, hJ.step h2, LeB.of h2, rfl⟩
  obtain ⟨_, _, -, rfl, -⟩ := hh
  have hz6 : (bstr (beN (csum s d p t i L) 2)).size = 2 := by rw [bstr_size, beN_len]
  (repeat (first | (refine lex_pure rfl rfl (fun K hK => ?_); go_simp; refine hK _ ?_; clear hK K; try simp (disch := omega) only [IntWalk.i64_in, IntWalk.u8_in, Int.add_sub_cancel, Int.tmod_eq_emod_of_nonneg, Int.tdiv_eq_ediv_of_nonneg]) | (refine lex_load rfl rfl _ (fun m W hJ hF => (by have cc := hcell W hJ; go_simp; rfl)) ?_; try simp (disch := omega) only [IntWalk.i64_in, IntWalk.u8_in, Int.add_sub_cancel, Int.tmod_eq_emod_of_nonneg, Int.tdiv_eq_ediv_of_nonneg]) | (refine lex_sadd rfl rfl rfl rfl rfl (by first | omega | (simp only [ByteArray.size_append]; omega)) ?_; go_simp)))
  refine lex_nil (fun m W3 hJ hF => ?_)
  have hblk' := (hJ.block _ hlt).trans hblk
  have hlt' := Nat.lt_of_lt_of_le hlt hJ.size
  have hB' : Below w.heap.size w W3 := Below.trans hB0 (Below.mono hJ hB0.size)
  clear hF hJ hcell hblk hlt hB0
  have hblk := hblk'
  have hlt := hlt'
  have hB0 := hB'
  clear hblk' hlt' hB'
  have hcell : ∀ W, Below W3.heap.size W3 W → ∀ j, W.cell? ⟨w.heap.size, j, none⟩ = #[Value.int .i64 s, .int .i64 d, .int .i64 p, .int .i64 t, .int .i64 i, .string b][j]? := fun W hW j => (hW.cell hlt).trans (blk_cell hblk j)
  have hfin : bstr (pkA p t i L) ++ bstr (beN (csum s d p t i L) 2) ++ bstr (pkR s d) ++ b = bstr (packetB s d p t i b) := by
    conv => lhs; rw [← bstr_sb b]
    rw [bstr_append, bstr_append, bstr_append, packetB, ← HL.out, pkH]
    simp only [List.append_assoc]
  have HF := Lib.hid hfin
  clear hfin hcell hblk
  go_wp2
  rw [HF.out]
  go_ret
  exact ⟨rfl, hB0⟩

theorem iPacketBytes_ok (s d p t i : Nat) (b : ByteArray) (h : PacketOK s d p t i b) (w : World) :
    Calls Try.prog 19 #[.agg #[.int .i64 s, .int .i64 d, .int .i64 p, .int .i64 t, .int .i64 i, .string b]] w fun e w' => ∃ v, e = .returned (.tuple #[v, .int .i64 0]) ∧ w'.ownsRow w.heap.size 5 1 v (packetB s d p t i b).length ((packetB s d p t i b).map bV) ∧ Below w.heap.size w w' := by
  have HK := Lib.hid h
  clear h
  go_enter Try.func19, Try.ntmps19
  go_wp2_with fail
  generalize hw0 : World.alloc w (.cells #[.int .i64 s, .int .i64 d, .int .i64 p, .int .i64 t, .int .i64 i, .string b] 39) = w0
  have hblk : w0.heap[World.heap w |>.size]? = some (.cells #[.int .i64 s, .int .i64 d, .int .i64 p, .int .i64 t, .int .i64 i, .string b] 39 (0, 0)) := by rw [← hw0]; exact heap_alloc_new _ _
  have hlt : (World.heap w).size < w0.heap.size := (Array.getElem?_eq_some_iff.1 hblk).1
  have hB0 : Below (World.heap w).size w w0 := by rw [← hw0]; exact (Below.refl _ _).alloc (Nat.le_refl _) _
  clear hw0
  refine (packetOK_true s d p t i b HK.out _).mono ?_
  rintro e w1 ⟨rfl, hB1⟩
  have hblk1 := (hB1.block _ hlt).trans hblk
  have hB := Below.trans hB0 (hB1.mono hB0.size)
  have c0 := blk_cell hblk1 0
  have c1 := blk_cell hblk1 1
  have c2 := blk_cell hblk1 2
  have c3 := blk_cell hblk1 3
  have c4 := blk_cell hblk1 4
  have c5 := blk_cell hblk1 5
  clear hblk hblk1
  simp at c0 c1 c2 c3 c4 c5
  go_wp2_with fail
  refine (packetBytes_ok s d p t i b HK.out _).mono ?_
  rintro e w2 ⟨v, rfl, hown, hB2⟩
  have hB' := Below.trans hB (hB2.mono hB.size)
  have hown1 := own_base hown (B' := w.heap.size) hB.size
  have HO := Lib.hid hown1
  clear hown hown1 hB2 c0 c1 c2 c3 c4 c5
  go_wp2
  go_ret2
  exact ⟨_, rfl, HO.out, hB'⟩

theorem sPacketBytes_ok (s d p t i : Nat) (b : ByteArray) (h : PacketOK s d p t i b) (w : World) :
    Calls Try.prog 20 #[.agg #[.int .i64 s, .int .i64 d, .int .i64 p, .int .i64 t, .int .i64 i, .string b]] w fun e w' => ∃ v, e = .returned (.tuple #[v, .int .i64 0]) ∧ BsSp (packetB s d p t i b) #[] v w' ∧ Below w.heap.size w w' := by
  have HK := Lib.hid h
  clear h
  go_enter Try.func20, Try.ntmps20
  go_wp2_with fail
  generalize hw0 : World.alloc w (.cells #[.int .i64 s, .int .i64 d, .int .i64 p, .int .i64 t, .int .i64 i, .string b] 39) = w0
  have hblk : w0.heap[World.heap w |>.size]? = some (.cells #[.int .i64 s, .int .i64 d, .int .i64 p, .int .i64 t, .int .i64 i, .string b] 39 (0, 0)) := by rw [← hw0]; exact heap_alloc_new _ _
  have hlt : (World.heap w).size < w0.heap.size := (Array.getElem?_eq_some_iff.1 hblk).1
  have hB0 : Below (World.heap w).size w w0 := by rw [← hw0]; exact (Below.refl _ _).alloc (Nat.le_refl _) _
  clear hw0
  refine (l02Packet_true s d p t i b HK.out _).mono ?_
  rintro e w1 ⟨rfl, hB1⟩
  have hblk1 := (hB1.block _ hlt).trans hblk
  have hB := Below.trans hB0 (hB1.mono hB0.size)
  have c0 := blk_cell hblk1 0
  have c1 := blk_cell hblk1 1
  have c2 := blk_cell hblk1 2
  have c3 := blk_cell hblk1 3
  have c4 := blk_cell hblk1 4
  have c5 := blk_cell hblk1 5
  clear hblk hblk1
  simp at c0 c1 c2 c3 c4 c5
  go_wp2_with fail
  refine (l02PacketBytes_ok s d p t i b HK.out _).mono ?_
  rintro e w2 ⟨rfl, hB2⟩
  have hB' := Below.trans hB (hB2.mono hB.size)
  obtain ⟨v, w3, h1, h2, h3⟩ := conv_sb w2 (bstr (packetB s d p t i b))
  have hB'' := Below.trans hB' (h3.mono hB'.size)
  have H2 := Lib.hid h2
  clear h2 c0 c1 c2 c3 c4 c5
  go_wp2
  go_ret2
  exact ⟨_, rfl, by have := H2.out; rwa [sb_bstr] at this, hB''⟩
end Go.Proofs.Ytdenjmdngmmodaa
