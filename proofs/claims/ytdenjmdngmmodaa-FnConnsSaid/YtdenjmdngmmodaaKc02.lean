/- Questions for macs: the two ways to their bytes. | Questions for macs: drawn, written, read. | Questions for macs: the calls, and the reading. | The law of frames: its parts. | The law of frames. -/
import Derived.Test.YtdenjmdngmmodaaKc01
namespace Go.Proofs.Ytdenjmdngmmodaa
open Go.RowKit
set_option linter.unusedVariables false
set_option linter.unusedSimpArgs false
set_option maxRecDepth 20000
set_option maxHeartbeats 1000000

def arpB (op : Nat) (sm dm : ByteArray) (si di : Nat) : List UInt8 := [0, 1, 8, 0, 6, 4, 0] ++ (beN op 1 ++ (sb sm ++ (beN si 4 ++ (sb dm ++ beN di 4))))
def arpBytesφ (base base2 : Nat) (op : Nat) (sm dm : ByteArray) (si di : Nat) : Nat → Option Spec
  | 0 => some (ConstRow base #[Value.int .u8 0, Value.int .u8 1, Value.int .u8 8, Value.int .u8 0, Value.int .u8 6, Value.int .u8 4, Value.int .u8 0])
  | 1 => some (MarkSp)
  | 4 => some (BsSp (beN (op) 1))
  | 7 => some (BsSp (sb (sm)))
  | 10 => some (BsSp (beN (si) 4))
  | 13 => some (BsSp (sb (dm)))
  | 16 => some (BsSp (beN (di) 4))
  | 17 => some (ArgRow 22)
  | 18 => some (OwnSp base2 (arpB op sm dm si di))
  | _ => none

theorem arpBytes_ok (op : Nat) (sm dm : ByteArray) (si di : Nat) (hop : op < 256) (hs : si < 4294967296) (hd : di < 4294967296) (hl : sm.size + dm.size ≤ 1000000) (w : World) :
    Calls Try.prog 58 #[.agg #[.int .i64 op, .string sm, .string dm, .int .i64 si, .int .i64 di]] w fun e w' => ∃ v, e = .returned v ∧ w'.ownsRow w.heap.size 5 1 v (arpB op sm dm si di).length ((arpB op sm dm si di).map bV) ∧ Below w.heap.size w w' := by
  go_enter Try.func58, Try.ntmps58
  go_wp2
  generalize hw0 : World.alloc w (.cells #[.int .i64 op, .string sm, .string dm, .int .i64 si, .int .i64 di] 31) = w0
  have hblk : w0.heap[World.heap w |>.size]? = some (.cells #[.int .i64 op, .string sm, .string dm, .int .i64 si, .int .i64 di] 31 (0, 0)) := by rw [← hw0]; exact heap_alloc_new _ _
  have hlt : (World.heap w).size < w0.heap.size := (Array.getElem?_eq_some_iff.1 hblk).1
  have hB0 : Below (World.heap w).size w w0 := by rw [← hw0]; exact (Below.refl _ _).alloc (Nat.le_refl _) _
  clear hw0
  have hcell : ∀ W, Below w0.heap.size w0 W → ∀ j, W.cell? ⟨w.heap.size, j, none⟩ = #[Value.int .i64 op, .string sm, .string dm, .int .i64 si, .int .i64 di][j]? := fun W hW j => (hW.cell hlt).trans (blk_cell hblk j)
  clear hblk
  refine wp_region_lex 20 (by kernel_rfl) (by kernel_rfl) (JB w0) (LeK #[Value.int .u8 0, Value.int .u8 1, Value.int .u8 8, Value.int .u8 0, Value.int .u8 6, Value.int .u8 4, Value.int .u8 0]) (arpBytesφ w0.heap.size w.heap.size op sm dm si di) ?_ JB.mono ?_ ?_
  · intro j sp x v W W' hj hL h
    unfold arpBytesφ at hj
    split at hj <;> first | (cases hj; first | exact h | exact BsSp.stK hL h | exact ArgRow.stK hL h | exact ConstRow.stK hL h | exact OwnSp.stK hL h (by simp [arpB, beN_len]; omega)) | cases hj
  · exact (Below.refl _ _).drew
  simp only [List.take_succ_cons, List.take_zero, List.drop_succ_cons, List.drop_zero, pairs, List.zipIdx_cons, List.zipIdx_nil, List.map_cons, List.map_nil, Nat.zero_add, Nat.reduceAdd]
  (repeat (first | (refine lex_pure rfl rfl (fun K hK => ?_); go_simp; refine hK _ ?_; clear hK K; try simp (disch := omega) only [IntWalk.i64_in, IntWalk.u8_in, Int.add_sub_cancel, Int.tmod_eq_emod_of_nonneg, Int.tdiv_eq_ediv_of_nonneg]) | (refine lex_load rfl rfl _ (fun m W hJ hF => (by have cc := hcell W hJ; go_simp; rfl)) ?_; try simp (disch := omega) only [IntWalk.i64_in, IntWalk.u8_in, Int.add_sub_cancel, Int.tmod_eq_emod_of_nonneg, Int.tdiv_eq_ediv_of_nonneg]) | (refine lex_sadd rfl rfl rfl rfl rfl (by first | omega | (simp only [ByteArray.size_append]; omega)) ?_; go_simp)))
  refine lexK_const rfl rfl rfl (fun W => by go_simp) (fun b0 x => ?_)
  (repeat (first | (refine lex_pure rfl rfl (fun K hK => ?_); go_simp; refine hK _ ?_; clear hK K; try simp (disch := omega) only [IntWalk.i64_in, IntWalk.u8_in, Int.add_sub_cancel, Int.tmod_eq_emod_of_nonneg, Int.tdiv_eq_ediv_of_nonneg]) | (refine lex_load rfl rfl _ (fun m W hJ hF => (by have cc := hcell W hJ; go_simp; rfl)) ?_; try simp (disch := omega) only [IntWalk.i64_in, IntWalk.u8_in, Int.add_sub_cancel, Int.tmod_eq_emod_of_nonneg, Int.tdiv_eq_ediv_of_nonneg]) | (refine lex_sadd rfl rfl rfl rfl rfl (by first | omega | (simp only [ByteArray.size_append]; omega)) ?_; go_simp)))
  refine lexK_mark (j := 0) rfl rfl rfl rfl (by kernel_rfl) rfl rfl ?_
  (repeat (first | (refine lex_pure rfl rfl (fun K hK => ?_); go_simp; refine hK _ ?_; clear hK K; try simp (disch := omega) only [IntWalk.i64_in, IntWalk.u8_in, Int.add_sub_cancel, Int.tmod_eq_emod_of_nonneg, Int.tdiv_eq_ediv_of_nonneg]) | (refine lex_load rfl rfl _ (fun m W hJ hF => (by have cc := hcell W hJ; go_simp; rfl)) ?_; try simp (disch := omega) only [IntWalk.i64_in, IntWalk.u8_in, Int.add_sub_cancel, Int.tmod_eq_emod_of_nonneg, Int.tdiv_eq_ediv_of_nonneg]) | (refine lex_sadd rfl rfl rfl rfl rfl (by first | omega | (simp only [ByteArray.size_append]; omega)) ?_; go_simp)))
  refine lex_eff' (sp := BsSp (beN (op) 1)) rfl rfl (by intro _ _ _ _ h; exact h) (fun m W hJ hF => ?_) (fun v x hh => ?_) rfl
  · refine gives_call Try.call112 ((be_ok (op) 1 W (by omega) (by omega)).mono ?_)
    rintro e w' ⟨rfl, h1, h2⟩
    exact ⟨_, rfl, hJ.step h2, LeK.of h2, _, _, by rw [beN_len], by rw [beN_len]; exact Nat.le_refl _, by simpa using Rd.block h1 0⟩
  obtain ⟨_, _, -, ⟨A4, c4, rfl, hc4, -⟩, -⟩ := hh
  (repeat (first | (refine lex_pure rfl rfl (fun K hK => ?_); go_simp; refine hK _ ?_; clear hK K; try simp (disch := omega) only [IntWalk.i64_in, IntWalk.u8_in, Int.add_sub_cancel, Int.tmod_eq_emod_of_nonneg, Int.tdiv_eq_ediv_of_nonneg]) | (refine lex_load rfl rfl _ (fun m W hJ hF => (by have cc := hcell W hJ; go_simp; rfl)) ?_; try simp (disch := omega) only [IntWalk.i64_in, IntWalk.u8_in, Int.add_sub_cancel, Int.tmod_eq_emod_of_nonneg, Int.tdiv_eq_ediv_of_nonneg]) | (refine lex_sadd rfl rfl rfl rfl rfl (by first | omega | (simp only [ByteArray.size_append]; omega)) ?_; go_simp)))
  refine lexB_conv rfl rfl rfl rfl rfl LeK.of (fun A7 c7 hc7 => ?_)
  (repeat (first | (refine lex_pure rfl rfl (fun K hK => ?_); go_simp; refine hK _ ?_; clear hK K; try simp (disch := omega) only [IntWalk.i64_in, IntWalk.u8_in, Int.add_sub_cancel, Int.tmod_eq_emod_of_nonneg, Int.tdiv_eq_ediv_of_nonneg]) | (refine lex_load rfl rfl _ (fun m W hJ hF => (by have cc := hcell W hJ; go_simp; rfl)) ?_; try simp (disch := omega) only [IntWalk.i64_in, IntWalk.u8_in, Int.add_sub_cancel, Int.tmod_eq_emod_of_nonneg, Int.tdiv_eq_ediv_of_nonneg]) | (refine lex_sadd rfl rfl rfl rfl rfl (by first | omega | (simp only [ByteArray.size_append]; omega)) ?_; go_simp)))
  refine lex_eff' (sp := BsSp (beN (si) 4)) rfl rfl (by intro _ _ _ _ h; exact h) (fun m W hJ hF => ?_) (fun v x hh => ?_) rfl
  · refine gives_call Try.call112 ((be_ok (si) 4 W (by omega) (by omega)).mono ?_)
    rintro e w' ⟨rfl, h1, h2⟩
    exact ⟨_, rfl, hJ.step h2, LeK.of h2, _, _, by rw [beN_len], by rw [beN_len]; exact Nat.le_refl _, by simpa using Rd.block h1 0⟩
  obtain ⟨_, _, -, ⟨A10, c10, rfl, hc10, -⟩, -⟩ := hh
  (repeat (first | (refine lex_pure rfl rfl (fun K hK => ?_); go_simp; refine hK _ ?_; clear hK K; try simp (disch := omega) only [IntWalk.i64_in, IntWalk.u8_in, Int.add_sub_cancel, Int.tmod_eq_emod_of_nonneg, Int.tdiv_eq_ediv_of_nonneg]) | (refine lex_load rfl rfl _ (fun m W hJ hF => (by have cc := hcell W hJ; go_simp; rfl)) ?_; try simp (disch := omega) only [IntWalk.i64_in, IntWalk.u8_in, Int.add_sub_cancel, Int.tmod_eq_emod_of_nonneg, Int.tdiv_eq_ediv_of_nonneg]) | (refine lex_sadd rfl rfl rfl rfl rfl (by first | omega | (simp only [ByteArray.size_append]; omega)) ?_; go_simp)))
  refine lexB_conv rfl rfl rfl rfl rfl LeK.of (fun A13 c13 hc13 => ?_)
  (repeat (first | (refine lex_pure rfl rfl (fun K hK => ?_); go_simp; refine hK _ ?_; clear hK K; try simp (disch := omega) only [IntWalk.i64_in, IntWalk.u8_in, Int.add_sub_cancel, Int.tmod_eq_emod_of_nonneg, Int.tdiv_eq_ediv_of_nonneg]) | (refine lex_load rfl rfl _ (fun m W hJ hF => (by have cc := hcell W hJ; go_simp; rfl)) ?_; try simp (disch := omega) only [IntWalk.i64_in, IntWalk.u8_in, Int.add_sub_cancel, Int.tmod_eq_emod_of_nonneg, Int.tdiv_eq_ediv_of_nonneg]) | (refine lex_sadd rfl rfl rfl rfl rfl (by first | omega | (simp only [ByteArray.size_append]; omega)) ?_; go_simp)))
  refine lex_eff' (sp := BsSp (beN (di) 4)) rfl rfl (by intro _ _ _ _ h; exact h) (fun m W hJ hF => ?_) (fun v x hh => ?_) rfl
  · refine gives_call Try.call112 ((be_ok (di) 4 W (by omega) (by omega)).mono ?_)
    rintro e w' ⟨rfl, h1, h2⟩
    exact ⟨_, rfl, hJ.step h2, LeK.of h2, _, _, by rw [beN_len], by rw [beN_len]; exact Nat.le_refl _, by simpa using Rd.block h1 0⟩
  obtain ⟨_, _, -, ⟨A16, c16, rfl, hc16, -⟩, -⟩ := hh
  (repeat (first | (refine lex_pure rfl rfl (fun K hK => ?_); go_simp; refine hK _ ?_; clear hK K; try simp (disch := omega) only [IntWalk.i64_in, IntWalk.u8_in, Int.add_sub_cancel, Int.tmod_eq_emod_of_nonneg, Int.tdiv_eq_ediv_of_nonneg]) | (refine lex_load rfl rfl _ (fun m W hJ hF => (by have cc := hcell W hJ; go_simp; rfl)) ?_; try simp (disch := omega) only [IntWalk.i64_in, IntWalk.u8_in, Int.add_sub_cancel, Int.tmod_eq_emod_of_nonneg, Int.tdiv_eq_ediv_of_nonneg]) | (refine lex_sadd rfl rfl rfl rfl rfl (by first | omega | (simp only [ByteArray.size_append]; omega)) ?_; go_simp)))
  refine lexB_row #[.slice (some ⟨b0, 0, none⟩) 7 7, .slice A4 (beN op 1).length c4, .slice A7 (sb sm).length c7, .slice A10 (beN si 4).length c10, .slice A13 (sb dm).length c13, .slice A16 (beN di 4).length c16] rfl rfl (by simp [argsOf, Op.operands, Act.put, Act.eval]) LeK.of (fun W => by go_simp) (fun b17 => ?_)
  (repeat (first | (refine lex_pure rfl rfl (fun K hK => ?_); go_simp; refine hK _ ?_; clear hK K; try simp (disch := omega) only [IntWalk.i64_in, IntWalk.u8_in, Int.add_sub_cancel, Int.tmod_eq_emod_of_nonneg, Int.tdiv_eq_ediv_of_nonneg]) | (refine lex_load rfl rfl _ (fun m W hJ hF => (by have cc := hcell W hJ; go_simp; rfl)) ?_; try simp (disch := omega) only [IntWalk.i64_in, IntWalk.u8_in, Int.add_sub_cancel, Int.tmod_eq_emod_of_nonneg, Int.tdiv_eq_ediv_of_nonneg]) | (refine lex_sadd rfl rfl rfl rfl rfl (by first | omega | (simp only [ByteArray.size_append]; omega)) ?_; go_simp)))
  refine lex_eff' (sp := OwnSp w.heap.size (arpB op sm dm si di)) rfl rfl (by intro _ _ _ _ h; exact h) (fun m W hJ hF => ?_) (fun v x hh => ?_) rfl
  · have rr := ArgRow.rd (hF 17 (by kernel_rfl) _ _ _ rfl rfl)
    have r0 : Rd W (some ⟨b0, 0, none⟩) (List.map bV ([0, 1, 8, 0, 6, 4, 0])) := ConstRow.rd (hF 0 (by kernel_rfl) _ _ _ rfl rfl)
    have r4 := BsSp.rd (hF 4 (by kernel_rfl) _ _ _ rfl rfl)
    have r7 := BsSp.rd (hF 7 (by kernel_rfl) _ _ _ rfl rfl)
    have r10 := BsSp.rd (hF 10 (by kernel_rfl) _ _ _ rfl rfl)
    have r13 := BsSp.rd (hF 13 (by kernel_rfl) _ _ _ rfl rfl)
    have r16 := BsSp.rd (hF 16 (by kernel_rfl) _ _ _ rfl rfl)
    have hpc : pcs [⟨some ⟨b0, 0, none⟩, 7, [0, 1, 8, 0, 6, 4, 0]⟩, ⟨A4, c4, beN op 1⟩, ⟨A7, c7, sb sm⟩, ⟨A10, c10, beN si 4⟩, ⟨A13, c13, sb dm⟩, ⟨A16, c16, beN di 4⟩] = arpB op sm dm si di := by simp [pcs, arpB]
    refine gives_call Try.call111 ((concat_ok _ 6 [⟨some ⟨b0, 0, none⟩, 7, [0, 1, 8, 0, 6, 4, 0]⟩, ⟨A4, c4, beN op 1⟩, ⟨A7, c7, sb sm⟩, ⟨A10, c10, beN si 4⟩, ⟨A13, c13, sb dm⟩, ⟨A16, c16, beN di 4⟩] W rr (by intro p hp; simp only [List.mem_cons, List.not_mem_nil, or_false] at hp; rcases hp with rfl | rfl | rfl | rfl | rfl | rfl <;> assumption) (by simp) (by simp [pcs, sb_len, beN_len, sb_append]; omega)).mono ?_)
    rintro e w' ⟨v, rfl, h1, h2⟩
    rw [hpc] at h1
    exact ⟨v, rfl, hJ.step h2, LeK.of h2, own_base h1 (Nat.le_trans hB0.size hJ.size)⟩
  obtain ⟨_, _, -, -, -⟩ := hh
  (repeat (first | (refine lex_pure rfl rfl (fun K hK => ?_); go_simp; refine hK _ ?_; clear hK K; try simp (disch := omega) only [IntWalk.i64_in, IntWalk.u8_in, Int.add_sub_cancel, Int.tmod_eq_emod_of_nonneg, Int.tdiv_eq_ediv_of_nonneg]) | (refine lex_load rfl rfl _ (fun m W hJ hF => (by have cc := hcell W hJ; go_simp; rfl)) ?_; try simp (disch := omega) only [IntWalk.i64_in, IntWalk.u8_in, Int.add_sub_cancel, Int.tmod_eq_emod_of_nonneg, Int.tdiv_eq_ediv_of_nonneg]) | (refine lex_sadd rfl rfl rfl rfl rfl (by first | omega | (simp only [ByteArray.size_append]; omega)) ?_; go_simp)))
  refine lex_nil (fun m W hJ hF => ?_)
  have hown := hF 18 rfl _ _ _ rfl rfl
  have hB := Below.trans hB0 (Below.mono hJ hB0.size)
  clear hF hJ hcell
  go_wp2
  go_ret
  exact ⟨_, rfl, hown, hB⟩

def l02ArpBytesφ (op si di : Nat) : Nat → Option Spec
  | 2 => some (fun _ v _ => v = .string (bstr (beN (op) 2)))
  | 9 => some (fun _ v _ => v = .string (bstr (beN (si) 4)))
  | 16 => some (fun _ v _ => v = .string (bstr (beN (di) 4)))
  | _ => none

theorem l02ArpBytes_ok (op : Nat) (sm dm : ByteArray) (si di : Nat) (hop : op < 256) (hs : si < 4294967296) (hd : di < 4294967296) (hl : sm.size + dm.size ≤ 1000000) (w : World) :
    Calls Try.prog 60 #[.agg #[.int .i64 op, .string sm, .string dm, .int .i64 si, .int .i64 di]] w fun e w' => e = .returned (.string (bstr (arpB op sm dm si di))) ∧ Below w.heap.size w w' := by
  go_enter Try.func60, Try.ntmps60
  go_wp2
  generalize hw0 : World.alloc w (.cells #[.int .i64 op, .string sm, .string dm, .int .i64 si, .int .i64 di] 31) = w0
  have hblk : w0.heap[World.heap w |>.size]? = some (.cells #[.int .i64 op, .string sm, .string dm, .int .i64 si, .int .i64 di] 31 (0, 0)) := by rw [← hw0]; exact heap_alloc_new _ _
  have hlt : (World.heap w).size < w0.heap.size := (Array.getElem?_eq_some_iff.1 hblk).1
  have hB0 : Below (World.heap w).size w w0 := by rw [← hw0]; exact (Below.refl _ _).alloc (Nat.le_refl _) _
  clear hw0
  have hcell : ∀ W, Below w0.heap.size w0 W → ∀ j, W.cell? ⟨w.heap.size, j, none⟩ = #[Value.int .i64 op, .string sm, .string dm, .int .i64 si, .int .i64 di][j]? := fun W hW j => (hW.cell hlt).trans (blk_cell hblk j)
  clear hblk
  have hlit : (⟨#[0, 1, 8, 0, 6, 4]⟩ : ByteArray).size = 6 := rfl
  refine wp_region_lex 19 (by kernel_rfl) (by kernel_rfl) (JB w0) LeB (l02ArpBytesφ op si di) ?_ JB.mono ?_ ?_
  · intro j sp x v W W' hj hL h
    unfold l02ArpBytesφ at hj
    split at hj <;> first | (cases hj; first | exact h | exact BsSp.st hL h | exact ArgRow.st hL h | exact OwnSp.st hL h | exact AllocSp.st hL h) | cases hj
  · exact (Below.refl _ _).drew
  simp only [List.take_succ_cons, List.take_zero, List.drop_succ_cons, List.drop_zero, pairs, List.zipIdx_cons, List.zipIdx_nil, List.map_cons, List.map_nil, Nat.zero_add, Nat.reduceAdd]
  (repeat (first | (refine lex_pure rfl rfl (fun K hK => ?_); go_simp; refine hK _ ?_; clear hK K; try simp (disch := omega) only [IntWalk.i64_in, IntWalk.u8_in, Int.add_sub_cancel, Int.tmod_eq_emod_of_nonneg, Int.tdiv_eq_ediv_of_nonneg]) | (refine lex_load rfl rfl _ (fun m W hJ hF => (by have cc := hcell W hJ; go_simp; rfl)) ?_; try simp (disch := omega) only [IntWalk.i64_in, IntWalk.u8_in, Int.add_sub_cancel, Int.tmod_eq_emod_of_nonneg, Int.tdiv_eq_ediv_of_nonneg]) | (refine lex_sadd rfl rfl rfl rfl rfl (by first | omega | (simp only [ByteArray.size_append]; omega)) ?_; go_simp)))
  refine lex_eff' (sp := fun _ v _ => v = .string (bstr (beN (op) 2))) rfl rfl (by intro _ _ _ _ h; exact h) (fun m W hJ hF => ?_) (fun v x hh => ?_) rfl
  · refine gives_call Try.call114 ((l01Number_ok (op) 2 W (by omega) (by omega)).mono ?_)
    rintro e w' ⟨rfl, h2⟩
    exact ⟨_, rfl, hJ.step h2, LeB.of h2, rfl⟩
  obtain ⟨_, _, -, rfl, -⟩ := hh
  have hz2 : (bstr (beN (op) 2)).size = 2 := by rw [bstr_size, beN_len]
  (repeat (first | (refine lex_pure rfl rfl (fun K hK => ?_); go_simp; refine hK _ ?_; clear hK K; try simp (disch := omega) only [IntWalk.i64_in, IntWalk.u8_in, Int.add_sub_cancel, Int.tmod_eq_emod_of_nonneg, Int.tdiv_eq_ediv_of_nonneg]) | (refine lex_load rfl rfl _ (fun m W hJ hF => (by have cc := hcell W hJ; go_simp; rfl)) ?_; try simp (disch := omega) only [IntWalk.i64_in, IntWalk.u8_in, Int.add_sub_cancel, Int.tmod_eq_emod_of_nonneg, Int.tdiv_eq_ediv_of_nonneg]) | (refine lex_sadd rfl rfl rfl rfl rfl (by first | omega | (simp only [ByteArray.size_append]; omega)) ?_; go_simp)))
  refine lex_eff' (sp := fun _ v _ => v = .string (bstr (beN (si) 4))) rfl rfl (by intro _ _ _ _ h; exact h) (fun m W hJ hF => ?_) (fun v x hh => ?_) rfl
  · refine gives_call Try.call114 ((l01Number_ok (si) 4 W (by omega) (by omega)).mono ?_)
    rintro e w' ⟨rfl, h2⟩
    exact ⟨_, rfl, hJ.step h2, LeB.of h2, rfl⟩
  obtain ⟨_, _, -, rfl, -⟩ := hh
  have hz9 : (bstr (beN (si) 4)).size = 4 := by rw [bstr_size, beN_len]
  (repeat (first | (refine lex_pure rfl rfl (fun K hK => ?_); go_simp; refine hK _ ?_; clear hK K; try simp (disch := omega) only [IntWalk.i64_in, IntWalk.u8_in, Int.add_sub_cancel, Int.tmod_eq_emod_of_nonneg, Int.tdiv_eq_ediv_of_nonneg]) | (refine lex_load rfl rfl _ (fun m W hJ hF => (by have cc := hcell W hJ; go_simp; rfl)) ?_; try simp (disch := omega) only [IntWalk.i64_in, IntWalk.u8_in, Int.add_sub_cancel, Int.tmod_eq_emod_of_nonneg, Int.tdiv_eq_ediv_of_nonneg]) | (refine lex_sadd rfl rfl rfl rfl rfl (by first | omega | (simp only [ByteArray.size_append]; omega)) ?_; go_simp)))
  refine lex_eff' (sp := fun _ v _ => v = .string (bstr (beN (di) 4))) rfl rfl (by intro _ _ _ _ h; exact h) (fun m W hJ hF => ?_) (fun v x hh => ?_) rfl
  · refine gives_call Try.call114 ((l01Number_ok (di) 4 W (by omega) (by omega)).mono ?_)
    rintro e w' ⟨rfl, h2⟩
    exact ⟨_, rfl, hJ.step h2, LeB.of h2, rfl⟩
  obtain ⟨_, _, -, rfl, -⟩ := hh
  have hz16 : (bstr (beN (di) 4)).size = 4 := by rw [bstr_size, beN_len]
  (repeat (first | (refine lex_pure rfl rfl (fun K hK => ?_); go_simp; refine hK _ ?_; clear hK K; try simp (disch := omega) only [IntWalk.i64_in, IntWalk.u8_in, Int.add_sub_cancel, Int.tmod_eq_emod_of_nonneg, Int.tdiv_eq_ediv_of_nonneg]) | (refine lex_load rfl rfl _ (fun m W hJ hF => (by have cc := hcell W hJ; go_simp; rfl)) ?_; try simp (disch := omega) only [IntWalk.i64_in, IntWalk.u8_in, Int.add_sub_cancel, Int.tmod_eq_emod_of_nonneg, Int.tdiv_eq_ediv_of_nonneg]) | (refine lex_sadd rfl rfl rfl rfl rfl (by first | omega | (simp only [ByteArray.size_append]; omega)) ?_; go_simp)))
  refine lex_nil (fun m W hJ hF => ?_)
  have hB := Below.trans hB0 (Below.mono hJ hB0.size)
  clear hF hJ hcell
  have hfin : (⟨#[0, 1, 8, 0, 6, 4]⟩ : ByteArray) ++ bstr (beN op 2) ++ sm ++ bstr (beN si 4) ++ dm ++ bstr (beN di 4) = bstr (arpB op sm dm si di) := by
    have e1 : (⟨#[0, 1, 8, 0, 6, 4]⟩ : ByteArray) = bstr [0, 1, 8, 0, 6, 4] := rfl
    have e2 : beN op 2 = 0 :: beN op 1 := by
      show UInt8.ofNat (op / 256 ^ 1 % 256) :: beN op 1 = _
      rw [show op / 256 ^ 1 % 256 = 0 by omega]; rfl
    rw [e1, e2, arpB]
    conv => lhs; rw [← bstr_sb sm, ← bstr_sb dm]
    simp only [bstr_append, List.append_assoc]
    rfl
  have HF := Lib.hid hfin
  clear hfin
  go_wp2
  go_ret
  exact ⟨by rw [← HF.out]; rfl, hB⟩
end Go.Proofs.Ytdenjmdngmmodaa
namespace Go.Proofs.Ytdenjmdngmmodaa
open Go.RowKit
set_option linter.unusedVariables false
set_option linter.unusedSimpArgs false
set_option maxRecDepth 20000
set_option maxHeartbeats 1000000

theorem grown_setRow {a w : World} {row : Option Nat} (h : a.grownBy w row) {g : Nat} (hp : a.heap.size ≤ g) (cs : Array Value) : a.grownBy (w.setRow g cs) row :=
  ⟨h.os, h.tape, h.output, by simpa [World.setRow] using h.size, fun i hi hne => (setRow_other w g i cs (by omega)).trans (h.block i hi hne)⟩
theorem infoArp : (Try.prog.info? 31).map (·.size) = some 5 := by kernel_rfl
def zArp : Array Value := #[.int .i64 0, .string ⟨#[]⟩, .string ⟨#[]⟩, .int .i64 0, .int .i64 0]
structure ArpOK (op : Nat) (sm dm : ByteArray) (si di : Nat) : Prop where
  op1 : 1 ≤ op
  op2 : op ≤ 2
  smac : sm.size = 6
  dmac : dm.size = 6
  sip : si < 4294967296
  dip : di < 4294967296
def ArpV (v : Value) : Prop := ∃ (op : Nat) (sm dm : ByteArray) (si di : Nat), ArpOK op sm dm si di ∧ v = .agg #[.int .i64 op, .string sm, .string dm, .int .i64 si, .int .i64 di]
theorem MacS.size {s : ByteArray} (h : MacS s) : s.size = 6 := by obtain ⟨k, _, _, rfl⟩ := h; rfl

theorem arp_ok (g : Nat) (N : Int) (w : World) (hs : Src w g N) (hN : N ≤ 1000000) :
    Calls Try.prog 56 #[.pointer (some ⟨g, 0, none⟩)] w (SrcRet w g (N + 15) ArpV) := by
  have hlt0 := hs.lt
  go_enter Try.func56, Try.ntmps56
  go_wp2_with fail
  generalize hw0 : World.alloc w (.cells #[.int .i64 0, .string ⟨#[]⟩, .string ⟨#[]⟩, .int .i64 0, .int .i64 0] 31) = w0
  have hblk : w0.heap[World.heap w |>.size]? = some (.cells #[.int .i64 0, .string ⟨#[]⟩, .string ⟨#[]⟩, .int .i64 0, .int .i64 0] 31 (0, 0)) := by rw [← hw0]; exact heap_alloc_new _ _
  have hlt : (World.heap w).size < w0.heap.size := (Array.getElem?_eq_some_iff.1 hblk).1
  have hB0 : Below (World.heap w).size w w0 := by rw [← hw0]; exact (Below.refl _ _).alloc (Nat.le_refl _) _
  clear hw0
  have hs0 := hs.below hB0 hlt0
  refine (next_ok g N 2 _ hs0 (by omega) (by omega)).mono ?_
  rintro e w1 ⟨v, rfl, ⟨x, rfl, hx0, hx1⟩, hs1, hg1⟩
  have hx2 : x ≤ 1 := by omega
  clear hx1
  go_wp2_with fail
  refine (mac_ok g _ _ hs1 (by omega)).mono ?_
  rintro e w2 ⟨v, rfl, ⟨m1, hm1, rfl⟩, hs2, hg2⟩
  go_wp2_with fail
  refine (mac_ok g _ _ hs2 (by omega)).mono ?_
  rintro e w3 ⟨v, rfl, ⟨m2, hm2, rfl⟩, hs3, hg3⟩
  go_wp2_with fail
  refine (lan_ok g _ _ hs3 (by omega)).mono ?_
  rintro e w4 ⟨v, rfl, ⟨a, rfl, ha0, ha1⟩, hs4, hg4⟩
  go_wp2_with fail
  refine (lan_ok g _ _ hs4 (by omega)).mono ?_
  rintro e w5 ⟨v, rfl, ⟨b, rfl, hb0, hb1⟩, hs5, hg5⟩
  have hg := grown_trans hg1 (grown_trans hg2 (grown_trans hg3 (grown_trans hg4 hg5)))
  have hb := (hg.block _ hlt (by simp; omega)).trans hblk
  have hG : w.grownBy w5 (some g) := grown_trans (grownBy_of_below hB0 _) hg
  have Hb := Lib.hid hb
  clear hblk hb hg1 hg2 hg3 hg4 hg5 hs1 hs2 hs3 hs4 hg
  go_wp2_with (refine wpList_store_row rfl _ _ 31 rfl w.heap.size 31 _ _ rfl rfl Hb.out rfl infoArp rfl ?_)
  refine bodyPost_ret (ret_cell rfl rfl (setRow_heap _ _ _ _ _ _ Hb.out) Try.underlying31 rfl infoArp) rfl ?_
  refine ⟨_, rfl, ⟨(1 + x).toNat, m1, m2, a.toNat, b.toNat, ⟨by omega, by omega, hm1.size, hm2.size, by omega, by omega⟩, ?_⟩, (hs5.keep fun k hk => setRow_other _ _ _ _ (by omega)).more (by omega), ?_⟩
  · rw [Int.toNat_of_nonneg (by omega), Int.toNat_of_nonneg (by omega), Int.toNat_of_nonneg (by omega)]
  · exact grown_setRow hG (Nat.le_refl _) _

theorem isAddress_ok (n : Nat) (h : n < 4294967296) (w : World) : Calls Try.prog 69 #[.int .i64 n] w fun e w' => e = .returned (.bool true) ∧ w = w' := by
  go_enter Try.func69, Try.ntmps69
  go_wp2_with fail
  refine (within_ok _ _ _ _).mono ?_
  rintro e w1 ⟨rfl, rfl⟩
  rw [show decide ((0 : Int) ≤ n ∧ (n : Int) ≤ 4294967295) = true from by simp; omega]
  go_wp2
  go_ret
  exact ⟨rfl, rfl⟩
theorem l01In_ok (n lo hi : Int) (w : World) : Calls Try.prog 88 #[.int .i64 n, .int .i64 lo, .int .i64 hi] w fun e w' => e = .returned (.bool (decide (lo ≤ n ∧ n ≤ hi))) ∧ w = w' := by
  by_cases h1 : lo ≤ n
  · by_cases h2 : n ≤ hi
    · rw [show decide (lo ≤ n ∧ n ≤ hi) = true from by simp [h1, h2]]
      go_enter Try.func88, Try.ntmps88
      go_wp2
      go_ret
      simp
    · rw [show decide (lo ≤ n ∧ n ≤ hi) = false from by simp; omega]
      have h3 : decide (n ≤ hi) = false := by simp; omega
      go_enter Try.func88, Try.ntmps88
      go_wp2
      go_ret
      simp
  · rw [show decide (lo ≤ n ∧ n ≤ hi) = false from by simp; omega]
    have h3 : decide (lo ≤ n) = false := by simp; omega
    go_enter Try.func88, Try.ntmps88
    go_wp2
    go_ret
    simp
theorem l01Ip_ok (n : Nat) (h : n < 4294967296) (w : World) : Calls Try.prog 116 #[.int .i64 n] w fun e w' => e = .returned (.bool true) ∧ w = w' := by
  go_enter Try.func116, Try.ntmps116
  go_wp2_with fail
  refine (l01In_ok _ _ _ _).mono ?_
  rintro e w1 ⟨rfl, rfl⟩
  rw [show decide ((0 : Int) ≤ n ∧ (n : Int) ≤ 4294967295) = true from by simp; omega]
  go_wp2
  go_ret
  exact ⟨rfl, rfl⟩

theorem arpOK_true (op : Nat) (sm dm : ByteArray) (si di : Nat) (h : ArpOK op sm dm si di) (w : World) :
    Calls Try.prog 57 #[.agg #[.int .i64 op, .string sm, .string dm, .int .i64 si, .int .i64 di]] w fun e w' => e = .returned (.bool true) ∧ Below w.heap.size w w' := by
  have h1 := mac_true h.smac
  have h2 := mac_true h.dmac
  have h3 : decide ((1 : Int) ≤ op ∧ (op : Int) ≤ 2) = true := by have := h.op1; have := h.op2; simp; omega
  have HK := Lib.hid h
  clear h
  go_enter Try.func57, Try.ntmps57
  go_wp2_with fail
  refine (within_ok _ _ _ _).mono ?_
  rintro e w1 ⟨rfl, rfl⟩
  rw [h3]
  go_wp2_with fail
  refine (macOK_ok sm _).mono ?_
  rintro e w1 ⟨rfl, rfl⟩
  rw [h1]
  go_wp2_with fail
  refine (macOK_ok dm _).mono ?_
  rintro e w1 ⟨rfl, rfl⟩
  rw [h2]
  go_wp2_with fail
  refine (isAddress_ok si HK.out.sip _).mono ?_
  rintro e w1 ⟨rfl, rfl⟩
  go_wp2_with fail
  refine (isAddress_ok di HK.out.dip _).mono ?_
  rintro e w1 ⟨rfl, rfl⟩
  go_wp2
  go_ret
  exact ⟨rfl, (Below.refl _ _).alloc (Nat.le_refl _) _⟩
theorem l02Arp_true (op : Nat) (sm dm : ByteArray) (si di : Nat) (h : ArpOK op sm dm si di) (w : World) :
    Calls Try.prog 59 #[.agg #[.int .i64 op, .string sm, .string dm, .int .i64 si, .int .i64 di]] w fun e w' => e = .returned (.bool true) ∧ Below w.heap.size w w' := by
  have h1 := mac_true h.smac
  have h2 := mac_true h.dmac
  have h3 : decide ((1 : Int) ≤ op ∧ (op : Int) ≤ 2) = true := by have := h.op1; have := h.op2; simp; omega
  have HK := Lib.hid h
  clear h
  go_enter Try.func59, Try.ntmps59
  go_wp2_with fail
  refine (l01In_ok _ _ _ _).mono ?_
  rintro e w1 ⟨rfl, rfl⟩
  rw [h3]
  go_wp2_with fail
  refine (l01Mac_ok sm _).mono ?_
  rintro e w1 ⟨rfl, rfl⟩
  rw [h1]
  go_wp2_with fail
  refine (l01Mac_ok dm _).mono ?_
  rintro e w1 ⟨rfl, rfl⟩
  rw [h2]
  go_wp2_with fail
  refine (l01Ip_ok si HK.out.sip _).mono ?_
  rintro e w1 ⟨rfl, rfl⟩
  go_wp2_with fail
  refine (l01Ip_ok di HK.out.dip _).mono ?_
  rintro e w1 ⟨rfl, rfl⟩
  go_wp2
  go_ret
  exact ⟨rfl, (Below.refl _ _).alloc (Nat.le_refl _) _⟩
end Go.Proofs.Ytdenjmdngmmodaa
namespace Go.Proofs.Ytdenjmdngmmodaa
open Go.RowKit
set_option linter.unusedVariables false
set_option linter.unusedSimpArgs false
set_option maxRecDepth 20000
set_option maxHeartbeats 1000000

theorem iArpBytes_ok (op : Nat) (sm dm : ByteArray) (si di : Nat) (h : ArpOK op sm dm si di) (w : World) :
    Calls Try.prog 14 #[.agg #[.int .i64 op, .string sm, .string dm, .int .i64 si, .int .i64 di]] w fun e w' => ∃ v, e = .returned (.tuple #[v, .int .i64 0]) ∧ w'.ownsRow w.heap.size 5 1 v (arpB op sm dm si di).length ((arpB op sm dm si di).map bV) ∧ Below w.heap.size w w' := by
  have HK := Lib.hid h
  clear h
  go_enter Try.func14, Try.ntmps14
  go_wp2_with fail
  generalize hw0 : World.alloc w (.cells #[.int .i64 op, .string sm, .string dm, .int .i64 si, .int .i64 di] 31) = w0
  have hblk : w0.heap[World.heap w |>.size]? = some (.cells #[.int .i64 op, .string sm, .string dm, .int .i64 si, .int .i64 di] 31 (0, 0)) := by rw [← hw0]; exact heap_alloc_new _ _
  have hlt : (World.heap w).size < w0.heap.size := (Array.getElem?_eq_some_iff.1 hblk).1
  have hB0 : Below (World.heap w).size w w0 := by rw [← hw0]; exact (Below.refl _ _).alloc (Nat.le_refl _) _
  clear hw0
  refine (arpOK_true op sm dm si di HK.out _).mono ?_
  rintro e w1 ⟨rfl, hB1⟩
  have hblk1 := (hB1.block _ hlt).trans hblk
  have hB := Below.trans hB0 (hB1.mono hB0.size)
  have c0 := blk_cell hblk1 0
  have c1 := blk_cell hblk1 1
  have c2 := blk_cell hblk1 2
  have c3 := blk_cell hblk1 3
  have c4 := blk_cell hblk1 4
  clear hblk hblk1
  simp at c0 c1 c2 c3 c4
  go_wp2_with fail
  refine (arpBytes_ok op sm dm si di (by have := HK.out.op2; omega) HK.out.sip HK.out.dip (by have := HK.out.smac; have := HK.out.dmac; omega) _).mono ?_
  rintro e w2 ⟨v, rfl, hown, hB2⟩
  have hB' := Below.trans hB (hB2.mono hB.size)
  have hown1 := own_base hown (B' := w.heap.size) hB.size
  have HO := Lib.hid hown1
  clear hown hown1 hB2 c0 c1 c2 c3 c4
  go_wp2
  go_ret2
  exact ⟨_, rfl, HO.out, hB'⟩

theorem sArpBytes_ok (op : Nat) (sm dm : ByteArray) (si di : Nat) (h : ArpOK op sm dm si di) (w : World) :
    Calls Try.prog 15 #[.agg #[.int .i64 op, .string sm, .string dm, .int .i64 si, .int .i64 di]] w fun e w' => ∃ v, e = .returned (.tuple #[v, .int .i64 0]) ∧ BsSp (arpB op sm dm si di) #[] v w' ∧ Below w.heap.size w w' := by
  have HK := Lib.hid h
  clear h
  go_enter Try.func15, Try.ntmps15
  go_wp2_with fail
  generalize hw0 : World.alloc w (.cells #[.int .i64 op, .string sm, .string dm, .int .i64 si, .int .i64 di] 31) = w0
  have hblk : w0.heap[World.heap w |>.size]? = some (.cells #[.int .i64 op, .string sm, .string dm, .int .i64 si, .int .i64 di] 31 (0, 0)) := by rw [← hw0]; exact heap_alloc_new _ _
  have hlt : (World.heap w).size < w0.heap.size := (Array.getElem?_eq_some_iff.1 hblk).1
  have hB0 : Below (World.heap w).size w w0 := by rw [← hw0]; exact (Below.refl _ _).alloc (Nat.le_refl _) _
  clear hw0
  refine (l02Arp_true op sm dm si di HK.out _).mono ?_
  rintro e w1 ⟨rfl, hB1⟩
  have hblk1 := (hB1.block _ hlt).trans hblk
  have hB := Below.trans hB0 (hB1.mono hB0.size)
  have c0 := blk_cell hblk1 0
  have c1 := blk_cell hblk1 1
  have c2 := blk_cell hblk1 2
  have c3 := blk_cell hblk1 3
  have c4 := blk_cell hblk1 4
  clear hblk hblk1
  simp at c0 c1 c2 c3 c4
  go_wp2_with fail
  refine (l02ArpBytes_ok op sm dm si di (by have := HK.out.op2; omega) HK.out.sip HK.out.dip (by have := HK.out.smac; have := HK.out.dmac; omega) _).mono ?_
  rintro e w2 ⟨rfl, hB2⟩
  have hB' := Below.trans hB (hB2.mono hB.size)
  obtain ⟨v, w3, h1, h2, h3⟩ := conv_sb w2 (bstr (arpB op sm dm si di))
  have hB'' := Below.trans hB' (h3.mono hB'.size)
  have H2 := Lib.hid h2
  clear h2 c0 c1 c2 c3 c4
  go_wp2
  go_ret2
  exact ⟨_, rfl, by have := H2.out; rwa [sb_bstr] at this, hB''⟩

structure Ar where
  op : Nat
  sm : List UInt8
  dm : List UInt8
  si : Nat
  di : Nat
def Ar.v (f : Ar) : Value := .agg #[.int .i64 f.op, .string (bstr f.sm), .string (bstr f.dm), .int .i64 f.si, .int .i64 f.di]
def Ar.zero : Ar := ⟨0, [], [], 0, 0⟩
def arOf (bs : List UInt8) : Ar := ⟨(bs.getD 7 0).toNat, (bs.drop 8).take 6, (bs.drop 18).take 6, numL ((bs.drop 14).take 4), numL ((bs.drop 24).take 4)⟩
def arHead : List UInt8 := [0, 1, 8, 0, 6, 4, 0]
def rdArp (bs : List UInt8) : Ar × Int := if bs.length = 28 ∧ bs.take 7 = arHead ∧ 1 ≤ (arOf bs).op ∧ (arOf bs).op ≤ 2 then (arOf bs, 0) else (.zero, 3)

theorem bstr_toList (l : List UInt8) : (bstr l).toList = l := by rw [ByteArray.toList_eq]; simp [bstr]
def readArpφ (bs : List UInt8) : Nat → Option Spec
  | 12 => some (fun _ v _ => v = .int .i64 (numL ((bs.drop 14).take 4)))
  | 15 => some (fun _ v _ => v = .int .i64 (numL ((bs.drop 24).take 4)))
  | _ => none

theorem readArp_ok (A : Option Addr) (c : Nat) (bs : List UInt8) (hl : bs.length ≤ 1099511627776) (hc : bs.length ≤ c) (w : World) (hr : Rd w A (bs.map bV)) :
    Calls Try.prog 61 #[.slice A bs.length c] w fun e w' => e = .returned (.tuple #[(rdArp bs).1.v, .int .i64 (rdArp bs).2]) ∧ Below w.heap.size w w' := by
  by_cases hlen : bs.length = 28
  · obtain ⟨ad, rfl, -⟩ := hr.at_ (k := 0) (by simp; omega)
    obtain ⟨ad', e7, hc7⟩ := hr.at_ (k := 7) (by simp; omega)
    cases e7
    have hc7' : w.cell? (ad.add 7) = some (.int .u8 ((bs.getD 7 0).toNat : Int)) := by rw [hc7]; simp [bV, List.getD, show 7 < bs.length by omega]
    have l1 : (7 : Int) ≤ c := by omega
    have l2 : (bs.length : Int) = 28 := by omega
    have hcv := fun W (hW : Rd W (some ad) (bs.map bV)) => bytes_str (some ad) 7 c (bs.take 7) (by rw [List.length_take]; omega) W (hW.hd 7)
    have hb := (bs.getD 7 0).toNat_lt
    have hfin : rdArp bs = if bs.take 7 = arHead ∧ 1 ≤ (bs.getD 7 0).toNat ∧ (bs.getD 7 0).toNat ≤ 2 then (arOf bs, 0) else (.zero, 3) := by unfold rdArp; simp only [hlen, true_and]; rfl
    have Hl := Lib.hid (And.intro hlen (And.intro hl hc))
    have hu : ((bs.getD 7 0).toNat : Int) ≤ 255 := by omega
    have hu0 : (0 : Int) ≤ ((bs.getD 7 0).toNat : Int) := by omega
    by_cases hh : bs.take 7 = arHead
    · have hs : ((bstr (bs.take 7)).toList == [0, 1, 8, 0, 6, 4, 0]) = true := by rw [bstr_toList, hh]; rfl
      by_cases ho : 1 ≤ (bs.getD 7 0).toNat ∧ (bs.getD 7 0).toNat ≤ 2
      · rw [if_pos ⟨hh, ho⟩] at hfin
        have hd : decide ((1 : Int) ≤ ((bs.getD 7 0).toNat : Int) ∧ ((bs.getD 7 0).toNat : Int) ≤ 2) = true := by simp only [decide_eq_true_eq]; omega
        have HF := Lib.hid hfin
        have HD := Lib.hid hd
        clear hfin hl hc hh ho hd
        generalize hbv : bs.getD 7 0 = bv at *
        go_enter Try.func61, Try.ntmps61
        go_wp2_with fail
        generalize hw0 : World.alloc w (.cells #[.int .i64 0, .string ⟨#[]⟩, .string ⟨#[]⟩, .int .i64 0, .int .i64 0] 31) = w0
        have hblk : w0.heap[World.heap w |>.size]? = some (.cells #[.int .i64 0, .string ⟨#[]⟩, .string ⟨#[]⟩, .int .i64 0, .int .i64 0] 31 (0, 0)) := by rw [← hw0]; exact heap_alloc_new _ _
        have hlt : (World.heap w).size < w0.heap.size := (Array.getElem?_eq_some_iff.1 hblk).1
        have hB0 : Below (World.heap w).size w w0 := by rw [← hw0]; exact (Below.refl _ _).alloc (Nat.le_refl _) _
        clear hw0
        have hr0 := hr.below hB0 (Nat.le_refl _)
        rw [hcv w0 hr0]
        have hc70 : w0.cell? ⟨ad.block, ad.off + 7, none⟩ = some (.int .u8 (bv.toNat : Int)) := by
          have := (hB0.cell (World.block_lt_of_cell? w _ hc7')).trans hc7'
          simpa [Addr.add] using this
        have Hx := Lib.hid (And.intro hc7 hc7')
        clear hcv hc7 hc7'
        go_wp2_with fail
        refine (within_ok _ _ _ _).mono ?_
        rintro e w1 ⟨rfl, rfl⟩
        rw [HD.out]
        go_wp2_with fail
        have m1 : (14 : Int) ≤ c := by have := Hl.out; omega
        have m2 : (18 : Int) ≤ c := by have := Hl.out; omega
        have m3 : (24 : Int) ≤ c := by have := Hl.out; omega
        have m4 : (28 : Int) ≤ c := by have := Hl.out; omega
        have m5 : (8 : Int) ≤ c := by have := Hl.out; omega
        have hlen : bs.length = 28 := Hl.out.1
        have hcell : ∀ W, Below w0.heap.size w0 W → W.cell? ⟨ad.block, ad.off + 7, none⟩ = some (.int .u8 (bv.toNat : Int)) ∧ (convert 22 9 (.slice (if c = 8 then some ad else some ⟨ad.block, ad.off + 8, none⟩) 6 (c - 8))).run Try.prog W = .ok (.string (bstr (arOf bs).sm)) W ∧
            (convert 22 9 (.slice (if c = 18 then some ad else some ⟨ad.block, ad.off + 18, none⟩) 6 (c - 18))).run Try.prog W = .ok (.string (bstr (arOf bs).dm)) W := fun W hW => by
          have hr' := hr0.below hW (Nat.le_refl _)
          exact ⟨(hW.cell (World.block_lt_of_cell? w0 _ hc70)).trans hc70, bytes_str _ _ _ _ (by simp [arOf]; omega) _ (hr'.sl Hl.out.2.2 8 6 (by omega)), bytes_str _ _ _ _ (by simp [arOf]; omega) _ (hr'.sl Hl.out.2.2 18 6 (by omega))⟩
        have HC := Lib.hid hc70
        clear hc70
        refine wp_region_lex 17 (by kernel_rfl) (by kernel_rfl) (JB w0) LeB (readArpφ bs) ?_ JB.mono ?_ ?_
        · intro j sp x v W W' hj hL h
          unfold readArpφ at hj
          split at hj <;> first | (cases hj; first | exact h | exact BsSp.st hL h | exact ArgRow.st hL h | exact OwnSp.st hL h | exact AllocSp.st hL h) | cases hj
        · exact (Below.refl _ _).drew
        simp only [List.take_succ_cons, List.take_zero, List.drop_succ_cons, List.drop_zero, pairs, List.zipIdx_cons, List.zipIdx_nil, List.map_cons, List.map_nil, Nat.zero_add, Nat.reduceAdd]
        (repeat (first | (refine lex_pure rfl rfl (fun K hK => ?_); go_simp; refine hK _ ?_; clear hK K; try simp (disch := omega) only [IntWalk.i64_in, IntWalk.u8_in, Int.add_sub_cancel, Int.tmod_eq_emod_of_nonneg, Int.tdiv_eq_ediv_of_nonneg]) | (refine lex_load rfl rfl _ (fun m W hJ hF => (by have cc := hcell W hJ; go_simp; rfl)) ?_; try simp (disch := omega) only [IntWalk.i64_in, IntWalk.u8_in, Int.add_sub_cancel, Int.tmod_eq_emod_of_nonneg, Int.tdiv_eq_ediv_of_nonneg]) | (refine lex_sadd rfl rfl rfl rfl rfl (by first | omega | (simp only [ByteArray.size_append]; omega)) ?_; go_simp)))
        refine lex_eff' (sp := fun _ v _ => v = .int .i64 (numL ((bs.drop 14).take 4))) rfl rfl (by intro _ _ _ _ h; exact h) (fun m W hJ hF => ?_) (fun v x hh => ?_) rfl
        · have hr' := (hr.below hB0 (Nat.le_refl _)).below hJ (Nat.le_refl _)
          have hn : ((bs.drop 14).take 4).length = 4 := by simp only [List.length_take, List.length_drop]; omega
          refine gives_call Try.call115 ((hn ▸ num_ok _ (c - 14) ((bs.drop 14).take 4) (by omega) W (hr'.sl Hl.out.2.2 14 4 (by omega))).mono ?_)
          rintro e w' ⟨rfl, rfl⟩
          exact ⟨_, rfl, hJ, LeB.of (Below.refl _ _), rfl⟩
        obtain ⟨_, _, -, rfl, -⟩ := hh
        (repeat (first | (refine lex_pure rfl rfl (fun K hK => ?_); go_simp; refine hK _ ?_; clear hK K; try simp (disch := omega) only [IntWalk.i64_in, IntWalk.u8_in, Int.add_sub_cancel, Int.tmod_eq_emod_of_nonneg, Int.tdiv_eq_ediv_of_nonneg]) | (refine lex_load rfl rfl _ (fun m W hJ hF => (by have cc := hcell W hJ; go_simp; rfl)) ?_; try simp (disch := omega) only [IntWalk.i64_in, IntWalk.u8_in, Int.add_sub_cancel, Int.tmod_eq_emod_of_nonneg, Int.tdiv_eq_ediv_of_nonneg]) | (refine lex_sadd rfl rfl rfl rfl rfl (by first | omega | (simp only [ByteArray.size_append]; omega)) ?_; go_simp)))
        refine lex_eff' (sp := fun _ v _ => v = .int .i64 (numL ((bs.drop 24).take 4))) rfl rfl (by intro _ _ _ _ h; exact h) (fun m W hJ hF => ?_) (fun v x hh => ?_) rfl
        · have hr' := (hr.below hB0 (Nat.le_refl _)).below hJ (Nat.le_refl _)
          have hn : ((bs.drop 24).take 4).length = 4 := by simp only [List.length_take, List.length_drop]; omega
          refine gives_call Try.call115 ((hn ▸ num_ok _ (c - 24) ((bs.drop 24).take 4) (by omega) W (hr'.sl Hl.out.2.2 24 4 (by omega))).mono ?_)
          rintro e w' ⟨rfl, rfl⟩
          exact ⟨_, rfl, hJ, LeB.of (Below.refl _ _), rfl⟩
        obtain ⟨_, _, -, rfl, -⟩ := hh
        (repeat (first | (refine lex_pure rfl rfl (fun K hK => ?_); go_simp; refine hK _ ?_; clear hK K; try simp (disch := omega) only [IntWalk.i64_in, IntWalk.u8_in, Int.add_sub_cancel, Int.tmod_eq_emod_of_nonneg, Int.tdiv_eq_ediv_of_nonneg]) | (refine lex_load rfl rfl _ (fun m W hJ hF => (by have cc := hcell W hJ; go_simp; rfl)) ?_; try simp (disch := omega) only [IntWalk.i64_in, IntWalk.u8_in, Int.add_sub_cancel, Int.tmod_eq_emod_of_nonneg, Int.tdiv_eq_ediv_of_nonneg]) | (refine lex_sadd rfl rfl rfl rfl rfl (by first | omega | (simp only [ByteArray.size_append]; omega)) ?_; go_simp)))
        refine lex_nil (fun m W hJ hF => ?_)
        have hres := (hJ.block _ hlt).trans hblk
        have hB := Below.trans hB0 (Below.mono hJ hB0.size)
        clear hF hcell hJ hblk
        generalize (if c = 8 then some ad else _) = A8
        generalize (if c = 18 then some ad else _) = A18
        generalize (if c = 14 then some ad else _) = A14
        generalize (if c = 24 then some ad else _) = A24
        have hv : (arOf bs).v = .agg #[.int .i64 (bv.toNat : Int), .string (bstr (arOf bs).sm), .string (bstr (arOf bs).dm), .int .i64 (numL ((bs.drop 14).take 4)), .int .i64 (numL ((bs.drop 24).take 4))] := by rw [← hbv]; rfl
        have HV := Lib.hid hv
        have Hb := Lib.hid hres
        clear hv hres
        go_wp2_with (refine wpList_store_row rfl _ _ 31 rfl w.heap.size 31 _ _ rfl rfl Hb.out rfl infoArp rfl ?_)
        refine bodyPost_ret (ret_cell_tmp rfl rfl (setRow_heap _ _ _ _ _ _ Hb.out) Try.underlying31 rfl infoArp) rfl ?_
        exact ⟨by rw [HF.out, HV.out]; rfl, below_setRow hB (Nat.le_refl _) _⟩
      · rw [if_neg (by intro h; exact ho h.2)] at hfin
        have hd : decide ((1 : Int) ≤ ((bs.getD 7 0).toNat : Int) ∧ ((bs.getD 7 0).toNat : Int) ≤ 2) = false := by simp only [decide_eq_false_iff_not]; omega
        have HF := Lib.hid hfin
        have HD := Lib.hid hd
        clear hfin hl hc hh ho hd
        generalize hbv : bs.getD 7 0 = bv at *
        go_enter Try.func61, Try.ntmps61
        go_wp2_with fail
        generalize hw0 : World.alloc w (.cells #[.int .i64 0, .string ⟨#[]⟩, .string ⟨#[]⟩, .int .i64 0, .int .i64 0] 31) = w0
        have hblk : w0.heap[World.heap w |>.size]? = some (.cells #[.int .i64 0, .string ⟨#[]⟩, .string ⟨#[]⟩, .int .i64 0, .int .i64 0] 31 (0, 0)) := by rw [← hw0]; exact heap_alloc_new _ _
        have hlt : (World.heap w).size < w0.heap.size := (Array.getElem?_eq_some_iff.1 hblk).1
        have hB0 : Below (World.heap w).size w w0 := by rw [← hw0]; exact (Below.refl _ _).alloc (Nat.le_refl _) _
        clear hw0
        have hr0 := hr.below hB0 (Nat.le_refl _)
        rw [hcv w0 hr0]
        have hc70 : w0.cell? ⟨ad.block, ad.off + 7, none⟩ = some (.int .u8 (bv.toNat : Int)) := by
          have := (hB0.cell (World.block_lt_of_cell? w _ hc7')).trans hc7'
          simpa [Addr.add] using this
        have Hx := Lib.hid (And.intro hc7 hc7')
        clear hcv hc7 hc7'
        go_wp2_with fail
        refine (within_ok _ _ _ _).mono ?_
        rintro e w1 ⟨rfl, rfl⟩
        rw [HD.out]
        have Hb := Lib.hid hblk
        clear hblk
        go_wp2_with (refine wpList_store_row rfl _ _ 31 rfl w.heap.size 31 _ _ rfl rfl Hb.out rfl infoArp rfl ?_)
        refine bodyPost_ret (ret_cell_tmp rfl rfl (setRow_heap _ _ _ _ _ _ Hb.out) Try.underlying31 rfl infoArp) rfl ?_
        exact ⟨by rw [HF.out]; rfl, below_setRow hB0 (Nat.le_refl _) _⟩
    · rw [if_neg (by intro h; exact hh h.1)] at hfin
      have hs : ((bstr (bs.take 7)).toList == [0, 1, 8, 0, 6, 4, 0]) = false := by
        rw [bstr_toList]; exact beq_eq_false_iff_ne.2 (fun e => hh e)
      have HF := Lib.hid hfin
      clear hfin hl hc hh
      go_enter Try.func61, Try.ntmps61
      go_wp2_with fail
      generalize hw0 : World.alloc w (.cells #[.int .i64 0, .string ⟨#[]⟩, .string ⟨#[]⟩, .int .i64 0, .int .i64 0] 31) = w0
      have hblk : w0.heap[World.heap w |>.size]? = some (.cells #[.int .i64 0, .string ⟨#[]⟩, .string ⟨#[]⟩, .int .i64 0, .int .i64 0] 31 (0, 0)) := by rw [← hw0]; exact heap_alloc_new _ _
      have hlt : (World.heap w).size < w0.heap.size := (Array.getElem?_eq_some_iff.1 hblk).1
      have hB0 : Below (World.heap w).size w w0 := by rw [← hw0]; exact (Below.refl _ _).alloc (Nat.le_refl _) _
      clear hw0
      have hr0 := hr.below hB0 (Nat.le_refl _)
      rw [hcv w0 hr0]
      clear hcv hc7 hc7'
      have Hb := Lib.hid hblk
      clear hblk
      go_wp2_with (refine wpList_store_row rfl _ _ 31 rfl w.heap.size 31 _ _ rfl rfl Hb.out rfl infoArp rfl ?_)
      refine bodyPost_ret (ret_cell_tmp rfl rfl (setRow_heap _ _ _ _ _ _ Hb.out) Try.underlying31 rfl infoArp) rfl ?_
      exact ⟨by rw [HF.out]; rfl, below_setRow hB0 (Nat.le_refl _) _⟩
  · have hfin : rdArp bs = (.zero, 3) := by rw [rdArp, if_neg (by omega)]
    have HF := Lib.hid hfin
    have hn : ((bs.length : Int) != 28) = true := by simp; omega
    have hn2 : ((bs.length : Int) == 28) = false := by simp; omega
    clear hfin hlen
    go_enter Try.func61, Try.ntmps61
    go_wp2_with fail
    generalize hw0 : World.alloc w (.cells #[.int .i64 0, .string ⟨#[]⟩, .string ⟨#[]⟩, .int .i64 0, .int .i64 0] 31) = w0
    have hblk : w0.heap[World.heap w |>.size]? = some (.cells #[.int .i64 0, .string ⟨#[]⟩, .string ⟨#[]⟩, .int .i64 0, .int .i64 0] 31 (0, 0)) := by rw [← hw0]; exact heap_alloc_new _ _
    have hlt : (World.heap w).size < w0.heap.size := (Array.getElem?_eq_some_iff.1 hblk).1
    have hB0 : Below (World.heap w).size w w0 := by rw [← hw0]; exact (Below.refl _ _).alloc (Nat.le_refl _) _
    clear hw0
    have Hb := Lib.hid hblk
    clear hblk
    refine bodyPost_ret (ret_cell_tmp rfl rfl Hb.out Try.underlying31 rfl infoArp) rfl ?_
    exact ⟨by rw [HF.out]; rfl, hB0⟩

theorem ReadArp_ok (A : Option Addr) (c : Nat) (bs : List UInt8) (hl : bs.length ≤ 65536) (hc : bs.length ≤ c) (w : World) (hr : Rd w A (bs.map bV)) :
    Calls Try.prog 16 #[.slice A bs.length c] w fun e w' => e = .returned (.tuple #[(rdArp bs).1.v, .int .i64 (rdArp bs).2]) ∧ Below w.heap.size w w' := by
  have hl2 : (bs.length : Int) ≤ 65536 := by omega
  go_enter Try.func16, Try.ntmps16
  go_wp2_with fail
  generalize hw0 : World.alloc w (.cells #[.int .i64 0, .string ⟨#[]⟩, .string ⟨#[]⟩, .int .i64 0, .int .i64 0] 31) = w0
  have hblk : w0.heap[World.heap w |>.size]? = some (.cells #[.int .i64 0, .string ⟨#[]⟩, .string ⟨#[]⟩, .int .i64 0, .int .i64 0] 31 (0, 0)) := by rw [← hw0]; exact heap_alloc_new _ _
  have hlt : (World.heap w).size < w0.heap.size := (Array.getElem?_eq_some_iff.1 hblk).1
  have hB0 : Below (World.heap w).size w w0 := by rw [← hw0]; exact (Below.refl _ _).alloc (Nat.le_refl _) _
  clear hw0
  refine (readArp_ok A c bs (by omega) hc w0 (hr.below hB0 (Nat.le_refl _))).mono ?_
  rintro e w1 ⟨rfl, hB1⟩
  have hb1 := (hB1.block _ hlt).trans hblk
  have hB := Below.trans hB0 (hB1.mono hB0.size)
  have Hb := Lib.hid hb1
  clear hblk hb1
  go_wp2_with (refine wpList_store_row rfl _ _ 31 rfl w.heap.size 31 _ _ rfl rfl Hb.out rfl infoArp rfl ?_)
  refine bodyPost_ret (ret_cell_tmp rfl rfl (setRow_heap _ _ _ _ _ _ Hb.out) Try.underlying31 rfl infoArp) rfl ?_
  exact ⟨rfl, below_setRow hB (Nat.le_refl _) _⟩
end Go.Proofs.Ytdenjmdngmmodaa
namespace Go.Proofs.Ytdenjmdngmmodaa
open Go.RowKit
set_option linter.unusedVariables false
set_option linter.unusedSimpArgs false
set_option maxRecDepth 20000
set_option maxHeartbeats 1000000

theorem l00Source_ok (A : Option Addr) (c : Nat) (bs : List UInt8) (hl : bs.length ≤ 1099511627776) (w : World) (hr : Rd w A (bs.map bV)) :
    Calls Try.prog 49 #[.slice A bs.length c] w fun e w' => e = .returned (.pointer (some ⟨w.heap.size, 0, none⟩)) ∧ Src w' w.heap.size 0 ∧ Below w.heap.size w w' := by
  have h1 : (bs.length : Int).tmod 1000 = ((bs.length % 1000 : Nat) : Int) := by rw [Int.tmod_eq_emod_of_nonneg (by omega)]; omega
  have h2 : bs.length % 1000 < 1000 := Nat.mod_lt _ (by omega)
  go_enter Try.func49, Try.ntmps49
  go_wp2
  go_ret
  have hB : Below w.heap.size w (w.alloc (.cells #[.slice A bs.length c, .int .i64 0, .int .i64 ((bs.length : Int) % 1000)] 128)) := (Below.refl _ _).alloc (Nat.le_refl _) _
  exact ⟨rfl, ⟨A, c, bs, 0, _, heap_alloc_new _ _, hr.toB.keep (fun k hk => hB.block k hk), hl, by omega, by omega, by omega, by omega⟩, hB⟩

theorem FrameOf_ok (A : Option Addr) (c : Nat) (bs : List UInt8) (hl : bs.length ≤ 1099511627776) (w : World) (hr : Rd w A (bs.map bV)) :
    Calls Try.prog 9 #[.slice A bs.length c] w fun e w' => ∃ v, e = .returned v ∧ FrameV v ∧ Below w.heap.size w w' := by
  go_enter Try.func9, Try.ntmps9
  go_wp2_with fail
  generalize hw0 : World.alloc w (.cells #[.string ⟨#[]⟩, .string ⟨#[]⟩, .int .i64 0, .string ⟨#[]⟩] 24) = w0
  have hblk : w0.heap[World.heap w |>.size]? = some (.cells #[.string ⟨#[]⟩, .string ⟨#[]⟩, .int .i64 0, .string ⟨#[]⟩] 24 (0, 0)) := by rw [← hw0]; exact heap_alloc_new _ _
  have hlt : (World.heap w).size < w0.heap.size := (Array.getElem?_eq_some_iff.1 hblk).1
  have hB0 : Below (World.heap w).size w w0 := by rw [← hw0]; exact (Below.refl _ _).alloc (Nat.le_refl _) _
  clear hw0
  refine (l00Source_ok A c bs hl w0 (hr.below hB0 (Nat.le_refl _))).mono ?_
  rintro e w1 ⟨rfl, hs, hB1⟩
  go_wp2_with fail
  refine (frame_ok w0.heap.size 0 w1 hs (by omega)).mono ?_
  rintro e w2 ⟨v, rfl, ⟨m1, m2, k, t, h1, h2, h3, h4, rfl⟩, hs2, hg⟩
  have HV := Lib.hid (And.intro h1 (And.intro h2 (And.intro h3 h4)))
  have hb1 := (hB1.block _ hlt).trans hblk
  have hlt1 : w.heap.size < w1.heap.size := Nat.lt_of_lt_of_le hlt hB1.size
  have hb2 := (hg.block _ hlt1 (by simp; omega)).trans hb1
  have hB2 : Below w.heap.size w w2 := Below.grown (Below.trans hB0 (hB1.mono hB0.size)) hg (by omega) (fun k e => by cases e; exact hB0.size)
  have Hb := Lib.hid hb2
  clear hblk hb1 hb2 h1 h2 h3 h4
  go_wp2_with (refine wpList_store_row rfl _ _ 24 rfl w.heap.size 24 _ _ rfl rfl Hb.out rfl infoFr rfl ?_)
  refine bodyPost_ret (ret_cell rfl rfl (setRow_heap _ _ _ _ _ _ Hb.out) Try.underlying24 rfl infoFr) rfl ?_
  exact ⟨_, rfl, ⟨m1, m2, k, t, HV.out.1, HV.out.2.1, HV.out.2.2.1, HV.out.2.2.2, rfl⟩, below_setRow hB2 (Nat.le_refl _) _⟩

theorem ArpOf_ok (A : Option Addr) (c : Nat) (bs : List UInt8) (hl : bs.length ≤ 1099511627776) (w : World) (hr : Rd w A (bs.map bV)) :
    Calls Try.prog 13 #[.slice A bs.length c] w fun e w' => ∃ v, e = .returned v ∧ ArpV v ∧ Below w.heap.size w w' := by
  go_enter Try.func13, Try.ntmps13
  go_wp2_with fail
  generalize hw0 : World.alloc w (.cells #[.int .i64 0, .string ⟨#[]⟩, .string ⟨#[]⟩, .int .i64 0, .int .i64 0] 31) = w0
  have hblk : w0.heap[World.heap w |>.size]? = some (.cells #[.int .i64 0, .string ⟨#[]⟩, .string ⟨#[]⟩, .int .i64 0, .int .i64 0] 31 (0, 0)) := by rw [← hw0]; exact heap_alloc_new _ _
  have hlt : (World.heap w).size < w0.heap.size := (Array.getElem?_eq_some_iff.1 hblk).1
  have hB0 : Below (World.heap w).size w w0 := by rw [← hw0]; exact (Below.refl _ _).alloc (Nat.le_refl _) _
  clear hw0
  refine (l00Source_ok A c bs hl w0 (hr.below hB0 (Nat.le_refl _))).mono ?_
  rintro e w1 ⟨rfl, hs, hB1⟩
  go_wp2_with fail
  refine (arp_ok w0.heap.size 0 w1 hs (by omega)).mono ?_
  rintro e w2 ⟨v, rfl, ⟨op, sm, dm, si, di, h1, rfl⟩, hs2, hg⟩
  have HV := Lib.hid h1
  have hb1 := (hB1.block _ hlt).trans hblk
  have hlt1 : w.heap.size < w1.heap.size := Nat.lt_of_lt_of_le hlt hB1.size
  have hb2 := (hg.block _ hlt1 (by simp; omega)).trans hb1
  have hB2 : Below w.heap.size w w2 := Below.grown (Below.trans hB0 (hB1.mono hB0.size)) hg (by omega) (fun k e => by cases e; exact hB0.size)
  have Hb := Lib.hid hb2
  clear hblk hb1 hb2 h1
  go_wp2_with (refine wpList_store_row rfl _ _ 31 rfl w.heap.size 31 _ _ rfl rfl Hb.out rfl infoArp rfl ?_)
  refine bodyPost_ret (ret_cell rfl rfl (setRow_heap _ _ _ _ _ _ Hb.out) Try.underlying31 rfl infoArp) rfl ?_
  exact ⟨_, rfl, ⟨op, sm, dm, si, di, HV.out, rfl⟩, below_setRow hB2 (Nat.le_refl _) _⟩

theorem at_ok (A : Option Addr) (c : Nat) (bs : List UInt8) (hl : bs.length ≤ 1099511627776) (hc : bs.length ≤ c) (i n : Nat) (hi : i ≤ 1000000) (hn : n ≤ 1000000000) (w : World) (hr : Rd w A (bs.map bV)) :
    Calls Try.prog 17 #[.slice A bs.length c, .int .i64 i, .int .i64 n] w fun e w' => ∃ r : Nat, e = .returned (.int .i64 r) ∧ (r < n ∨ r = 0) ∧ Below w.heap.size w w' := by
  by_cases h1 : n ≤ 1
  · have g1 : (n : Int) ≤ 1 := by omega
    go_enter Try.func17, Try.ntmps17
    go_wp2
    go_ret
    exact ⟨0, rfl, Or.inr rfl, Below.refl _ _⟩
  by_cases h0 : bs.length = 0
  · have g1 : decide ((n : Int) ≤ 1) = false := by simp; omega
    have g0 : (bs.length : Int) = 0 := by omega
    have g2 : (n : Int) ≠ 0 := by omega
    have g3 : ((i : Int) * 7).tmod n = ((i * 7 % n : Nat) : Int) := by rw [Int.tmod_eq_emod_of_nonneg (by omega)]; push_cast; rfl
    have g4 : i * 7 % n < n := Nat.mod_lt _ (by omega)
    generalize i * 7 % n = r at *
    go_enter Try.func17, Try.ntmps17
    go_wp2
    go_ret
    exact ⟨r, rfl, Or.inl g4, Below.refl _ _⟩
  · have g1 : decide ((n : Int) ≤ 1) = false := by simp; omega
    have g0 : ((bs.length : Int) == 0) = false := beq_eq_false_iff_ne.2 (by omega)
    have gn : (n : Int) ≠ 0 := by omega
    have gn' : n ≠ 0 := by omega
    have gl : (bs.length : Int) ≠ 0 := by omega
    have e1 : (i : Int) % bs.length = ((i % bs.length : Nat) : Int) := by push_cast; rfl
    have e2 : ((i : Int) + 1) % bs.length = (((i + 1) % bs.length : Nat) : Int) := by push_cast; rfl
    have e3 : (i : Int) / bs.length = ((i / bs.length : Nat) : Int) := by push_cast; rfl
    have m1 : i % bs.length < bs.length := Nat.mod_lt _ (by omega)
    have m2 : (i + 1) % bs.length < bs.length := Nat.mod_lt _ (by omega)
    have m3 : i / bs.length ≤ i := Nat.div_le_self _ _
    have t1 : (i : Int).tmod bs.length = ((i % bs.length : Nat) : Int) := by rw [Int.tmod_eq_emod_of_nonneg (by omega)]; push_cast; rfl
    have t2 : ((i : Int) + 1).tmod bs.length = (((i + 1) % bs.length : Nat) : Int) := by rw [Int.tmod_eq_emod_of_nonneg (by omega)]; push_cast; rfl
    have t3 : (i : Int).tdiv bs.length = ((i / bs.length : Nat) : Int) := by rw [Int.tdiv_eq_ediv_of_nonneg (by omega)]; push_cast; rfl
    generalize i % bs.length = k1 at *
    generalize (i + 1) % bs.length = k2 at *
    generalize i / bs.length = k3 at *
    obtain ⟨ad, rfl, hc1⟩ := hr.at_ (k := k1) (by simpa using m1)
    obtain ⟨ad', ea, hc2⟩ := hr.at_ (k := k2) (by simpa using m2)
    cases ea
    have c1 : w.cell? (ad.add k1) = some (.int .u8 (bs[k1]'m1).toNat) := by rw [hc1]; simp [bV]
    have c2 : w.cell? (ad.add k2) = some (.int .u8 (bs[k2]'m2).toNat) := by rw [hc2]; simp [bV]
    have u1 : ((bs[k1]'m1).toNat : Int) ≤ 255 := by have := (bs[k1]'m1).toNat_lt; omega
    have u2 : ((bs[k2]'m2).toNat : Int) ≤ 255 := by have := (bs[k2]'m2).toNat_lt; omega
    generalize (bs[k1]'m1).toNat = x1 at *
    generalize (bs[k2]'m2).toNat = x2 at *
    have m1' : (k1 : Int) < bs.length := by omega
    have m2' : (k2 : Int) < bs.length := by omega
    have q1 : ((x1 : Int) * 31 + x2 + k3) % n = (((x1 * 31 + x2 + k3) % n : Nat) : Int) := by push_cast; rfl
    have q2 : ((x1 : Int) * 31 + x2 + k3).tmod n = (((x1 * 31 + x2 + k3) % n : Nat) : Int) := by rw [Int.tmod_eq_emod_of_nonneg (by omega)]; push_cast; rfl
    have q4 : (x1 * 31 + x2 + k3) % n < n := Nat.mod_lt _ (by omega)
    generalize (x1 * 31 + x2 + k3) % n = r at *
    have HR := Lib.hid (And.intro hr (And.intro hc1 hc2))
    clear hr hc1 hc2
    go_enter Try.func17, Try.ntmps17
    go_wp2
    have hcell : ∀ W, Below w.heap.size w W → W.cell? (ad.add k1) = some (.int .u8 (x1 : Int)) ∧ W.cell? (ad.add k2) = some (.int .u8 (x2 : Int)) := fun W hW => ⟨(hW.cell (World.block_lt_of_cell? w _ c1)).trans c1, (hW.cell (World.block_lt_of_cell? w _ c2)).trans c2⟩
    have HC := Lib.hid (And.intro c1 c2)
    clear c1 c2
    refine wp_region_lex 26 (by kernel_rfl) (by kernel_rfl) (JB w) LeB (fun _ => none) ?_ JB.mono ?_ ?_
    · intro j sp x v W W' hj hL h
      cases hj
    · exact (Below.refl _ _).drew
    simp only [List.take_succ_cons, List.take_zero, List.drop_succ_cons, List.drop_zero, pairs, List.zipIdx_cons, List.zipIdx_nil, List.map_cons, List.map_nil, Nat.zero_add, Nat.reduceAdd]
    (repeat (first | (refine lex_pure rfl rfl (fun K hK => ?_); go_simp; refine hK _ ?_; clear hK K; try simp (disch := omega) only [IntWalk.i64_in, IntWalk.u8_in, Int.add_sub_cancel, Int.tmod_eq_emod_of_nonneg, Int.tdiv_eq_ediv_of_nonneg]) | (refine lex_load rfl rfl _ (fun m W hJ hF => (by have cc := hcell W hJ; go_simp; rfl)) ?_; try simp (disch := omega) only [IntWalk.i64_in, IntWalk.u8_in, Int.add_sub_cancel, Int.tmod_eq_emod_of_nonneg, Int.tdiv_eq_ediv_of_nonneg]) | (refine lex_sadd rfl rfl rfl rfl rfl (by first | omega | (simp only [ByteArray.size_append]; omega)) ?_; go_simp)))
    refine lex_nil (fun m W hJ hF => ?_)
    clear hF hcell
    go_wp2
    go_ret
    exact ⟨r, rfl, Or.inl q4, hJ⟩
end Go.Proofs.Ytdenjmdngmmodaa
namespace Go.Proofs.Ytdenjmdngmmodaa
open Go.RowKit
set_option linter.unusedVariables false
set_option linter.unusedSimpArgs false
set_option maxRecDepth 20000
set_option maxHeartbeats 4000000

theorem take_app {α : Type} {a b : List α} {n : Nat} (h : a.length = n) : (a ++ b).take n = a := by subst h; simp
theorem drop_app {α : Type} {a b : List α} {n : Nat} (h : a.length = n) : (a ++ b).drop n = b := by subst h; simp
theorem rdFrame_frameB (d s : ByteArray) (k : Nat) (b : ByteArray) (hd : d.size = 6) (hs : s.size = 6) (hk : k = 2048 ∨ k = 2054) (hb : b.size ≤ 400) :
    rdFrame (frameB d s k b) = (⟨sb d, sb s, k, sb b⟩, 0) := by
  have h1 : (sb d).length = 6 := by rw [sb_len]; exact hd
  have h2 : (sb s).length = 6 := by rw [sb_len]; exact hs
  have h3 := beN_len k 2
  have hl : (frameB d s k b).length = 14 + (sb b).length := by simp [frameB, sb_append, h1, h2, h3]; omega
  have hb' : (sb b).length ≤ 400 := by rw [sb_len]; exact hb
  have hf : frOf (frameB d s k b) = ⟨sb d, sb s, k, sb b⟩ := by
    have e : frameB d s k b = sb d ++ (sb s ++ (beN k 2 ++ sb b)) := by simp [frameB, sb_append]
    have e2 : (frameB d s k b).drop 6 = sb s ++ (beN k 2 ++ sb b) := by rw [e, drop_app h1]
    have e3 : (frameB d s k b).drop 12 = beN k 2 ++ sb b := by rw [show 12 = 6 + 6 from rfl, ← List.drop_drop, e2, drop_app h2]
    have e4 : (frameB d s k b).drop 14 = sb b := by rw [show 14 = 12 + 2 from rfl, ← List.drop_drop, e3, drop_app h3]
    unfold frOf
    rw [e2, e3, e4, hl, List.drop_zero, e, take_app h1, take_app h2, take_app h3, numL_beN]
    congr 1
    · omega
    · exact List.take_of_length_le (by omega)
  rw [rdFrame, hl, if_neg (by omega), hf, if_pos hk]
theorem rdArp_arpB (op : Nat) (sm dm : ByteArray) (si di : Nat) (h : ArpOK op sm dm si di) :
    rdArp (arpB op sm dm si di) = (⟨op, sb sm, sb dm, si, di⟩, 0) := by
  obtain ⟨o1, o2, h1, h2, h3, h4⟩ := h
  have g1 : (sb sm).length = 6 := by rw [sb_len]; exact h1
  have g2 : (sb dm).length = 6 := by rw [sb_len]; exact h2
  have g3 := beN_len si 4
  have g4 := beN_len di 4
  have g0 := beN_len op 1
  have hl : (arpB op sm dm si di).length = 28 := by simp [arpB, g0, g1, g2, g3, g4]
  have d7 : (arpB op sm dm si di).drop 7 = beN op 1 ++ (sb sm ++ (beN si 4 ++ (sb dm ++ beN di 4))) := rfl
  have d8 : (arpB op sm dm si di).drop 8 = sb sm ++ (beN si 4 ++ (sb dm ++ beN di 4)) := by rw [show 8 = 7 + 1 from rfl, ← List.drop_drop, d7, drop_app g0]
  have d14 : (arpB op sm dm si di).drop 14 = beN si 4 ++ (sb dm ++ beN di 4) := by rw [show 14 = 8 + 6 from rfl, ← List.drop_drop, d8, drop_app g1]
  have d18 : (arpB op sm dm si di).drop 18 = sb dm ++ beN di 4 := by rw [show 18 = 14 + 4 from rfl, ← List.drop_drop, d14, drop_app g3]
  have d24 : (arpB op sm dm si di).drop 24 = beN di 4 := by rw [show 24 = 18 + 6 from rfl, ← List.drop_drop, d18, drop_app g2]
  have ho : ((arpB op sm dm si di).getD 7 0).toNat = op := by
    obtain rfl | rfl : op = 1 ∨ op = 2 := by omega
    · rfl
    · rfl
  have hf : arOf (arpB op sm dm si di) = ⟨op, sb sm, sb dm, si, di⟩ := by
    unfold arOf
    rw [ho, d8, d18, d14, d24, take_app g1, take_app g2, take_app g3, List.take_of_length_le (by omega), numL_beN, numL_beN]
    congr 1
    · omega
    · omega
  rw [rdArp, hf, if_pos ⟨hl, rfl, o1, o2⟩]
theorem rdArp_short (bs : List UInt8) (h : bs.length ≠ 28) : rdArp bs = (.zero, 3) := by rw [rdArp, if_neg (by omega)]

theorem at_ok2 (A : Option Addr) (c : Nat) (bs : List UInt8) (hl : bs.length ≤ 1099511627776) (hc : bs.length ≤ c) (i n : Int) (hi : 0 ≤ i ∧ i ≤ 1000000) (hn : 0 ≤ n ∧ n ≤ 1000000000) (w : World) (hr : Rd w A (bs.map bV)) :
    Calls Try.prog 17 #[.slice A bs.length c, .int .i64 i, .int .i64 n] w fun e w' => ∃ r : Nat, e = .returned (.int .i64 r) ∧ ((r : Int) < n ∨ r = 0) ∧ Below w.heap.size w w' := by
  obtain ⟨i', rfl⟩ := Int.eq_ofNat_of_zero_le hi.1
  obtain ⟨n', rfl⟩ := Int.eq_ofNat_of_zero_le hn.1
  refine (at_ok A c bs hl hc i' n' (by omega) (by omega) w hr).mono ?_
  rintro e w' ⟨r, h1, h2, h3⟩
  exact ⟨r, h1, by omega, h3⟩
theorem LeB.tr {a b c : World} (h : LeB a b) (k : LeB b c) : LeB a c := Below.trans h (Below.mono k h.size)

theorem FnFrames_ok (A : Option Addr) (c : Nat) (bs : List UInt8) (A2 : Option Addr) (c2 : Nat) (bs2 : List UInt8) (hc : bs.length ≤ c) (hc2 : bs2.length ≤ c2) (w : World) (hr : Rd w A (bs.map bV)) (hr2 : Rd w A2 (bs2.map bV)) :
    Calls Try.prog 3 #[.slice A bs.length c, .slice A2 bs2.length c2] w fun e w' => e = .returned (.bool true) ∧ Below w.heap.size w w' := by
  by_cases h1 : 1048576 < bs.length
  · have g1 : (1048576 : Int) < bs.length := by omega
    go_enter Try.func3, Try.ntmps3
    go_wp2
    go_ret
    exact ⟨rfl, Below.refl _ _⟩
  have g1 : decide ((1048576 : Int) < bs.length) = false := by simp; omega
  by_cases h2 : 1048576 < bs2.length
  · have g2 : (1048576 : Int) < bs2.length := by omega
    go_enter Try.func3, Try.ntmps3
    go_wp2
    go_ret
    exact ⟨rfl, Below.refl _ _⟩
  have g2 : decide ((1048576 : Int) < bs2.length) = false := by simp; omega
  go_enter Try.func3, Try.ntmps3
  go_wp2_with fail
  refine (FrameOf_ok A c bs (by omega) w hr).mono ?_
  rintro e w1 ⟨v, rfl, ⟨m1, m2, kk, t, q1, q2, q3, q4, rfl⟩, hB1⟩
  obtain ⟨k, rfl, hk⟩ : ∃ k : Nat, kk = k ∧ (k = 2048 ∨ k = 2054) := by rcases q3 with rfl | rfl; exact ⟨2048, rfl, Or.inl rfl⟩; exact ⟨2054, rfl, Or.inr rfl⟩
  have HK : FrameOK m1 m2 k t := ⟨q1.size, q2.size, hk, by simp at q4; rcases q4 with rfl | rfl | rfl <;> simp [bstr_size]⟩
  have HF := Lib.hid HK
  clear q1 q2 q3 q4 hk HK
  go_wp2_with fail
  generalize hw0 : World.alloc w1 (.cells #[.string m1, .string m2, .int .i64 k, .string t] 24) = wa
  have hblk : wa.heap[World.heap w1 |>.size]? = some (.cells #[.string m1, .string m2, .int .i64 k, .string t] 24 (0, 0)) := by rw [← hw0]; exact heap_alloc_new _ _
  have hlt : (World.heap w1).size < wa.heap.size := (Array.getElem?_eq_some_iff.1 hblk).1
  have hB0 : Below (World.heap w1).size w1 wa := by rw [← hw0]; exact (Below.refl _ _).alloc (Nat.le_refl _) _
  clear hw0
  have hBa := Below.trans hB1 (hB0.mono hB1.size)
  refine (iFrameBytes_ok m1 m2 k t HF.out wa).mono ?_
  rintro e w2 ⟨v, rfl, hown, hB2⟩
  obtain ⟨A6, c6, rfl, hc6, hr6, hA6⟩ := own_slice hown
  have hb5 := (hB2.block _ hlt).trans hblk
  have hlt5 : w1.heap.size < w2.heap.size := Nat.lt_of_lt_of_le hlt hB2.size
  have hBb := Below.trans hBa (hB2.mono hBa.size)
  clear hblk hlt hB0 hB1 hBa hown hB2
  generalize hg5 : w1.heap.size = g5 at *
  clear hg5 hA6
  have c0 := blk_cell hb5 0
  have c1 := blk_cell hb5 1
  have c2' := blk_cell hb5 2
  have c3 := blk_cell hb5 3
  simp at c0 c1 c2' c3
  have hL : (frameB m1 m2 k t).length = 14 + t.size := by simp [frameB, sb_append, sb_len, beN_len, HF.out.dst, HF.out.src]; omega
  have hL2 := HF.out.body
  have hrd := rdFrame_frameB m1 m2 k t HF.out.dst HF.out.src HF.out.kind HF.out.body
  generalize hbs6 : frameB m1 m2 k t = b6 at *
  have Hb6 := Lib.hid hbs6
  have HL := Lib.hid (And.intro hL hL2)
  clear hbs6 hL hL2
  go_wp2_with fail
  refine (sFrameBytes_ok m1 m2 k t HF.out w2).mono ?_
  rintro e w3 ⟨v, rfl, ⟨A8, c8, rfl, hc8, hr8⟩, hB3⟩
  rw [Hb6.out] at hc8 hr8 ⊢
  have hb5' := (hB3.block _ hlt5).trans hb5
  have hr6' := hr6.below hB3 (Nat.le_refl _)
  have hBc := Below.trans hBb (hB3.mono hBb.size)
  have hlt5' : g5 < w3.heap.size := Nat.lt_of_lt_of_le hlt5 hB3.size
  clear hr6 hb5 hBb hB3 hlt5 c0 c1 c2' c3
  go_wp2_with fail
  refine (ReadFrame_ok A6 c6 b6 (by have := HL.out; omega) hc6 w3 hr6').mono ?_
  rintro e w4 ⟨rfl, hB4⟩
  rw [hrd]
  dsimp only [Fr.v, bstr_sb]
  have F1 := Lib.hid (And.intro hb5' (And.intro hr6' (And.intro hr8 hlt5')))
  clear hb5' hr6' hr8 hlt5' hrd
  go_wp2_with fail
  generalize hw0 : World.alloc w4 (.cells #[.string m1, .string m2, .int .i64 k, .string t] 24) = wb
  have hblk : wb.heap[World.heap w4 |>.size]? = some (.cells #[.string m1, .string m2, .int .i64 k, .string t] 24 (0, 0)) := by rw [← hw0]; exact heap_alloc_new _ _
  have hlt : (World.heap w4).size < wb.heap.size := (Array.getElem?_eq_some_iff.1 hblk).1
  have hB0 : Below (World.heap w4).size w4 wb := by rw [← hw0]; exact (Below.refl _ _).alloc (Nat.le_refl _) _
  clear hw0
  have L1 : LeB w3 wb := LeB.tr hB4 hB0
  have F2 := Lib.hid (And.intro hblk hlt)
  have L0 : LeB w wb := LeB.tr hBc L1
  clear hblk hlt hB0 hB4 hBc
  generalize hg10 : w4.heap.size = g10 at *
  clear hg10
  refine (ArpOf_ok A2 c2 bs2 (by omega) wb (hr2.below L0 (Nat.le_refl _))).mono ?_
  rintro e w5 ⟨v, rfl, ⟨op, sm, dm, si, di, hOK, rfl⟩, hB5⟩
  have HA := Lib.hid hOK
  clear hOK
  go_wp2_with fail
  generalize hw0 : World.alloc w5 (.cells #[.int .i64 op, .string sm, .string dm, .int .i64 si, .int .i64 di] 31) = wc
  have hblk : wc.heap[World.heap w5 |>.size]? = some (.cells #[.int .i64 op, .string sm, .string dm, .int .i64 si, .int .i64 di] 31 (0, 0)) := by rw [← hw0]; exact heap_alloc_new _ _
  have hlt : (World.heap w5).size < wc.heap.size := (Array.getElem?_eq_some_iff.1 hblk).1
  have hB0 : Below (World.heap w5).size w5 wc := by rw [← hw0]; exact (Below.refl _ _).alloc (Nat.le_refl _) _
  clear hw0
  refine (iArpBytes_ok op sm dm si di HA.out wc).mono ?_
  rintro e w6 ⟨v, rfl, hown, hB6⟩
  obtain ⟨A13, c13, rfl, hc13, hr13, -⟩ := own_slice hown
  have M1 : LeB wb w6 := LeB.tr hB5 (LeB.tr hB0 hB6)
  have hb12 := (hB6.block _ hlt).trans hblk
  have hlt12 := Nat.lt_of_lt_of_le hlt hB6.size
  clear hblk hlt hB0 hown hB5 hB6
  generalize hg12 : w5.heap.size = g12 at *
  clear hg12
  have c0 := blk_cell hb12 0
  have c1 := blk_cell hb12 1
  have c2' := blk_cell hb12 2
  have c3 := blk_cell hb12 3
  have c4 := blk_cell hb12 4
  simp at c0 c1 c2' c3 c4
  have hl13 : (arpB op sm dm si di).length = 28 := by simp [arpB, sb_len, beN_len, HA.out.smac, HA.out.dmac]
  have hra := rdArp_arpB op sm dm si di HA.out
  generalize hbs13 : arpB op sm dm si di = b13 at *
  have Hb13 := Lib.hid hbs13
  have HL13 := Lib.hid hl13
  clear hbs13 hl13
  go_wp2_with fail
  refine (sArpBytes_ok op sm dm si di HA.out w6).mono ?_
  rintro e w7 ⟨v, rfl, ⟨A15, c15, rfl, hc15, hr15⟩, hB7⟩
  rw [Hb13.out] at hc15 hr15 ⊢
  have hr13' := hr13.below hB7 (Nat.le_refl _)
  have F3 := Lib.hid (And.intro hb12 hlt12)
  clear c0 c1 c2' c3 c4 hb12 hlt12 hr13
  go_wp2_with fail
  refine (ReadArp_ok A13 c13 b13 (by have := HL13.out; omega) hc13 w7 hr13').mono ?_
  rintro e w8 ⟨rfl, hB8⟩
  rw [hra]
  dsimp only [Ar.v, bstr_sb]
  have F4 := Lib.hid (And.intro hr13' hr15)
  clear hr13' hr15 hra
  go_wp2_with fail
  all_goals
    generalize hw0 : World.alloc w8 (.cells #[.int .i64 op, .string sm, .string dm, .int .i64 si, .int .i64 di] 31) = wd
    have hblk : wd.heap[World.heap w8 |>.size]? = some (.cells #[.int .i64 op, .string sm, .string dm, .int .i64 si, .int .i64 di] 31 (0, 0)) := by rw [← hw0]; exact heap_alloc_new _ _
    have hlt : (World.heap w8).size < wd.heap.size := (Array.getElem?_eq_some_iff.1 hblk).1
    have hB0 : Below (World.heap w8).size w8 wd := by rw [← hw0]; exact (Below.refl _ _).alloc (Nat.le_refl _) _
    clear hw0
    have N1 : LeB w7 wd := LeB.tr hB8 hB0
    have N2 : LeB w6 wd := LeB.tr hB7 N1
    have N3 : LeB wb wd := LeB.tr M1 N2
    have N4 : LeB w wd := LeB.tr L0 N3
    have N5 : LeB w3 wd := LeB.tr L1 N3
    have F5 := Lib.hid (And.intro hblk hlt)
    clear hblk hlt hB0 hB8 hB7
    generalize hg17 : w8.heap.size = g17 at *
    clear hg17
    refine (at_ok2 A2 c2 bs2 (by omega) hc2 _ _ (by omega) (by have := HL.out; omega) wd (hr2.below N4 (Nat.le_refl _))).mono ?_
    rintro e w9 ⟨r, rfl, hr9, hB9⟩
    have hr28 : r < 28 ∧ r ≤ b6.length := by have := HL.out; omega
    have hrc : (r : Int) ≤ c6 := by omega
    have hlr : (b6.take r).length = r := by rw [List.length_take]; omega
    go_wp2_with fail
    refine (hlr ▸ ReadArp_ok A6 c6 (b6.take r) (by omega) (by omega) w9 ((F1.out.2.1.below (LeB.tr N5 hB9) (Nat.le_refl _)).hd r)).mono ?_
    rintro e w10 ⟨rfl, hB10⟩
    rw [rdArp_short _ (by omega)]
    dsimp only [Ar.v, Ar.zero]
    go_wp2_with fail
    generalize hw0 : World.alloc w10 (.cells #[.int .i64 0, .string (bstr []), .string (bstr []), .int .i64 0, .int .i64 0] 31) = we
    have hblk : we.heap[World.heap w10 |>.size]? = some (.cells #[.int .i64 0, .string (bstr []), .string (bstr []), .int .i64 0, .int .i64 0] 31 (0, 0)) := by rw [← hw0]; exact heap_alloc_new _ _
    have hlt : (World.heap w10).size < we.heap.size := (Array.getElem?_eq_some_iff.1 hblk).1
    have hB0 : Below (World.heap w10).size w10 we := by rw [← hw0]; exact (Below.refl _ _).alloc (Nat.le_refl _) _
    clear hw0
    have P1 : LeB wd we := LeB.tr hB9 (LeB.tr hB10 hB0)
    have P2 : LeB w7 we := LeB.tr N1 P1
    have P3 : LeB w3 we := LeB.tr N5 P1
    have r6 := bytes_str A6 b6.length c6 b6 rfl we (F1.out.2.1.below P3 (Nat.le_refl _))
    have r8 := bytes_str A8 b6.length c8 b6 rfl we (F1.out.2.2.1.below P3 (Nat.le_refl _))
    have r13 := bytes_str A13 b13.length c13 b13 rfl we (F4.out.1.below P2 (Nat.le_refl _))
    have r15 := bytes_str A15 b13.length c15 b13 rfl we (F4.out.2.below P2 (Nat.le_refl _))
    have b5 := (P3.block _ F1.out.2.2.2).trans F1.out.1
    have b10 := ((LeB.tr N3 P1).block _ F2.out.2).trans F2.out.1
    have b12 := ((LeB.tr N2 P1).block _ F3.out.2).trans F3.out.1
    have b17 := (P1.block _ F5.out.2).trans F5.out.1
    have x0 := blk_cell b5 0
    have x1 := blk_cell b5 1
    have x2 := blk_cell b5 2
    have x3 := blk_cell b5 3
    have y0 := blk_cell b10 0
    have y1 := blk_cell b10 1
    have y2 := blk_cell b10 2
    have y3 := blk_cell b10 3
    have u0 := blk_cell b12 0
    have u1 := blk_cell b12 1
    have u2 := blk_cell b12 2
    have u3 := blk_cell b12 3
    have u4 := blk_cell b12 4
    have v0 := blk_cell b17 0
    have v1 := blk_cell b17 1
    have v2 := blk_cell b17 2
    have v3 := blk_cell b17 3
    have v4 := blk_cell b17 4
    simp at x0 x1 x2 x3 y0 y1 y2 y3 u0 u1 u2 u3 u4 v0 v1 v2 v3 v4
    have HP := Lib.hid (LeB.tr N4 P1)
    clear b5 b10 b12 b17 hblk hlt hB0 P1 P2 P3 N1 N2 N3 N4 N5 hB9 hB10 L0 L1 M1
    rw [r6]
    go_wp2_with fail
    go_ret
    exact ⟨rfl, HP.out⟩
end Go.Proofs.Ytdenjmdngmmodaa
