/- Questions for macs: the two ways to their bytes. -/
import Derived.Test.YtdenjmdngmmodaaRead
namespace Go.Proofs.Ytdenjmdngmmodaa
open Go.RowKit
set_option linter.unusedVariables false
set_option linter.unusedSimpArgs false
set_option maxRecDepth 20000
set_option maxHeartbeats 1000000

def arpB (op : Nat) (sm dm : ByteArray) (si di : Nat) : List UInt8 := [0, 1, 8, 0, 6, 4, 0] ++ (beN op 1 ++ (sb sm ++ (beN si 4 ++ (sb dm ++ beN di 4))))
def arpBytesφ (base base2 : Nat) (op : Nat) (sm dm : ByteArray) (si di : Nat) : Nat → Option Spec
  | 0 => some (ConstRow base #[Value.int .u8 0, Value.int .u8 1, Value.int .u8 8, Value.int .u8 0, Value.int .u8 6, Value.int .u8 4, Value.int .u8 0])
  | 1 => some (MarkSp)
  | 4 => some (BsSp (beN (op) 1))
  | 7 => some (BsSp (sb (sm)))
  | 10 => some (BsSp (beN (si) 4))
  | 13 => some (BsSp (sb (dm)))
  | 16 => some (BsSp (beN (di) 4))
  | 17 => some (ArgRow 22)
  | 18 => some (OwnSp base2 (arpB op sm dm si di))
  | _ => none

theorem arpBytes_ok (op : Nat) (sm dm : ByteArray) (si di : Nat) (hop : op < 256) (hs : si < 4294967296) (hd : di < 4294967296) (hl : sm.size + dm.size ≤ 1000000) (w : World) :
    Calls Try.prog 58 #[.agg #[.int .i64 op, .string sm, .string dm, .int .i64 si, .int .i64 di]] w fun e w' => ∃ v, e = .returned v ∧ w'.ownsRow w.heap.size 5 1 v (arpB op sm dm si di).length ((arpB op sm dm si di).map bV) ∧ Below w.heap.size w w' := by
  go_enter Try.func58, Try.ntmps58
  go_wp2
  generalize hw0 : World.alloc w (.cells #[.int .i64 op, .string sm, .string dm, .int .i64 si, .int .i64 di] 31) = w0
  have hblk : w0.heap[World.heap w |>.size]? = some (.cells #[.int .i64 op, .string sm, .string dm, .int .i64 si, .int .i64 di] 31 (0, 0)) := by rw [← hw0]; exact heap_alloc_new _ _
  have hlt : (World.heap w).size < w0.heap.size := (Array.getElem?_eq_some_iff.1 hblk).1
  have hB0 : Below (World.heap w).size w w0 := by rw [← hw0]; exact (Below.refl _ _).alloc (Nat.le_refl _) _
  clear hw0
  have hcell : ∀ W, Below w0.heap.size w0 W → ∀ j, W.cell? ⟨w.heap.size, j, none⟩ = #[Value.int .i64 op, .string sm, .string dm, .int .i64 si, .int .i64 di][j]? := fun W hW j => (hW.cell hlt).trans (blk_cell hblk j)
  clear hblk
  refine wp_region_lex 20 (by kernel_rfl) (by kernel_rfl) (JB w0) (LeK #[Value.int .u8 0, Value.int .u8 1, Value.int .u8 8, Value.int .u8 0, Value.int .u8 6, Value.int .u8 4, Value.int .u8 0]) (arpBytesφ w0.heap.size w.heap.size op sm dm si di) ?_ JB.mono ?_ ?_
  · intro j sp x v W W' hj hL h
    unfold arpBytesφ at hj
    split at hj <;> first | (cases hj; first | exact h | exact BsSp.stK hL h | exact ArgRow.stK hL h | exact ConstRow.stK hL h | exact OwnSp.stK hL h (by simp [arpB, beN_len]; omega)) | cases hj
  · exact (Below.refl _ _).drew
  simp only [List.take_succ_cons, List.take_zero, List.drop_succ_cons, List.drop_zero, pairs, List.zipIdx_cons, List.zipIdx_nil, List.map_cons, List.map_nil, Nat.zero_add, Nat.reduceAdd]
  (repeat (first | (refine lex_pure rfl rfl (fun K hK => ?_); go_simp; refine hK _ ?_; clear hK K; try simp (disch := omega) only [IntWalk.i64_in, IntWalk.u8_in, Int.add_sub_cancel, Int.tmod_eq_emod_of_nonneg, Int.tdiv_eq_ediv_of_nonneg]) | (refine lex_load rfl rfl _ (fun m W hJ hF => (by have cc := hcell W hJ; go_simp; rfl)) ?_; try simp (disch := omega) only [IntWalk.i64_in, IntWalk.u8_in, Int.add_sub_cancel, Int.tmod_eq_emod_of_nonneg, Int.tdiv_eq_ediv_of_nonneg]) | (refine lex_sadd rfl rfl rfl rfl rfl (by first | omega | (simp only [ByteArray.size_append]; omega)) ?_; go_simp)))
  refine lexK_const rfl rfl rfl (fun W => by go_simp) (fun b0 x => ?_)
  (repeat (first | (refine lex_pure rfl rfl (fun K hK => ?_); go_simp; refine hK _ ?_; clear hK K; try simp (disch := omega) only [IntWalk.i64_in, IntWalk.u8_in, Int.add_sub_cancel, Int.tmod_eq_emod_of_nonneg, Int.tdiv_eq_ediv_of_nonneg]) | (refine lex_load rfl rfl _ (fun m W hJ hF => (by have cc := hcell W hJ; go_simp; rfl)) ?_; try simp (disch := omega) only [IntWalk.i64_in, IntWalk.u8_in, Int.add_sub_cancel, Int.tmod_eq_emod_of_nonneg, Int.tdiv_eq_ediv_of_nonneg]) | (refine lex_sadd rfl rfl rfl rfl rfl (by first | omega | (simp only [ByteArray.size_append]; omega)) ?_; go_simp)))
  refine lexK_mark (j := 0) rfl rfl rfl rfl (by kernel_rfl) rfl rfl ?_
  (repeat (first | (refine lex_pure rfl rfl (fun K hK => ?_); go_simp; refine hK _ ?_; clear hK K; try simp (disch := omega) only [IntWalk.i64_in, IntWalk.u8_in, Int.add_sub_cancel, Int.tmod_eq_emod_of_nonneg, Int.tdiv_eq_ediv_of_nonneg]) | (refine lex_load rfl rfl _ (fun m W hJ hF => (by have cc := hcell W hJ; go_simp; rfl)) ?_; try simp (disch := omega) only [IntWalk.i64_in, IntWalk.u8_in, Int.add_sub_cancel, Int.tmod_eq_emod_of_nonneg, Int.tdiv_eq_ediv_of_nonneg]) | (refine lex_sadd rfl rfl rfl rfl rfl (by first | omega | (simp only [ByteArray.size_append]; omega)) ?_; go_simp)))
  refine lex_eff' (sp := BsSp (beN (op) 1)) rfl rfl (by intro _ _ _ _ h; exact h) (fun m W hJ hF => ?_) (fun v x hh => ?_) rfl
  · refine gives_call Try.call112 ((be_ok (op) 1 W (by omega) (by omega)).mono ?_)
    rintro e w' ⟨rfl, h1, h2⟩
    exact ⟨_, rfl, hJ.step h2, LeK.of h2, _, _, by rw [beN_len], by rw [beN_len]; exact Nat.le_refl _, by simpa using Rd.block h1 0⟩
  obtain ⟨_, _, -, ⟨A4, c4, rfl, hc4, -⟩, -⟩ := hh
  (repeat (first | (refine lex_pure rfl rfl (fun K hK => ?_); go_simp; refine hK _ ?_; clear hK K; try simp (disch := omega) only [IntWalk.i64_in, IntWalk.u8_in, Int.add_sub_cancel, Int.tmod_eq_emod_of_nonneg, Int.tdiv_eq_ediv_of_nonneg]) | (refine lex_load rfl rfl _ (fun m W hJ hF => (by have cc := hcell W hJ; go_simp; rfl)) ?_; try simp (disch := omega) only [IntWalk.i64_in, IntWalk.u8_in, Int.add_sub_cancel, Int.tmod_eq_emod_of_nonneg, Int.tdiv_eq_ediv_of_nonneg]) | (refine lex_sadd rfl rfl rfl rfl rfl (by first | omega | (simp only [ByteArray.size_append]; omega)) ?_; go_simp)))
  refine lexB_conv rfl rfl rfl rfl rfl LeK.of (fun A7 c7 hc7 => ?_)
  (repeat (first | (refine lex_pure rfl rfl (fun K hK => ?_); go_simp; refine hK _ ?_; clear hK K; try simp (disch := omega) only [IntWalk.i64_in, IntWalk.u8_in, Int.add_sub_cancel, Int.tmod_eq_emod_of_nonneg, Int.tdiv_eq_ediv_of_nonneg]) | (refine lex_load rfl rfl _ (fun m W hJ hF => (by have cc := hcell W hJ; go_simp; rfl)) ?_; try simp (disch := omega) only [IntWalk.i64_in, IntWalk.u8_in, Int.add_sub_cancel, Int.tmod_eq_emod_of_nonneg, Int.tdiv_eq_ediv_of_nonneg]) | (refine lex_sadd rfl rfl rfl rfl rfl (by first | omega | (simp only [ByteArray.size_append]; omega)) ?_; go_simp)))
  refine lex_eff' (sp := BsSp (beN (si) 4)) rfl rfl (by intro _ _ _ _ h; exact h) (fun m W hJ hF => ?_) (fun v x hh => ?_) rfl
  · refine gives_call Try.call112 ((be_ok (si) 4 W (by omega) (by omega)).mono ?_)
    rintro e w' ⟨rfl, h1, h2⟩
    exact ⟨_, rfl, hJ.step h2, LeK.of h2, _, _, by rw [beN_len], by rw [beN_len]; exact Nat.le_refl _, by simpa using Rd.block h1 0⟩
  obtain ⟨_, _, -, ⟨A10, c10, rfl, hc10, -⟩, -⟩ := hh
  (repeat (first | (refine lex_pure rfl rfl (fun K hK => ?_); go_simp; refine hK _ ?_; clear hK K; try simp (disch := omega) only [IntWalk.i64_in, IntWalk.u8_in, Int.add_sub_cancel, Int.tmod_eq_emod_of_nonneg, Int.tdiv_eq_ediv_of_nonneg]) | (refine lex_load rfl rfl _ (fun m W hJ hF => (by have cc := hcell W hJ; go_simp; rfl)) ?_; try simp (disch := omega) only [IntWalk.i64_in, IntWalk.u8_in, Int.add_sub_cancel, Int.tmod_eq_emod_of_nonneg, Int.tdiv_eq_ediv_of_nonneg]) | (refine lex_sadd rfl rfl rfl rfl rfl (by first | omega | (simp only [ByteArray.size_append]; omega)) ?_; go_simp)))
  refine lexB_conv rfl rfl rfl rfl rfl LeK.of (fun A13 c13 hc13 => ?_)
  (repeat (first | (refine lex_pure rfl rfl (fun K hK => ?_); go_simp; refine hK _ ?_; clear hK K; try simp (disch := omega) only [IntWalk.i64_in, IntWalk.u8_in, Int.add_sub_cancel, Int.tmod_eq_emod_of_nonneg, Int.tdiv_eq_ediv_of_nonneg]) | (refine lex_load rfl rfl _ (fun m W hJ hF => (by have cc := hcell W hJ; go_simp; rfl)) ?_; try simp (disch := omega) only [IntWalk.i64_in, IntWalk.u8_in, Int.add_sub_cancel, Int.tmod_eq_emod_of_nonneg, Int.tdiv_eq_ediv_of_nonneg]) | (refine lex_sadd rfl rfl rfl rfl rfl (by first | omega | (simp only [ByteArray.size_append]; omega)) ?_; go_simp)))
  refine lex_eff' (sp := BsSp (beN (di) 4)) rfl rfl (by intro _ _ _ _ h; exact h) (fun m W hJ hF => ?_) (fun v x hh => ?_) rfl
  · refine gives_call Try.call112 ((be_ok (di) 4 W (by omega) (by omega)).mono ?_)
    rintro e w' ⟨rfl, h1, h2⟩
    exact ⟨_, rfl, hJ.step h2, LeK.of h2, _, _, by rw [beN_len], by rw [beN_len]; exact Nat.le_refl _, by simpa using Rd.block h1 0⟩
  obtain ⟨_, _, -, ⟨A16, c16, rfl, hc16, -⟩, -⟩ := hh
  (repeat (first | (refine lex_pure rfl rfl (fun K hK => ?_); go_simp; refine hK _ ?_; clear hK K; try simp (disch := omega) only [IntWalk.i64_in, IntWalk.u8_in, Int.add_sub_cancel, Int.tmod_eq_emod_of_nonneg, Int.tdiv_eq_ediv_of_nonneg]) | (refine lex_load rfl rfl _ (fun m W hJ hF => (by have cc := hcell W hJ; go_simp; rfl)) ?_; try simp (disch := omega) only [IntWalk.i64_in, IntWalk.u8_in, Int.add_sub_cancel, Int.tmod_eq_emod_of_nonneg, Int.tdiv_eq_ediv_of_nonneg]) | (refine lex_sadd rfl rfl rfl rfl rfl (by first | omega | (simp only [ByteArray.size_append]; omega)) ?_; go_simp)))
  refine lexB_row #[.slice (some ⟨b0, 0, none⟩) 7 7, .slice A4 (beN op 1).length c4, .slice A7 (sb sm).length c7, .slice A10 (beN si 4).length c10, .slice A13 (sb dm).length c13, .slice A16 (beN di 4).length c16] rfl rfl (by simp [argsOf, Op.operands, Act.put, Act.eval]) LeK.of (fun W => by go_simp) (fun b17 => ?_)
  (repeat (first | (refine lex_pure rfl rfl (fun K hK => ?_); go_simp; refine hK _ ?_; clear hK K; try simp (disch := omega) only [IntWalk.i64_in, IntWalk.u8_in, Int.add_sub_cancel, Int.tmod_eq_emod_of_nonneg, Int.tdiv_eq_ediv_of_nonneg]) | (refine lex_load rfl rfl _ (fun m W hJ hF => (by have cc := hcell W hJ; go_simp; rfl)) ?_; try simp (disch := omega) only [IntWalk.i64_in, IntWalk.u8_in, Int.add_sub_cancel, Int.tmod_eq_emod_of_nonneg, Int.tdiv_eq_ediv_of_nonneg]) | (refine lex_sadd rfl rfl rfl rfl rfl (by first | omega | (simp only [ByteArray.size_append]; omega)) ?_; go_simp)))
  refine lex_eff' (sp := OwnSp w.heap.size (arpB op sm dm si di)) rfl rfl (by intro _ _ _ _ h; exact h) (fun m W hJ hF => ?_) (fun v x hh => ?_) rfl
  · have rr := ArgRow.rd (hF 17 (by kernel_rfl) _ _ _ rfl rfl)
    have r0 : Rd W (some ⟨b0, 0, none⟩) (List.map bV ([0, 1, 8, 0, 6, 4, 0])) := ConstRow.rd (hF 0 (by kernel_rfl) _ _ _ rfl rfl)
    have r4 := BsSp.rd (hF 4 (by kernel_rfl) _ _ _ rfl rfl)
    have r7 := BsSp.rd (hF 7 (by kernel_rfl) _ _ _ rfl rfl)
    have r10 := BsSp.rd (hF 10 (by kernel_rfl) _ _ _ rfl rfl)
    have r13 := BsSp.rd (hF 13 (by kernel_rfl) _ _ _ rfl rfl)
    have r16 := BsSp.rd (hF 16 (by kernel_rfl) _ _ _ rfl rfl)
    have hpc : pcs [⟨some ⟨b0, 0, none⟩, 7, [0, 1, 8, 0, 6, 4, 0]⟩, ⟨A4, c4, beN op 1⟩, ⟨A7, c7, sb sm⟩, ⟨A10, c10, beN si 4⟩, ⟨A13, c13, sb dm⟩, ⟨A16, c16, beN di 4⟩] = arpB op sm dm si di := by simp [pcs, arpB]
    refine gives_call Try.call111 ((concat_ok _ 6 [⟨some ⟨b0, 0, none⟩, 7, [0, 1, 8, 0, 6, 4, 0]⟩, ⟨A4, c4, beN op 1⟩, ⟨A7, c7, sb sm⟩, ⟨A10, c10, beN si 4⟩, ⟨A13, c13, sb dm⟩, ⟨A16, c16, beN di 4⟩] W rr (by intro p hp; simp only [List.mem_cons, List.not_mem_nil, or_false] at hp; rcases hp with rfl | rfl | rfl | rfl | rfl | rfl <;> assumption) (by simp) (by simp [pcs, sb_len, beN_len, sb_append]; omega)).mono ?_)
    rintro e w' ⟨v, rfl, h1, h2⟩
    rw [hpc] at h1
    exact ⟨v, rfl, hJ.step h2, LeK.of h2, own_base h1 (Nat.le_trans hB0.size hJ.size)⟩
  obtain ⟨_, _, -, -, -⟩ := hh
  (repeat (first | (refine lex_pure rfl rfl (fun K hK => ?_); go_simp; refine hK _ ?_; clear hK K; try simp (disch := omega) only [IntWalk.i64_in, IntWalk.u8_in, Int.add_sub_cancel, Int.tmod_eq_emod_of_nonneg, Int.tdiv_eq_ediv_of_nonneg]) | (refine lex_load rfl rfl _ (fun m W hJ hF => (by have cc := hcell W hJ; go_simp; rfl)) ?_; try simp (disch := omega) only [IntWalk.i64_in, IntWalk.u8_in, Int.add_sub_cancel, Int.tmod_eq_emod_of_nonneg, Int.tdiv_eq_ediv_of_nonneg]) | (refine lex_sadd rfl rfl rfl rfl rfl (by first | omega | (simp only [ByteArray.size_append]; omega)) ?_; go_simp)))
  refine lex_nil (fun m W hJ hF => ?_)
  have hown := hF 18 rfl _ _ _ rfl rfl
  have hB := Below.trans hB0 (Below.mono hJ hB0.size)
  clear hF hJ hcell
  go_wp2
  go_ret
  exact ⟨_, rfl, hown, hB⟩

def l02ArpBytesφ (op si di : Nat) : Nat → Option Spec
  | 2 => some (fun _ v _ => v = .string (bstr (beN (op) 2)))
  | 9 => some (fun _ v _ => v = .string (bstr (beN (si) 4)))
  | 16 => some (fun _ v _ => v = .string (bstr (beN (di) 4)))
  | _ => none

theorem l02ArpBytes_ok (op : Nat) (sm dm : ByteArray) (si di : Nat) (hop : op < 256) (hs : si < 4294967296) (hd : di < 4294967296) (hl : sm.size + dm.size ≤ 1000000) (w : World) :
    Calls Try.prog 60 #[.agg #[.int .i64 op, .string sm, .string dm, .int .i64 si, .int .i64 di]] w fun e w' => e = .returned (.string (bstr (arpB op sm dm si di))) ∧ Below w.heap.size w w' := by
  go_enter Try.func60, Try.ntmps60
  go_wp2
  generalize hw0 : World.alloc w (.cells #[.int .i64 op, .string sm, .string dm, .int .i64 si, .int .i64 di] 31) = w0
  have hblk : w0.heap[World.heap w |>.size]? = some (.cells #[.int .i64 op, .string sm, .string dm, .int .i64 si, .int .i64 di] 31 (0, 0)) := by rw [← hw0]; exact heap_alloc_new _ _
  have hlt : (World.heap w).size < w0.heap.size := (Array.getElem?_eq_some_iff.1 hblk).1
  have hB0 : Below (World.heap w).size w w0 := by rw [← hw0]; exact (Below.refl _ _).alloc (Nat.le_refl _) _
  clear hw0
  have hcell : ∀ W, Below w0.heap.size w0 W → ∀ j, W.cell? ⟨w.heap.size, j, none⟩ = #[Value.int .i64 op, .string sm, .string dm, .int .i64 si, .int .i64 di][j]? := fun W hW j => (hW.cell hlt).trans (blk_cell hblk j)
  clear hblk
  have hlit : (⟨#[0, 1, 8, 0, 6, 4]⟩ : ByteArray).size = 6 := rfl
  refine wp_region_lex 19 (by kernel_rfl) (by kernel_rfl) (JB w0) LeB (l02ArpBytesφ op si di) ?_ JB.mono ?_ ?_
  · intro j sp x v W W' hj hL h
    unfold l02ArpBytesφ at hj
    split at hj <;> first | (cases hj; first | exact h | exact BsSp.st hL h | exact ArgRow.st hL h | exact OwnSp.st hL h | exact AllocSp.st hL h) | cases hj
  · exact (Below.refl _ _).drew
  simp only [List.take_succ_cons, List.take_zero, List.drop_succ_cons, List.drop_zero, pairs, List.zipIdx_cons, List.zipIdx_nil, List.map_cons, List.map_nil, Nat.zero_add, Nat.reduceAdd]
  (repeat (first | (refine lex_pure rfl rfl (fun K hK => ?_); go_simp; refine hK _ ?_; clear hK K; try simp (disch := omega) only [IntWalk.i64_in, IntWalk.u8_in, Int.add_sub_cancel, Int.tmod_eq_emod_of_nonneg, Int.tdiv_eq_ediv_of_nonneg]) | (refine lex_load rfl rfl _ (fun m W hJ hF => (by have cc := hcell W hJ; go_simp; rfl)) ?_; try simp (disch := omega) only [IntWalk.i64_in, IntWalk.u8_in, Int.add_sub_cancel, Int.tmod_eq_emod_of_nonneg, Int.tdiv_eq_ediv_of_nonneg]) | (refine lex_sadd rfl rfl rfl rfl rfl (by first | omega | (simp only [ByteArray.size_append]; omega)) ?_; go_simp)))
  refine lex_eff' (sp := fun _ v _ => v = .string (bstr (beN (op) 2))) rfl rfl (by intro _ _ _ _ h; exact h) (fun m W hJ hF => ?_) (fun v x hh => ?_) rfl
  · refine gives_call Try.call114 ((l01Number_ok (op) 2 W (by omega) (by omega)).mono ?_)
    rintro e w' ⟨rfl, h2⟩
    exact ⟨_, rfl, hJ.step h2, LeB.of h2, rfl⟩
  obtain ⟨_, _, -, rfl, -⟩ := hh
  have hz2 : (bstr (beN (op) 2)).size = 2 := by rw [bstr_size, beN_len]
  (repeat (first | (refine lex_pure rfl rfl (fun K hK => ?_); go_simp; refine hK _ ?_; clear hK K; try simp (disch := omega) only [IntWalk.i64_in, IntWalk.u8_in, Int.add_sub_cancel, Int.tmod_eq_emod_of_nonneg, Int.tdiv_eq_ediv_of_nonneg]) | (refine lex_load rfl rfl _ (fun m W hJ hF => (by have cc := hcell W hJ; go_simp; rfl)) ?_; try simp (disch := omega) only [IntWalk.i64_in, IntWalk.u8_in, Int.add_sub_cancel, Int.tmod_eq_emod_of_nonneg, Int.tdiv_eq_ediv_of_nonneg]) | (refine lex_sadd rfl rfl rfl rfl rfl (by first | omega | (simp only [ByteArray.size_append]; omega)) ?_; go_simp)))
  refine lex_eff' (sp := fun _ v _ => v = .string (bstr (beN (si) 4))) rfl rfl (by intro _ _ _ _ h; exact h) (fun m W hJ hF => ?_) (fun v x hh => ?_) rfl
  · refine gives_call Try.call114 ((l01Number_ok (si) 4 W (by omega) (by omega)).mono ?_)
    rintro e w' ⟨rfl, h2⟩
    exact ⟨_, rfl, hJ.step h2, LeB.of h2, rfl⟩
  obtain ⟨_, _, -, rfl, -⟩ := hh
  have hz9 : (bstr (beN (si) 4)).size = 4 := by rw [bstr_size, beN_len]
  (repeat (first | (refine lex_pure rfl rfl (fun K hK => ?_); go_simp; refine hK _ ?_; clear hK K; try simp (disch := omega) only [IntWalk.i64_in, IntWalk.u8_in, Int.add_sub_cancel, Int.tmod_eq_emod_of_nonneg, Int.tdiv_eq_ediv_of_nonneg]) | (refine lex_load rfl rfl _ (fun m W hJ hF => (by have cc := hcell W hJ; go_simp; rfl)) ?_; try simp (disch := omega) only [IntWalk.i64_in, IntWalk.u8_in, Int.add_sub_cancel, Int.tmod_eq_emod_of_nonneg, Int.tdiv_eq_ediv_of_nonneg]) | (refine lex_sadd rfl rfl rfl rfl rfl (by first | omega | (simp only [ByteArray.size_append]; omega)) ?_; go_simp)))
  refine lex_eff' (sp := fun _ v _ => v = .string (bstr (beN (di) 4))) rfl rfl (by intro _ _ _ _ h; exact h) (fun m W hJ hF => ?_) (fun v x hh => ?_) rfl
  · refine gives_call Try.call114 ((l01Number_ok (di) 4 W (by omega) (by omega)).mono ?_)
    rintro e w' ⟨rfl, h2⟩
    exact ⟨_, rfl, hJ.step h2, LeB.of h2, rfl⟩
  obtain ⟨_, _, -, rfl, -⟩ := hh
  have hz16 : (bstr (beN (di) 4)).size = 4 := by rw [bstr_size, beN_len]
  (repeat (first | (refine lex_pure rfl rfl (fun K hK => ?_); go_simp; refine hK _ ?_; clear hK K; try simp (disch := omega) only [IntWalk.i64_in, IntWalk.u8_in, Int.add_sub_cancel, Int.tmod_eq_emod_of_nonneg, Int.tdiv_eq_ediv_of_nonneg]) | (refine lex_load rfl rfl _ (fun m W hJ hF => (by have cc := hcell W hJ; go_simp; rfl)) ?_; try simp (disch := omega) only [IntWalk.i64_in, IntWalk.u8_in, Int.add_sub_cancel, Int.tmod_eq_emod_of_nonneg, Int.tdiv_eq_ediv_of_nonneg]) | (refine lex_sadd rfl rfl rfl rfl rfl (by first | omega | (simp only [ByteArray.size_append]; omega)) ?_; go_simp)))
  refine lex_nil (fun m W hJ hF => ?_)
  have hB := Below.trans hB0 (Below.mono hJ hB0.size)
  clear hF hJ hcell
  have hfin : (⟨#[0, 1, 8, 0, 6, 4]⟩ : ByteArray) ++ bstr (beN op 2) ++ sm ++ bstr (beN si 4) ++ dm ++ bstr (beN di 4) = bstr (arpB op sm dm si di) := by
    have e1 : (⟨#[0, 1, 8, 0, 6, 4]⟩ : ByteArray) = bstr [0, 1, 8, 0, 6, 4] := rfl
    have e2 : beN op 2 = 0 :: beN op 1 := by
      show UInt8.ofNat (op / 256 ^ 1 % 256) :: beN op 1 = _
      rw [show op / 256 ^ 1 % 256 = 0 by omega]; rfl
    rw [e1, e2, arpB]
    conv => lhs; rw [← bstr_sb sm, ← bstr_sb dm]
    simp only [bstr_append, List.append_assoc]
    rfl
  have HF := Lib.hid hfin
  clear hfin
  go_wp2
  go_ret
  exact ⟨by rw [← HF.out]; rfl, hB⟩
end Go.Proofs.Ytdenjmdngmmodaa
