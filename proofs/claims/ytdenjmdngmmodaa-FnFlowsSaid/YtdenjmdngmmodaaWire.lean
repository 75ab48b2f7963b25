/- Frames: their bytes, and back. -/
import Derived.Test.YtdenjmdngmmodaaLexB
namespace Go.Proofs.Ytdenjmdngmmodaa
open Go.RowKit
set_option linter.unusedVariables false
set_option linter.unusedSimpArgs false
set_option maxRecDepth 20000
set_option maxHeartbeats 1000000

def OwnSp (base : Nat) (bs : List UInt8) : Spec := fun _ v w => w.ownsRow base 5 1 v bs.length (bs.map bV)
theorem OwnSp.st {base : Nat} {bs : List UInt8} {x : Array Value} {v : Value} {w w' : World} (hL : LeB w w') (h : OwnSp base bs x v w) : OwnSp base bs x v w' :=
  h.kept (grownBy_of_below hL none) (by cases v.ownBlock <;> simp)

theorem OwnSp.stK {kc : Array Value} {base : Nat} {bs : List UInt8} {x : Array Value} {v : Value} {w w' : World} (hL : LeK kc w w') (h : OwnSp base bs x v w) (hk : kc.size < bs.length) : OwnSp base bs x v w' := by
  obtain ⟨h1, h2⟩ := h
  refine ⟨h1, ?_⟩
  rcases h2 with h2 | ⟨g, cap, cur, e1, hb, hg, hn, hm, hs, ht⟩
  · exact .inl h2
  · refine .inr ⟨g, cap, cur, e1, hb, ?_, hn, hm, hs, ht⟩
    rcases hL.2 g (Array.getElem?_eq_some_iff.1 hg).1 with e | ⟨E', f1, f2, e2, e3⟩
    · exact e.trans hg
    · rw [hg] at e2
      injection e2 with e2
      injection e2 with e2
      subst e2
      omega

def frameB (d s : ByteArray) (k : Nat) (b : ByteArray) : List UInt8 := sb (d ++ s) ++ (beN k 2 ++ sb b)
def frameBytesφ (base : Nat) (d s : ByteArray) (k : Nat) (b : ByteArray) : Nat → Option Spec
  | 5 => some (BsSp (sb (d ++ s)))
  | 8 => some (BsSp (beN k 2))
  | 11 => some (BsSp (sb b))
  | 12 => some (ArgRow 22)
  | 13 => some (OwnSp base (frameB d s k b))
  | _ => none

theorem frameBytes_ok (d s : ByteArray) (k : Nat) (b : ByteArray) (hk : k < 65536) (hl : d.size + s.size + b.size ≤ 1000000) (w : World) :
    Calls Try.prog 52 #[.agg #[.string d, .string s, .int .i64 k, .string b]] w fun e w' => ∃ v, e = .returned v ∧ w'.ownsRow w.heap.size 5 1 v (frameB d s k b).length ((frameB d s k b).map bV) ∧ Below w.heap.size w w' := by
  go_enter Try.func52, Try.ntmps52
  go_wp2
  generalize hw0 : w.alloc (.cells #[.string d, .string s, .int .i64 k, .string b] 24) = w0
  have hblk : w0.heap[w.heap.size]? = some (.cells #[.string d, .string s, .int .i64 k, .string b] 24 (0, 0)) := by rw [← hw0]; exact heap_alloc_new _ _
  have hlt : w.heap.size < w0.heap.size := (Array.getElem?_eq_some_iff.1 hblk).1
  have hB0 : Below w.heap.size w w0 := by rw [← hw0]; exact (Below.refl _ _).alloc (Nat.le_refl _) _
  have hcell : ∀ W, Below w0.heap.size w0 W → ∀ j, W.cell? ⟨w.heap.size, j, none⟩ = #[Value.string d, .string s, .int .i64 k, .string b][j]? := fun W hW j => (hW.cell hlt).trans (blk_cell hblk j)
  clear hw0 hblk
  refine wp_region_lex 15 (by kernel_rfl) (by kernel_rfl) (JB w0) LeB (frameBytesφ w.heap.size d s k b) ?_ JB.mono ?_ ?_
  · intro j sp x v W W' hj hL h
    unfold frameBytesφ at hj
    split at hj <;> first | (cases hj; first | exact BsSp.st hL h | exact ArgRow.st hL h | exact OwnSp.st hL h) | cases hj
  · exact (Below.refl _ _).drew
  simp only [List.take_succ_cons, List.take_zero, List.drop_succ_cons, List.drop_zero, pairs, List.zipIdx_cons, List.zipIdx_nil, List.map_cons, List.map_nil, Nat.zero_add, Nat.reduceAdd]
  have hsd : (d.size : Int) ≤ 8388608 := by omega
  have hss : (s.size : Int) ≤ 8388608 := by omega
  (repeat (first | (refine lex_pure rfl rfl (fun K hK => ?_); go_simp; refine hK _ ?_; clear hK K; try simp (disch := omega) only [IntWalk.i64_in, IntWalk.u8_in, Int.add_sub_cancel, Int.tmod_eq_emod_of_nonneg, Int.tdiv_eq_ediv_of_nonneg]) | (refine lex_load rfl rfl _ (fun m W hJ hF => (by have cc := hcell W hJ; go_simp; rfl)) ?_; try simp (disch := omega) only [IntWalk.i64_in, IntWalk.u8_in, Int.add_sub_cancel, Int.tmod_eq_emod_of_nonneg, Int.tdiv_eq_ediv_of_nonneg]) | (refine lex_sadd rfl rfl rfl rfl rfl (by first | omega | (simp only [ByteArray.size_append]; omega)) ?_; go_simp)))
  refine lexB_conv rfl rfl rfl rfl rfl LeB.of (fun A1 c1 hc1 => ?_)
  (repeat (first | (refine lex_pure rfl rfl (fun K hK => ?_); go_simp; refine hK _ ?_; clear hK K; try simp (disch := omega) only [IntWalk.i64_in, IntWalk.u8_in, Int.add_sub_cancel, Int.tmod_eq_emod_of_nonneg, Int.tdiv_eq_ediv_of_nonneg]) | (refine lex_load rfl rfl _ (fun m W hJ hF => (by have cc := hcell W hJ; go_simp; rfl)) ?_; try simp (disch := omega) only [IntWalk.i64_in, IntWalk.u8_in, Int.add_sub_cancel, Int.tmod_eq_emod_of_nonneg, Int.tdiv_eq_ediv_of_nonneg]) | (refine lex_sadd rfl rfl rfl rfl rfl (by first | omega | (simp only [ByteArray.size_append]; omega)) ?_; go_simp)))
  refine lex_eff' (sp := BsSp (beN k 2)) rfl rfl (by intro _ _ _ _ h; exact h) (fun m W hJ hF => ?_) (fun v x hh => ?_) rfl
  · refine gives_call Try.call112 ((be_ok k 2 W (by omega) (by omega)).mono ?_)
    rintro e w' ⟨rfl, h1, h2⟩
    exact ⟨_, rfl, hJ.step h2, h2, _, _, by rw [beN_len], by rw [beN_len]; exact Nat.le_refl _, by simpa using Rd.block h1 0⟩
  obtain ⟨_, _, -, ⟨A2, c2, rfl, hc2, -⟩, -⟩ := hh
  (repeat (first | (refine lex_pure rfl rfl (fun K hK => ?_); go_simp; refine hK _ ?_; clear hK K; try simp (disch := omega) only [IntWalk.i64_in, IntWalk.u8_in, Int.add_sub_cancel, Int.tmod_eq_emod_of_nonneg, Int.tdiv_eq_ediv_of_nonneg]) | (refine lex_load rfl rfl _ (fun m W hJ hF => (by have cc := hcell W hJ; go_simp; rfl)) ?_; try simp (disch := omega) only [IntWalk.i64_in, IntWalk.u8_in, Int.add_sub_cancel, Int.tmod_eq_emod_of_nonneg, Int.tdiv_eq_ediv_of_nonneg]) | (refine lex_sadd rfl rfl rfl rfl rfl (by first | omega | (simp only [ByteArray.size_append]; omega)) ?_; go_simp)))
  refine lexB_conv rfl rfl rfl rfl rfl LeB.of (fun A3 c3 hc3 => ?_)
  (repeat (first | (refine lex_pure rfl rfl (fun K hK => ?_); go_simp; refine hK _ ?_; clear hK K; try simp (disch := omega) only [IntWalk.i64_in, IntWalk.u8_in, Int.add_sub_cancel, Int.tmod_eq_emod_of_nonneg, Int.tdiv_eq_ediv_of_nonneg]) | (refine lex_load rfl rfl _ (fun m W hJ hF => (by have cc := hcell W hJ; go_simp; rfl)) ?_; try simp (disch := omega) only [IntWalk.i64_in, IntWalk.u8_in, Int.add_sub_cancel, Int.tmod_eq_emod_of_nonneg, Int.tdiv_eq_ediv_of_nonneg]) | (refine lex_sadd rfl rfl rfl rfl rfl (by first | omega | (simp only [ByteArray.size_append]; omega)) ?_; go_simp)))
  refine lexB_row #[.slice A1 (sb (d ++ s)).length c1, .slice A2 (beN k 2).length c2, .slice A3 (sb b).length c3] rfl rfl (by simp [argsOf, Op.operands, Act.put, Act.eval]) LeB.of (fun W => by go_simp) (fun b4 => ?_)
  (repeat (first | (refine lex_pure rfl rfl (fun K hK => ?_); go_simp; refine hK _ ?_; clear hK K; try simp (disch := omega) only [IntWalk.i64_in, IntWalk.u8_in, Int.add_sub_cancel, Int.tmod_eq_emod_of_nonneg, Int.tdiv_eq_ediv_of_nonneg]) | (refine lex_load rfl rfl _ (fun m W hJ hF => (by have cc := hcell W hJ; go_simp; rfl)) ?_; try simp (disch := omega) only [IntWalk.i64_in, IntWalk.u8_in, Int.add_sub_cancel, Int.tmod_eq_emod_of_nonneg, Int.tdiv_eq_ediv_of_nonneg]) | (refine lex_sadd rfl rfl rfl rfl rfl (by first | omega | (simp only [ByteArray.size_append]; omega)) ?_; go_simp)))
  refine lex_eff' (sp := OwnSp w.heap.size (frameB d s k b)) rfl rfl (by intro _ _ _ _ h; exact h) (fun m W hJ hF => ?_) (fun v x hh => ?_) rfl
  · have r4 := ArgRow.rd (hF 12 (by kernel_rfl) _ _ _ rfl rfl)
    have r1 := BsSp.rd (hF 5 (by kernel_rfl) _ _ _ rfl rfl)
    have r2 := BsSp.rd (hF 8 (by kernel_rfl) _ _ _ rfl rfl)
    have r3 := BsSp.rd (hF 11 (by kernel_rfl) _ _ _ rfl rfl)
    have hpc : pcs [⟨A1, c1, sb (d ++ s)⟩, ⟨A2, c2, beN k 2⟩, ⟨A3, c3, sb b⟩] = frameB d s k b := by simp [pcs, frameB]
    refine gives_call Try.call111 ((concat_ok _ 3 [⟨A1, c1, sb (d ++ s)⟩, ⟨A2, c2, beN k 2⟩, ⟨A3, c3, sb b⟩] W r4 (by simp [r1, r2, r3]) (by simp) (by simp [pcs, sb_len, beN_len, sb_append]; omega)).mono ?_)
    rintro e w' ⟨v, rfl, h1, h2⟩
    rw [hpc] at h1
    exact ⟨v, rfl, hJ.step h2, h2, own_base h1 (Nat.le_trans hB0.size hJ.size)⟩
  obtain ⟨_, _, -, -, -⟩ := hh
  (repeat (first | (refine lex_pure rfl rfl (fun K hK => ?_); go_simp; refine hK _ ?_; clear hK K; try simp (disch := omega) only [IntWalk.i64_in, IntWalk.u8_in, Int.add_sub_cancel, Int.tmod_eq_emod_of_nonneg, Int.tdiv_eq_ediv_of_nonneg]) | (refine lex_load rfl rfl _ (fun m W hJ hF => (by have cc := hcell W hJ; go_simp; rfl)) ?_; try simp (disch := omega) only [IntWalk.i64_in, IntWalk.u8_in, Int.add_sub_cancel, Int.tmod_eq_emod_of_nonneg, Int.tdiv_eq_ediv_of_nonneg]) | (refine lex_sadd rfl rfl rfl rfl rfl (by first | omega | (simp only [ByteArray.size_append]; omega)) ?_; go_simp)))
  refine lex_nil (fun m W hJ hF => ?_)
  have hown := hF 13 rfl _ _ _ rfl rfl
  have hB := Below.trans hB0 (Below.mono hJ hB0.size)
  clear hF hJ hcell
  go_wp2
  go_ret
  exact ⟨_, rfl, hown, hB⟩
end Go.Proofs.Ytdenjmdngmmodaa
