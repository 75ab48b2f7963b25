/- Frames: their bytes, and back. | Frames: the two ways to their bytes. | Frames read. | Frames and questions for macs, drawn. | The sums over bytes: both ways. -/
import Derived.Test.YtdenjmdngmmodaaKc00
namespace Go.Proofs.Ytdenjmdngmmodaa
open Go.RowKit
set_option linter.unusedVariables false
set_option linter.unusedSimpArgs false
set_option maxRecDepth 20000
set_option maxHeartbeats 1000000

def OwnSp (base : Nat) (bs : List UInt8) : Spec := fun _ v w => w.ownsRow base 5 1 v bs.length (bs.map bV)
theorem OwnSp.st {base : Nat} {bs : List UInt8} {x : Array Value} {v : Value} {w w' : World} (hL : LeB w w') (h : OwnSp base bs x v w) : OwnSp base bs x v w' :=
  h.kept (grownBy_of_below hL none) (by cases v.ownBlock <;> simp)

theorem OwnSp.stK {kc : Array Value} {base : Nat} {bs : List UInt8} {x : Array Value} {v : Value} {w w' : World} (hL : LeK kc w w') (h : OwnSp base bs x v w) (hk : kc.size < bs.length) : OwnSp base bs x v w' := by
  obtain ⟨h1, h2⟩ := h
  refine ⟨h1, ?_⟩
  rcases h2 with h2 | ⟨g, cap, cur, e1, hb, hg, hn, hm, hs, ht⟩
  · exact .inl h2
  · refine .inr ⟨g, cap, cur, e1, hb, ?_, hn, hm, hs, ht⟩
    rcases hL.2 g (Array.getElem?_eq_some_iff.1 hg).1 with e | ⟨E', f1, f2, e2, e3⟩
    · exact e.trans hg
    · rw [hg] at e2
      injection e2 with e2
      injection e2 with e2
      subst e2
      omega

def frameB (d s : ByteArray) (k : Nat) (b : ByteArray) : List UInt8 := sb (d ++ s) ++ (beN k 2 ++ sb b)
def frameBytesφ (base : Nat) (d s : ByteArray) (k : Nat) (b : ByteArray) : Nat → Option Spec
  | 5 => some (BsSp (sb (d ++ s)))
  | 8 => some (BsSp (beN k 2))
  | 11 => some (BsSp (sb b))
  | 12 => some (ArgRow 22)
  | 13 => some (OwnSp base (frameB d s k b))
  | _ => none

theorem frameBytes_ok (d s : ByteArray) (k : Nat) (b : ByteArray) (hk : k < 65536) (hl : d.size + s.size + b.size ≤ 1000000) (w : World) :
    Calls Try.prog 52 #[.agg #[.string d, .string s, .int .i64 k, .string b]] w fun e w' => ∃ v, e = .returned v ∧ w'.ownsRow w.heap.size 5 1 v (frameB d s k b).length ((frameB d s k b).map bV) ∧ Below w.heap.size w w' := by
  go_enter Try.func52, Try.ntmps52
  go_wp2
  generalize hw0 : w.alloc (.cells #[.string d, .string s, .int .i64 k, .string b] 24) = w0
  have hblk : w0.heap[w.heap.size]? = some (.cells #[.string d, .string s, .int .i64 k, .string b] 24 (0, 0)) := by rw [← hw0]; exact heap_alloc_new _ _
  have hlt : w.heap.size < w0.heap.size := (Array.getElem?_eq_some_iff.1 hblk).1
  have hB0 : Below w.heap.size w w0 := by rw [← hw0]; exact (Below.refl _ _).alloc (Nat.le_refl _) _
  have hcell : ∀ W, Below w0.heap.size w0 W → ∀ j, W.cell? ⟨w.heap.size, j, none⟩ = #[Value.string d, .string s, .int .i64 k, .string b][j]? := fun W hW j => (hW.cell hlt).trans (blk_cell hblk j)
  clear hw0 hblk
  refine wp_region_lex 15 (by kernel_rfl) (by kernel_rfl) (JB w0) LeB (frameBytesφ w.heap.size d s k b) ?_ JB.mono ?_ ?_
  · intro j sp x v W W' hj hL h
    unfold frameBytesφ at hj
    split at hj <;> first | (cases hj; first | exact BsSp.st hL h | exact ArgRow.st hL h | exact OwnSp.st hL h) | cases hj
  · exact (Below.refl _ _).drew
  simp only [List.take_succ_cons, List.take_zero, List.drop_succ_cons, List.drop_zero, pairs, List.zipIdx_cons, List.zipIdx_nil, List.map_cons, List.map_nil, Nat.zero_add, Nat.reduceAdd]
  have hsd : (d.size : Int) ≤ 8388608 := by omega
  have hss : (s.size : Int) ≤ 8388608 := by omega
  (repeat (first | (refine lex_pure rfl rfl (fun K hK => ?_); go_simp; refine hK _ ?_; clear hK K; try simp (disch := omega) only [IntWalk.i64_in, IntWalk.u8_in, Int.add_sub_cancel, Int.tmod_eq_emod_of_nonneg, Int.tdiv_eq_ediv_of_nonneg]) | (refine lex_load rfl rfl _ (fun m W hJ hF => (by have cc := hcell W hJ; go_simp; rfl)) ?_; try simp (disch := omega) only [IntWalk.i64_in, IntWalk.u8_in, Int.add_sub_cancel, Int.tmod_eq_emod_of_nonneg, Int.tdiv_eq_ediv_of_nonneg]) | (refine lex_sadd rfl rfl rfl rfl rfl (by first | omega | (simp only [ByteArray.size_append]; omega)) ?_; go_simp)))
  refine lexB_conv rfl rfl rfl rfl rfl LeB.of (fun A1 c1 hc1 => ?_)
  (repeat (first | (refine lex_pure rfl rfl (fun K hK => ?_); go_simp; refine hK _ ?_; clear hK K; try simp (disch := omega) only [IntWalk.i64_in, IntWalk.u8_in, Int.add_sub_cancel, Int.tmod_eq_emod_of_nonneg, Int.tdiv_eq_ediv_of_nonneg]) | (refine lex_load rfl rfl _ (fun m W hJ hF => (by have cc := hcell W hJ; go_simp; rfl)) ?_; try simp (disch := omega) only [IntWalk.i64_in, IntWalk.u8_in, Int.add_sub_cancel, Int.tmod_eq_emod_of_nonneg, Int.tdiv_eq_ediv_of_nonneg]) | (refine lex_sadd rfl rfl rfl rfl rfl (by first | omega | (simp only [ByteArray.size_append]; omega)) ?_; go_simp)))
  refine lex_eff' (sp := BsSp (beN k 2)) rfl rfl (by intro _ _ _ _ h; exact h) (fun m W hJ hF => ?_) (fun v x hh => ?_) rfl
  · refine gives_call Try.call112 ((be_ok k 2 W (by omega) (by omega)).mono ?_)
    rintro e w' ⟨rfl, h1, h2⟩
    exact ⟨_, rfl, hJ.step h2, h2, _, _, by rw [beN_len], by rw [beN_len]; exact Nat.le_refl _, by simpa using Rd.block h1 0⟩
  obtain ⟨_, _, -, ⟨A2, c2, rfl, hc2, -⟩, -⟩ := hh
  (repeat (first | (refine lex_pure rfl rfl (fun K hK => ?_); go_simp; refine hK _ ?_; clear hK K; try simp (disch := omega) only [IntWalk.i64_in, IntWalk.u8_in, Int.add_sub_cancel, Int.tmod_eq_emod_of_nonneg, Int.tdiv_eq_ediv_of_nonneg]) | (refine lex_load rfl rfl _ (fun m W hJ hF => (by have cc := hcell W hJ; go_simp; rfl)) ?_; try simp (disch := omega) only [IntWalk.i64_in, IntWalk.u8_in, Int.add_sub_cancel, Int.tmod_eq_emod_of_nonneg, Int.tdiv_eq_ediv_of_nonneg]) | (refine lex_sadd rfl rfl rfl rfl rfl (by first | omega | (simp only [ByteArray.size_append]; omega)) ?_; go_simp)))
  refine lexB_conv rfl rfl rfl rfl rfl LeB.of (fun A3 c3 hc3 => ?_)
  (repeat (first | (refine lex_pure rfl rfl (fun K hK => ?_); go_simp; refine hK _ ?_; clear hK K; try simp (disch := omega) only [IntWalk.i64_in, IntWalk.u8_in, Int.add_sub_cancel, Int.tmod_eq_emod_of_nonneg, Int.tdiv_eq_ediv_of_nonneg]) | (refine lex_load rfl rfl _ (fun m W hJ hF => (by have cc := hcell W hJ; go_simp; rfl)) ?_; try simp (disch := omega) only [IntWalk.i64_in, IntWalk.u8_in, Int.add_sub_cancel, Int.tmod_eq_emod_of_nonneg, Int.tdiv_eq_ediv_of_nonneg]) | (refine lex_sadd rfl rfl rfl rfl rfl (by first | omega | (simp only [ByteArray.size_append]; omega)) ?_; go_simp)))
  refine lexB_row #[.slice A1 (sb (d ++ s)).length c1, .slice A2 (beN k 2).length c2, .slice A3 (sb b).length c3] rfl rfl (by simp [argsOf, Op.operands, Act.put, Act.eval]) LeB.of (fun W => by go_simp) (fun b4 => ?_)
  (repeat (first | (refine lex_pure rfl rfl (fun K hK => ?_); go_simp; refine hK _ ?_; clear hK K; try simp (disch := omega) only [IntWalk.i64_in, IntWalk.u8_in, Int.add_sub_cancel, Int.tmod_eq_emod_of_nonneg, Int.tdiv_eq_ediv_of_nonneg]) | (refine lex_load rfl rfl _ (fun m W hJ hF => (by have cc := hcell W hJ; go_simp; rfl)) ?_; try simp (disch := omega) only [IntWalk.i64_in, IntWalk.u8_in, Int.add_sub_cancel, Int.tmod_eq_emod_of_nonneg, Int.tdiv_eq_ediv_of_nonneg]) | (refine lex_sadd rfl rfl rfl rfl rfl (by first | omega | (simp only [ByteArray.size_append]; omega)) ?_; go_simp)))
  refine lex_eff' (sp := OwnSp w.heap.size (frameB d s k b)) rfl rfl (by intro _ _ _ _ h; exact h) (fun m W hJ hF => ?_) (fun v x hh => ?_) rfl
  · have r4 := ArgRow.rd (hF 12 (by kernel_rfl) _ _ _ rfl rfl)
    have r1 := BsSp.rd (hF 5 (by kernel_rfl) _ _ _ rfl rfl)
    have r2 := BsSp.rd (hF 8 (by kernel_rfl) _ _ _ rfl rfl)
    have r3 := BsSp.rd (hF 11 (by kernel_rfl) _ _ _ rfl rfl)
    have hpc : pcs [⟨A1, c1, sb (d ++ s)⟩, ⟨A2, c2, beN k 2⟩, ⟨A3, c3, sb b⟩] = frameB d s k b := by simp [pcs, frameB]
    refine gives_call Try.call111 ((concat_ok _ 3 [⟨A1, c1, sb (d ++ s)⟩, ⟨A2, c2, beN k 2⟩, ⟨A3, c3, sb b⟩] W r4 (by simp [r1, r2, r3]) (by simp) (by simp [pcs, sb_len, beN_len, sb_append]; omega)).mono ?_)
    rintro e w' ⟨v, rfl, h1, h2⟩
    rw [hpc] at h1
    exact ⟨v, rfl, hJ.step h2, h2, own_base h1 (Nat.le_trans hB0.size hJ.size)⟩
  obtain ⟨_, _, -, -, -⟩ := hh
  (repeat (first | (refine lex_pure rfl rfl (fun K hK => ?_); go_simp; refine hK _ ?_; clear hK K; try simp (disch := omega) only [IntWalk.i64_in, IntWalk.u8_in, Int.add_sub_cancel, Int.tmod_eq_emod_of_nonneg, Int.tdiv_eq_ediv_of_nonneg]) | (refine lex_load rfl rfl _ (fun m W hJ hF => (by have cc := hcell W hJ; go_simp; rfl)) ?_; try simp (disch := omega) only [IntWalk.i64_in, IntWalk.u8_in, Int.add_sub_cancel, Int.tmod_eq_emod_of_nonneg, Int.tdiv_eq_ediv_of_nonneg]) | (refine lex_sadd rfl rfl rfl rfl rfl (by first | omega | (simp only [ByteArray.size_append]; omega)) ?_; go_simp)))
  refine lex_nil (fun m W hJ hF => ?_)
  have hown := hF 13 rfl _ _ _ rfl rfl
  have hB := Below.trans hB0 (Below.mono hJ hB0.size)
  clear hF hJ hcell
  go_wp2
  go_ret
  exact ⟨_, rfl, hown, hB⟩
end Go.Proofs.Ytdenjmdngmmodaa
namespace Go.Proofs.Ytdenjmdngmmodaa
open Go.RowKit
set_option linter.unusedVariables false
set_option linter.unusedSimpArgs false
set_option maxRecDepth 20000
set_option maxHeartbeats 1000000

theorem macOK_ok (s : ByteArray) (w : World) : Calls Try.prog 51 #[.string s] w fun e w' => e = .returned (.bool ((s.size : Int) == 6)) ∧ w = w' := by
  go_enter Try.func51, Try.ntmps51
  go_wp2
  go_ret
  exact ⟨rfl, rfl⟩
theorem l01Mac_ok (s : ByteArray) (w : World) : Calls Try.prog 113 #[.string s] w fun e w' => e = .returned (.bool ((s.size : Int) == 6)) ∧ w = w' := by
  go_enter Try.func113, Try.ntmps113
  go_wp2
  go_ret
  exact ⟨rfl, rfl⟩
theorem mac_true {s : ByteArray} (h : s.size = 6) : ((s.size : Int) == 6) = true := by rw [h]; rfl

theorem beN_get (n : Nat) : ∀ (size j : Nat) (h : j < size), (beN n size)[j]'(by rw [beN_len]; exact h) = UInt8.ofNat (n / 256 ^ (size - 1 - j) % 256)
  | size + 1, 0, _ => by simp [beN]
  | size + 1, j + 1, h => by
    simp only [beN, List.getElem_cons_succ]
    rw [beN_get n size j (by omega), show size + 1 - 1 - (j + 1) = size - 1 - j by omega]

theorem l01Number_ok (n size : Nat) (w : World) (hn : n < 9223372036854775808) (hs : size ≤ 8) :
    Calls Try.prog 114 #[.int .i64 n, .int .i64 size] w fun e w' => e = .returned (.string (bstr (beN n size))) ∧ Below w.heap.size w w' := by
  go_enter Try.func114, Try.ntmps114
  go_wp2
  generalize hW : w.alloc _ = W
  have hown : W.ownsRow w.heap.size 5 1 (.slice (some ⟨w.heap.size, 0, none⟩) 0 0) ([] : List UInt8).length (([] : List UInt8).map bV) := by rw [← hW]; exact World.ownsRow_lit w #[] 0 (Nat.le_refl _) (by simp [maxLen]) (by simp)
  have hB : Below w.heap.size w W := by rw [← hW]; exact (Below.refl _ _).alloc (Nat.le_refl _) _
  clear hW
  go_loopw [5, 6] (fun v i wr => ∃ j : Nat, j ≤ size ∧ i = .int .i64 ((size : Int) - 1 - j) ∧ wr.ownsRow w.heap.size 5 1 v ((beN n size).take j).length (((beN n size).take j).map bV) ∧ Below w.heap.size w wr) (fun _ i _ => (intOf i + 1).toNat)
  case atStart => exact ⟨0, Nat.zero_le _, by simp, hown, hB⟩
  case round =>
    obtain ⟨j, hj, rfl, hown, hB⟩ := hrel
    by_cases hlt : j < size
    · obtain ⟨i, hi⟩ : ∃ i : Nat, (size : Int) - 1 - j = i := ⟨size - 1 - j, by omega⟩
      have hi2 : i = size - 1 - j := by omega
      have hi7 : i ≤ 7 := by omega
      rw [hi]
      have hi0 : (0 : Int) ≤ i := by omega
      have hu := shr_byte n i
      have hsn : (beN n size).take (j + 1) = (beN n size).take j ++ [UInt8.ofNat (n / 256 ^ i % 256)] := by
        rw [List.take_succ_eq_append_getElem (by rw [beN_len]; exact hlt), beN_get n size j hlt, hi2]
      have hl : ((beN n size).take j).length ≤ 8 := by rw [List.length_take, beN_len]; omega
      have hrun : ∀ X, X = Value.int .u8 ((UInt8.ofNat (n / 256 ^ i % 256)).toNat : Int) → ∃ v' w', (Builtin.append_ #[22, 22] 22 #[u5, .slice (some ⟨wr.heap.size, 0, none⟩) 1 1]).run Try.prog (wr.alloc (.cells #[X] 5)) = .ok v' w' ∧
          w'.ownsRow w.heap.size 5 1 v' ((beN n size).take (j + 1)).length (((beN n size).take (j + 1)).map bV) ∧ Below w.heap.size w w' := by
        rintro X rfl
        have h1 := append_bytes (wr.alloc (.cells #[bV (UInt8.ofNat (n / 256 ^ i % 256))] 5)) w.heap.size u5 ((beN n size).take j) (hown.alloc _) (some ⟨wr.heap.size, 0, none⟩) 1 [UInt8.ofNat (n / 256 ^ i % 256)]
          (by simpa using Rd.block (heap_alloc_new wr (.cells #[bV (UInt8.ofNat (n / 256 ^ i % 256))] 5)) 0) (by simp; omega) (by simp; have := hB.size; omega)
        obtain ⟨v', w', h2, h3, h4⟩ := h1
        rw [← hsn] at h3
        exact ⟨v', w', h2, h3, (hB.alloc hB.size _).grown h4 (by simp; have := hB.size; omega) (fun g hg => (hown.lt g hg).1)⟩
      have HR := Lib.hid hrun
      have Hi := Lib.hid (And.intro hi (And.intro hi2 hu))
      have HO := Lib.hid hown
      clear hrun hi hi2 hown hsn hu
      go_wp2_with (at_builtin; (obtain ⟨v', w2, hr, ho, hb⟩ := HR.out _ (by rw [← Hi.out.2.2]); refine wpList_append_run rfl _ _ _ _ rfl rfl rfl hr ?_); clear hr)
      go_roundw
      case rel =>
        refine ⟨j + 1, by omega, ?_, ho, hb⟩
        rw [show (i : Int) - 1 = (size : Int) - 1 - ((j + 1 : Nat) : Int) from by have := Hi.out.1; omega]
      case measure => simp [intOf]
    · obtain rfl : j = size := by omega
      rw [List.take_of_length_le (by rw [beN_len]; exact Nat.le_refl _)] at hown
      obtain ⟨A, c, rfl, hc, hr, -⟩ := own_slice hown
      have hcv := bytes_str A _ c (beN n j) rfl wr hr
      rw [beN_len] at hcv
      go_wp2
      rw [beN_len, hcv]
      go_wp2
      go_ret
      exact ⟨rfl, hB⟩

structure FrameOK (d s : ByteArray) (k : Nat) (b : ByteArray) : Prop where
  dst : d.size = 6
  src : s.size = 6
  kind : k = 2048 ∨ k = 2054
  body : b.size ≤ 400
theorem l02Frame_true (d s : ByteArray) (k : Nat) (b : ByteArray) (h : FrameOK d s k b) (w : World) :
    Calls Try.prog 53 #[.agg #[.string d, .string s, .int .i64 k, .string b]] w fun e w' => e = .returned (.bool true) ∧ Below w.heap.size w w' := by
  have h1 := mac_true h.dst
  have h2 := mac_true h.src
  have h3 : (b.size : Int) ≤ 400 := by have := h.body; omega
  have hk := h.kind
  clear h
  rcases hk with rfl | rfl
  all_goals
    go_enter Try.func53, Try.ntmps53
    go_wp2_with fail
    refine (l01Mac_ok d _).mono ?_
    rintro e w1 ⟨rfl, rfl⟩
    rw [h1]
    go_wp2_with fail
    refine (l01Mac_ok s _).mono ?_
    rintro e w1 ⟨rfl, rfl⟩
    rw [h2]
    go_wp2
    go_ret
    exact ⟨rfl, (Below.refl _ _).alloc (Nat.le_refl _) _⟩

def l02FrameBytesφ (k : Nat) : Nat → Option Spec
  | 7 => some fun _ v _ => v = .string (bstr (beN k 2))
  | _ => none
theorem l02FrameBytes_ok (d s : ByteArray) (k : Nat) (b : ByteArray) (hk : k < 65536) (hl : d.size + s.size + b.size ≤ 1000000) (w : World) :
    Calls Try.prog 54 #[.agg #[.string d, .string s, .int .i64 k, .string b]] w fun e w' => e = .returned (.string (bstr (frameB d s k b))) ∧ Below w.heap.size w w' := by
  go_enter Try.func54, Try.ntmps54
  go_wp2
  generalize hw0 : w.alloc (.cells #[.string d, .string s, .int .i64 k, .string b] 24) = w0
  have hblk : w0.heap[w.heap.size]? = some (.cells #[.string d, .string s, .int .i64 k, .string b] 24 (0, 0)) := by rw [← hw0]; exact heap_alloc_new _ _
  have hlt : w.heap.size < w0.heap.size := (Array.getElem?_eq_some_iff.1 hblk).1
  have hB0 : Below w.heap.size w w0 := by rw [← hw0]; exact (Below.refl _ _).alloc (Nat.le_refl _) _
  have hcell : ∀ W, Below w0.heap.size w0 W → ∀ j, W.cell? ⟨w.heap.size, j, none⟩ = #[Value.string d, .string s, .int .i64 k, .string b][j]? := fun W hW j => (hW.cell hlt).trans (blk_cell hblk j)
  clear hw0 hblk
  have hz : (bstr (beN k 2)).size = 2 := by rw [bstr_size, beN_len]
  refine wp_region_lex 13 (by kernel_rfl) (by kernel_rfl) (JB w0) LeB (l02FrameBytesφ k) ?_ JB.mono ?_ ?_
  · intro j sp x v W W' hj hL h
    unfold l02FrameBytesφ at hj
    split at hj <;> first | (cases hj; exact h) | cases hj
  · exact (Below.refl _ _).drew
  simp only [List.take_succ_cons, List.take_zero, List.drop_succ_cons, List.drop_zero, pairs, List.zipIdx_cons, List.zipIdx_nil, List.map_cons, List.map_nil, Nat.zero_add, Nat.reduceAdd]
  (repeat (first | (refine lex_pure rfl rfl (fun K hK => ?_); go_simp; refine hK _ ?_; clear hK K; try simp (disch := omega) only [IntWalk.i64_in, IntWalk.u8_in, Int.add_sub_cancel, Int.tmod_eq_emod_of_nonneg, Int.tdiv_eq_ediv_of_nonneg]) | (refine lex_load rfl rfl _ (fun m W hJ hF => (by have cc := hcell W hJ; go_simp; rfl)) ?_; try simp (disch := omega) only [IntWalk.i64_in, IntWalk.u8_in, Int.add_sub_cancel, Int.tmod_eq_emod_of_nonneg, Int.tdiv_eq_ediv_of_nonneg]) | (refine lex_sadd rfl rfl rfl rfl rfl (by first | omega | (simp only [ByteArray.size_append]; omega)) ?_; go_simp)))
  refine lex_eff' (sp := fun _ v _ => v = .string (bstr (beN k 2))) rfl rfl (by intro _ _ _ _ h; exact h) (fun m W hJ hF => ?_) (fun v x hh => ?_) rfl
  · refine gives_call Try.call114 ((l01Number_ok k 2 W (by omega) (by omega)).mono ?_)
    rintro e w' ⟨rfl, h2⟩
    exact ⟨_, rfl, hJ.step h2, h2, rfl⟩
  obtain ⟨_, _, -, rfl, -⟩ := hh
  (repeat (first | (refine lex_pure rfl rfl (fun K hK => ?_); go_simp; refine hK _ ?_; clear hK K; try simp (disch := omega) only [IntWalk.i64_in, IntWalk.u8_in, Int.add_sub_cancel, Int.tmod_eq_emod_of_nonneg, Int.tdiv_eq_ediv_of_nonneg]) | (refine lex_load rfl rfl _ (fun m W hJ hF => (by have cc := hcell W hJ; go_simp; rfl)) ?_; try simp (disch := omega) only [IntWalk.i64_in, IntWalk.u8_in, Int.add_sub_cancel, Int.tmod_eq_emod_of_nonneg, Int.tdiv_eq_ediv_of_nonneg]) | (refine lex_sadd rfl rfl rfl rfl rfl (by first | omega | (simp only [ByteArray.size_append]; omega)) ?_; go_simp)))
  refine lex_nil (fun m W hJ hF => ?_)
  have hB := Below.trans hB0 (Below.mono hJ hB0.size)
  clear hF hJ hcell
  have hfin : d ++ s ++ bstr (beN k 2) ++ b = bstr (frameB d s k b) := by
    rw [frameB, sb_append]
    conv => lhs; rw [← bstr_sb d, ← bstr_sb s, ← bstr_sb b]
    simp only [bstr_append, List.append_assoc]
  have HF := Lib.hid hfin
  clear hfin
  go_wp2
  go_ret
  exact ⟨by rw [← HF.out]; rfl, hB⟩

theorem sFrameBytes_ok (d s : ByteArray) (k : Nat) (b : ByteArray) (h : FrameOK d s k b) (w : World) :
    Calls Try.prog 11 #[.agg #[.string d, .string s, .int .i64 k, .string b]] w fun e w' => ∃ v, e = .returned (.tuple #[v, .int .i64 0]) ∧ BsSp (frameB d s k b) #[] v w' ∧ Below w.heap.size w w' := by
  have hk : k < 65536 := by have := h.kind; omega
  have hl : d.size + s.size + b.size ≤ 1000000 := by have := h.dst; have := h.src; have := h.body; omega
  go_enter Try.func11, Try.ntmps11
  go_wp2_with fail
  generalize hw0 : World.alloc w (.cells #[.string d, .string s, .int .i64 k, .string b] 24) = w0
  have hblk : w0.heap[World.heap w |>.size]? = some (.cells #[.string d, .string s, .int .i64 k, .string b] 24 (0, 0)) := by rw [← hw0]; exact heap_alloc_new _ _
  have hlt : (World.heap w).size < w0.heap.size := (Array.getElem?_eq_some_iff.1 hblk).1
  have hB0 : Below (World.heap w).size w w0 := by rw [← hw0]; exact (Below.refl _ _).alloc (Nat.le_refl _) _
  clear hw0
  refine (l02Frame_true d s k b h _).mono ?_
  rintro e w1 ⟨rfl, hB1⟩
  have hblk1 := (hB1.block _ hlt).trans hblk
  have hB := Below.trans hB0 (hB1.mono hB0.size)
  have c0 := blk_cell hblk1 0
  have c1 := blk_cell hblk1 1
  have c2 := blk_cell hblk1 2
  have c3 := blk_cell hblk1 3
  have HK := Lib.hid (And.intro hblk hblk1)
  clear hblk hblk1
  simp at c0 c1 c2 c3
  go_wp2_with fail
  refine (l02FrameBytes_ok d s k b hk hl _).mono ?_
  rintro e w2 ⟨rfl, hB2⟩
  have hB' := Below.trans hB (hB2.mono hB.size)
  obtain ⟨v, w3, h1, h2, h3⟩ := conv_sb w2 (bstr (frameB d s k b))
  have hB'' := Below.trans hB' (h3.mono hB'.size)
  have H2 := Lib.hid h2
  clear h2 c0 c1 c2 c3
  go_wp2
  go_ret2
  exact ⟨_, rfl, by have := H2.out; rwa [sb_bstr] at this, hB''⟩

theorem iFrameBytes_ok (d s : ByteArray) (k : Nat) (b : ByteArray) (h : FrameOK d s k b) (w : World) :
    Calls Try.prog 10 #[.agg #[.string d, .string s, .int .i64 k, .string b]] w fun e w' => ∃ v, e = .returned (.tuple #[v, .int .i64 0]) ∧ w'.ownsRow w.heap.size 5 1 v (frameB d s k b).length ((frameB d s k b).map bV) ∧ Below w.heap.size w w' := by
  have hk : k < 65536 := by have := h.kind; omega
  have hl : d.size + s.size + b.size ≤ 1000000 := by have := h.dst; have := h.src; have := h.body; omega
  have h1 := mac_true h.dst
  have h2 := mac_true h.src
  have h3 : (b.size : Int) ≤ 400 := by have := h.body; omega
  have hk2 := h.kind
  clear h
  rcases hk2 with rfl | rfl
  all_goals
    go_enter Try.func10, Try.ntmps10
    go_wp2_with fail
    refine (macOK_ok d _).mono ?_
    rintro e w1 ⟨rfl, rfl⟩
    rw [h1]
    go_wp2_with fail
    refine (macOK_ok s _).mono ?_
    rintro e w1 ⟨rfl, rfl⟩
    rw [h2]
    go_wp2_with fail
    refine (frameBytes_ok d s _ b hk hl _).mono ?_
    rintro e w1 ⟨v, rfl, hown, hB⟩
    have hB1 : Below w.heap.size w w1 := Below.trans ((Below.refl _ _).alloc (Nat.le_refl _) _) (hB.mono (by simp))
    have hown1 := own_base hown (B' := w.heap.size) (by simp)
    have HO := Lib.hid hown1
    clear hown hown1 hB
    go_wp2
    go_ret2
    exact ⟨_, rfl, HO.out, hB1⟩
end Go.Proofs.Ytdenjmdngmmodaa
namespace Go.Proofs.Ytdenjmdngmmodaa
open Go.RowKit
set_option linter.unusedVariables false
set_option linter.unusedSimpArgs false
set_option maxRecDepth 20000
set_option maxHeartbeats 1000000

theorem within_ok (n lo hi : Int) (w : World) : Calls Try.prog 80 #[.int .i64 n, .int .i64 lo, .int .i64 hi] w fun e w' => e = .returned (.bool (decide (lo ≤ n ∧ n ≤ hi))) ∧ w = w' := by
  by_cases h1 : lo ≤ n
  · by_cases h2 : n ≤ hi
    · rw [show decide (lo ≤ n ∧ n ≤ hi) = true from by simp [h1, h2]]
      go_enter Try.func80, Try.ntmps80
      go_wp2
      go_ret
      simp
    · rw [show decide (lo ≤ n ∧ n ≤ hi) = false from by simp; omega]
      have h3 : decide (n ≤ hi) = false := by simp; omega
      go_enter Try.func80, Try.ntmps80
      go_wp2
      go_ret
      simp
  · rw [show decide (lo ≤ n ∧ n ≤ hi) = false from by simp; omega]
    have h3 : decide (lo ≤ n) = false := by simp; omega
    go_enter Try.func80, Try.ntmps80
    go_wp2
    go_ret
    simp

structure Fr where
  dst : List UInt8
  src : List UInt8
  kind : Nat
  body : List UInt8
def Fr.v (f : Fr) : Value := .agg #[.string (bstr f.dst), .string (bstr f.src), .int .i64 f.kind, .string (bstr f.body)]
def Fr.zero : Fr := ⟨[], [], 0, []⟩
def frOf (bs : List UInt8) : Fr := ⟨(bs.drop 0).take 6, (bs.drop 6).take 6, numL ((bs.drop 12).take 2), (bs.drop 14).take (bs.length - 14)⟩
/-- What readFrame answers. -/
def rdFrame (bs : List UInt8) : Fr × Int := if bs.length < 14 ∨ 414 < bs.length then (.zero, 3) else if (frOf bs).kind = 2048 ∨ (frOf bs).kind = 2054 then (frOf bs, 0) else (.zero, 10)

def AllocSp (base : Nat) (cs : Array Value) (E : TypeId) : Spec := fun _ v w => ∃ b, v = .pointer (some ⟨b, 0, none⟩) ∧ base ≤ b ∧ w.heap[b]? = some (.cells cs E (0, 0))
theorem AllocSp.st {base : Nat} {cs : Array Value} {E : TypeId} {x : Array Value} {v : Value} {w w' : World} (hL : LeB w w') (h : AllocSp base cs E x v w) : AllocSp base cs E x v w' := by
  obtain ⟨b, h1, h2, h3⟩ := h
  exact ⟨b, h1, h2, (hL.block b (Array.getElem?_eq_some_iff.1 h3).1).trans h3⟩
def zFr : Array Value := #[.string ⟨#[]⟩, .string ⟨#[]⟩, .int .i64 0, .string ⟨#[]⟩]
theorem infoFr : (Try.prog.info? 24).map (·.size) = some 4 := by kernel_rfl
def readFrameφ (base : Nat) (bs : List UInt8) : Nat → Option Spec
  | 8 => some fun _ v _ => v = .int .i64 (numL ((bs.drop 12).take 2))
  | 13 => some (AllocSp base zFr 24)
  | _ => none

theorem readFrame_ok (A : Option Addr) (c : Nat) (bs : List UInt8) (hl : bs.length ≤ 1099511627776) (hc : bs.length ≤ c) (w : World) (hr : Rd w A (bs.map bV)) :
    Calls Try.prog 55 #[.slice A bs.length c] w fun e w' => e = .returned (.tuple #[(rdFrame bs).1.v, .int .i64 (rdFrame bs).2]) ∧ Below w.heap.size w w' := by
  by_cases h14 : 14 ≤ bs.length ∧ bs.length ≤ 414
  · obtain ⟨h14, h414⟩ := h14
    obtain ⟨ad, rfl, -⟩ := hr.at_ (k := 0) (by simp; omega)
    go_enter Try.func55, Try.ntmps55
    go_wp2_with fail
    refine (within_ok _ _ _ _).mono ?_
    rintro e w1 ⟨rfl, rfl⟩
    rw [show decide ((14 : Int) ≤ bs.length ∧ (bs.length : Int) ≤ 414) = true from by simp; omega]
    go_wp2
    have l1 : (6 : Int) ≤ c := by omega
    have l2 : (12 : Int) ≤ c := by omega
    have l3 : (14 : Int) ≤ bs.length := by omega
    have l4 : (14 : Int) ≤ c := by omega
    generalize hw0 : World.alloc w (.cells #[.string ⟨#[]⟩, .string ⟨#[]⟩, .int .i64 0, .string ⟨#[]⟩] 24) = w0
    have hblk : w0.heap[World.heap w |>.size]? = some (.cells #[.string ⟨#[]⟩, .string ⟨#[]⟩, .int .i64 0, .string ⟨#[]⟩] 24 (0, 0)) := by rw [← hw0]; exact heap_alloc_new _ _
    have hlt : (World.heap w).size < w0.heap.size := (Array.getElem?_eq_some_iff.1 hblk).1
    have hB0 : Below (World.heap w).size w w0 := by rw [← hw0]; exact (Below.refl _ _).alloc (Nat.le_refl _) _
    clear hw0
    have hcell : ∀ W, Below w0.heap.size w0 W → (convert 22 9 (.slice (some ad) 6 c)).run Try.prog W = .ok (.string (bstr (frOf bs).dst)) W ∧
        (convert 22 9 (.slice (if c = 6 then some ad else some ⟨ad.block, ad.off + 6, none⟩) 6 (c - 6))).run Try.prog W = .ok (.string (bstr (frOf bs).src)) W ∧
        (convert 22 9 (.slice (if c = 14 then some ad else some ⟨ad.block, ad.off + 14, none⟩) (bs.length - 14) (c - 14))).run Try.prog W = .ok (.string (bstr (frOf bs).body)) W := fun W hW => by
      have hr' := (hr.below hB0 (Nat.le_refl _)).below hW (Nat.le_refl _)
      exact ⟨bytes_str _ _ _ _ (by show ((bs.drop 0).take 6).length = 6; rw [List.length_take, List.length_drop]; omega) _ (by simpa [frOf] using hr'.hd 6), bytes_str _ _ _ _ (by show ((bs.drop 6).take 6).length = 6; rw [List.length_take, List.length_drop]; omega) _ (hr'.sl hc 6 6 (by omega)), bytes_str _ _ _ _ (by simp [frOf]) _ (hr'.sl hc 14 _ (by omega))⟩
    refine wp_region_lex 14 (by kernel_rfl) (by kernel_rfl) (JB w0) LeB (readFrameφ w0.heap.size bs) ?_ JB.mono ?_ ?_
    · intro j sp x v W W' hj hL h
      unfold readFrameφ at hj
      split at hj <;> first | (cases hj; first | exact h | exact AllocSp.st hL h) | cases hj
    · exact (Below.refl _ _).drew
    simp only [List.take_succ_cons, List.take_zero, List.drop_succ_cons, List.drop_zero, pairs, List.zipIdx_cons, List.zipIdx_nil, List.map_cons, List.map_nil, Nat.zero_add, Nat.reduceAdd]
    (repeat (first | (refine lex_pure rfl rfl (fun K hK => ?_); go_simp; refine hK _ ?_; clear hK K; try simp (disch := omega) only [IntWalk.i64_in, IntWalk.u8_in, Int.add_sub_cancel, Int.tmod_eq_emod_of_nonneg, Int.tdiv_eq_ediv_of_nonneg]) | (refine lex_load rfl rfl _ (fun m W hJ hF => (by have cc := hcell W hJ; go_simp; rfl)) ?_; try simp (disch := omega) only [IntWalk.i64_in, IntWalk.u8_in, Int.add_sub_cancel, Int.tmod_eq_emod_of_nonneg, Int.tdiv_eq_ediv_of_nonneg]) | (refine lex_sadd rfl rfl rfl rfl rfl (by first | omega | (simp only [ByteArray.size_append]; omega)) ?_; go_simp)))
    refine lex_eff' (sp := fun _ v _ => v = .int .i64 (numL ((bs.drop 12).take 2))) rfl rfl (by intro _ _ _ _ h; exact h) (fun m W hJ hF => ?_) (fun v x hh => ?_) rfl
    · have hr' := (hr.below hB0 (Nat.le_refl _)).below hJ (Nat.le_refl _)
      have hn : ((bs.drop 12).take 2).length = 2 := by rw [List.length_take, List.length_drop]; omega
      refine gives_call Try.call115 ((hn ▸ num_ok _ (c - 12) ((bs.drop 12).take 2) (by omega) W (hr'.sl hc 12 2 (by omega))).mono ?_)
      rintro e w' ⟨rfl, rfl⟩
      exact ⟨_, rfl, hJ, Below.refl _ _, rfl⟩
    obtain ⟨_, _, -, rfl, -⟩ := hh
    (repeat (first | (refine lex_pure rfl rfl (fun K hK => ?_); go_simp; refine hK _ ?_; clear hK K; try simp (disch := omega) only [IntWalk.i64_in, IntWalk.u8_in, Int.add_sub_cancel, Int.tmod_eq_emod_of_nonneg, Int.tdiv_eq_ediv_of_nonneg]) | (refine lex_load rfl rfl _ (fun m W hJ hF => (by have cc := hcell W hJ; go_simp; rfl)) ?_; try simp (disch := omega) only [IntWalk.i64_in, IntWalk.u8_in, Int.add_sub_cancel, Int.tmod_eq_emod_of_nonneg, Int.tdiv_eq_ediv_of_nonneg]) | (refine lex_sadd rfl rfl rfl rfl rfl (by first | omega | (simp only [ByteArray.size_append]; omega)) ?_; go_simp)))
    refine lex_eff' (sp := AllocSp w0.heap.size zFr 24) rfl rfl (by intro _ _ _ _ h; exact h) (fun m W hJ hF => ?_) (fun v x hh => ?_) rfl
    · have hb : Below W.heap.size W (W.alloc (.cells zFr 24)) := (Below.refl _ _).alloc (Nat.le_refl _) _
      exact gives_value (by go_simp; rfl) ⟨hJ.step hb, hb, _, rfl, hJ.size, heap_alloc_new _ _⟩
    obtain ⟨_, _, -, ⟨b, rfl, hb0, -⟩, -⟩ := hh
    (repeat (first | (refine lex_pure rfl rfl (fun K hK => ?_); go_simp; refine hK _ ?_; clear hK K; try simp (disch := omega) only [IntWalk.i64_in, IntWalk.u8_in, Int.add_sub_cancel, Int.tmod_eq_emod_of_nonneg, Int.tdiv_eq_ediv_of_nonneg]) | (refine lex_load rfl rfl _ (fun m W hJ hF => (by have cc := hcell W hJ; go_simp; rfl)) ?_; try simp (disch := omega) only [IntWalk.i64_in, IntWalk.u8_in, Int.add_sub_cancel, Int.tmod_eq_emod_of_nonneg, Int.tdiv_eq_ediv_of_nonneg]) | (refine lex_sadd rfl rfl rfl rfl rfl (by first | omega | (simp only [ByteArray.size_append]; omega)) ?_; go_simp)))
    refine lex_nil (fun m W hJ hF => ?_)
    obtain ⟨b', e, -, hb⟩ := hF 13 rfl _ _ _ rfl rfl
    obtain rfl : b = b' := by injection e with e; injection e with e; injection e
    have hres := (hJ.block _ hlt).trans hblk
    clear hF e hcell
    generalize (if c = 6 then some ad else _) = A6
    generalize (if c = 12 then some ad else _) = A12
    generalize (if c = 14 then some ad else _) = A14
    have hBW := Below.trans hB0 (Below.mono hJ hB0.size)
    have hbs : w.heap.size < b := by omega
    have hkk : (frOf bs).kind = numL ((bs.drop 12).take 2) := rfl
    generalize numL ((bs.drop 12).take 2) = K at *
    have hne : b ≠ w.heap.size := by omega
    have HH := Lib.hid (And.intro hb (And.intro hres (And.intro hblk hkk)))
    clear hb hres hblk hkk
    refine wpList_store_row rfl _ _ 24 rfl b 24 zFr _ rfl rfl HH.out.1 rfl infoFr rfl ?_
    have hb1 := setRow_heap W b zFr (#[.string (bstr (frOf bs).dst), .string (bstr (frOf bs).src), .int .i64 K, .string (bstr (frOf bs).body)] : Array Value) 24 (0, 0) HH.out.1
    have hr1 := (setRow_other W b w.heap.size (#[.string (bstr (frOf bs).dst), .string (bstr (frOf bs).src), .int .i64 K, .string (bstr (frOf bs).body)] : Array Value) (by omega)).trans HH.out.2.1
    have hB1 : Below w.heap.size w (W.setRow b (#[.string (bstr (frOf bs).dst), .string (bstr (frOf bs).src), .int .i64 K, .string (bstr (frOf bs).body)] : Array Value)) := below_setRow hBW (by omega) _
    generalize W.setRow b _ = W1 at *
    have e0 := blk_cell hb1 0
    have e1 := blk_cell hb1 1
    have e2 := blk_cell hb1 2
    have e3 := blk_cell hb1 3
    simp at e0 e1 e2 e3
    have H1 := Lib.hid (And.intro hb1 hr1)
    clear hb1 hr1 hBW hJ
    by_cases hk1 : K = 2048 ∨ K = 2054
    · have hfin : rdFrame bs = (frOf bs, 0) := by rw [rdFrame, if_neg (by omega), HH.out.2.2.2, if_pos hk1]
      have HF := Lib.hid hfin
      have hv : (frOf bs).v = .agg #[.string (bstr (frOf bs).dst), .string (bstr (frOf bs).src), .int .i64 K, .string (bstr (frOf bs).body)] := by rw [Fr.v, HH.out.2.2.2]
      have HV := Lib.hid hv
      clear hfin hv
      rcases hk1 with rfl | rfl
      all_goals
        go_wp2_with (refine wpList_store_row rfl _ _ 24 rfl w.heap.size 24 _ _ rfl rfl H1.out.2 rfl infoFr rfl ?_)
        refine bodyPost_ret (ret_cell_tmp rfl rfl (setRow_heap _ _ _ _ _ _ H1.out.2) Try.underlying24 rfl infoFr) rfl ?_
        exact ⟨by rw [HF.out, HV.out]; rfl, below_setRow hB1 (Nat.le_refl _) _⟩
    · have hfin : rdFrame bs = (.zero, 10) := by rw [rdFrame, if_neg (by omega), HH.out.2.2.2, if_neg hk1]
      have HF := Lib.hid hfin
      have g1 : ((K : Int) != 2048) = true := by simp; omega
      have g3 : ((K : Int) != 2054) = true := by simp; omega
      have g2 : ((K : Int) == 2048) = false := by simp; omega
      have g4 : ((K : Int) == 2054) = false := by simp; omega
      clear hfin hk1
      go_wp2_with (refine wpList_store_row rfl _ _ 24 rfl w.heap.size 24 _ _ rfl rfl H1.out.2 rfl infoFr rfl ?_)
      refine bodyPost_ret (ret_cell_tmp rfl rfl (setRow_heap _ _ _ _ _ _ H1.out.2) Try.underlying24 rfl infoFr) rfl ?_
      exact ⟨by rw [HF.out]; rfl, below_setRow hB1 (Nat.le_refl _) _⟩
  · have hfin : rdFrame bs = (.zero, 3) := by rw [rdFrame, if_pos (by omega)]
    have HF := Lib.hid hfin
    have hd : decide ((14 : Int) ≤ bs.length ∧ (bs.length : Int) ≤ 414) = false := by simp; omega
    clear hfin h14
    go_enter Try.func55, Try.ntmps55
    go_wp2_with fail
    refine (within_ok _ _ _ _).mono ?_
    rintro e w1 ⟨rfl, rfl⟩
    rw [hd]
    generalize hw0 : World.alloc w (.cells #[.string ⟨#[]⟩, .string ⟨#[]⟩, .int .i64 0, .string ⟨#[]⟩] 24) = w0
    have hblk : w0.heap[World.heap w |>.size]? = some (.cells #[.string ⟨#[]⟩, .string ⟨#[]⟩, .int .i64 0, .string ⟨#[]⟩] 24 (0, 0)) := by rw [← hw0]; exact heap_alloc_new _ _
    have hlt : (World.heap w).size < w0.heap.size := (Array.getElem?_eq_some_iff.1 hblk).1
    have hB0 : Below (World.heap w).size w w0 := by rw [← hw0]; exact (Below.refl _ _).alloc (Nat.le_refl _) _
    clear hw0
    have Hb := Lib.hid hblk
    clear hblk
    go_wp2_with (refine wpList_store_row rfl _ _ 24 rfl w.heap.size 24 _ _ rfl rfl Hb.out rfl infoFr rfl ?_)
    refine bodyPost_ret (ret_cell_tmp rfl rfl (setRow_heap _ _ _ _ _ _ Hb.out) Try.underlying24 rfl infoFr) rfl ?_
    exact ⟨by rw [HF.out]; rfl, below_setRow hB0 (Nat.le_refl _) _⟩

theorem ReadFrame_ok (A : Option Addr) (c : Nat) (bs : List UInt8) (hl : bs.length ≤ 65536) (hc : bs.length ≤ c) (w : World) (hr : Rd w A (bs.map bV)) :
    Calls Try.prog 12 #[.slice A bs.length c] w fun e w' => e = .returned (.tuple #[(rdFrame bs).1.v, .int .i64 (rdFrame bs).2]) ∧ Below w.heap.size w w' := by
  have hl2 : (bs.length : Int) ≤ 65536 := by omega
  go_enter Try.func12, Try.ntmps12
  go_wp2_with fail
  generalize hw0 : World.alloc w (.cells #[.string ⟨#[]⟩, .string ⟨#[]⟩, .int .i64 0, .string ⟨#[]⟩] 24) = w0
  have hblk : w0.heap[World.heap w |>.size]? = some (.cells #[.string ⟨#[]⟩, .string ⟨#[]⟩, .int .i64 0, .string ⟨#[]⟩] 24 (0, 0)) := by rw [← hw0]; exact heap_alloc_new _ _
  have hlt : (World.heap w).size < w0.heap.size := (Array.getElem?_eq_some_iff.1 hblk).1
  have hB0 : Below (World.heap w).size w w0 := by rw [← hw0]; exact (Below.refl _ _).alloc (Nat.le_refl _) _
  clear hw0
  refine (readFrame_ok A c bs (by omega) hc w0 (hr.below hB0 (Nat.le_refl _))).mono ?_
  rintro e w1 ⟨rfl, hB1⟩
  have hb1 := (hB1.block _ hlt).trans hblk
  have hB := Below.trans hB0 (hB1.mono hB0.size)
  have Hb := Lib.hid hb1
  clear hblk hb1
  go_wp2_with (refine wpList_store_row rfl _ _ 24 rfl w.heap.size 24 _ _ rfl rfl Hb.out rfl infoFr rfl ?_)
  refine bodyPost_ret (ret_cell_tmp rfl rfl (setRow_heap _ _ _ _ _ _ Hb.out) Try.underlying24 rfl infoFr) rfl ?_
  exact ⟨rfl, below_setRow hB (Nat.le_refl _) _⟩
end Go.Proofs.Ytdenjmdngmmodaa
namespace Go.Proofs.Ytdenjmdngmmodaa
open Go.RowKit
set_option linter.unusedVariables false
set_option linter.unusedSimpArgs false

/-- Drawing in a region whose order is open: at most 3 bytes an operation. -/
def JSrc (g : Nat) (N0 : Int) (w0 : World) (n m : Nat) (w : World) : Prop := m ≤ n ∧ ∃ N : Int, N ≤ N0 + 3 * ((n : Int) - m) ∧ Src w g N ∧ w0.grownBy w (some g)
def LeG (g : Nat) (w w' : World) : Prop := w.grownBy w' (some g)
/-- A new row of known cells. -/
def RowSp (g : Nat) (cs : Array Value) (E : TypeId) : Spec := fun _ v w => ∃ gg, v = .slice (some ⟨gg, 0, none⟩) cs.size cs.size ∧ gg ≠ g ∧ w.heap[gg]? = some (.cells cs E (0, 0))
theorem RowSp.st {g : Nat} {cs : Array Value} {E : TypeId} {x : Array Value} {v : Value} {w w' : World} (hL : LeG g w w') (h : RowSp g cs E x v w) : RowSp g cs E x v w' := by
  obtain ⟨gg, h1, h2, h3⟩ := h
  exact ⟨gg, h1, h2, (hL.block gg (Array.getElem?_eq_some_iff.1 h3).1 (by simpa using h2)).trans h3⟩
theorem JSrc.mono {g : Nat} {N0 : Int} {w0 : World} {n : Nat} (m : Nat) (w : World) (h : JSrc g N0 w0 n (m + 1) w) : JSrc g N0 w0 n m w := by
  obtain ⟨h1, N, h2, h3⟩ := h
  exact ⟨by omega, N, by omega, h3⟩
theorem JSrc.alloc {g : Nat} {N0 : Int} {w0 : World} {n m : Nat} {w : World} (h : JSrc g N0 w0 n (m + 1) w) (o : Obj) : JSrc g N0 w0 n m (w.alloc o) := by
  obtain ⟨h1, N, h2, h3, h4⟩ := h
  exact ⟨by omega, N, by omega, src_alloc h3 o, World.grownBy.trans h4 (World.grownBy_alloc _ _ _)⟩
theorem JSrc.call {g : Nat} {N0 N : Int} {w0 : World} {n m : Nat} {w w1 : World} (h1 : m + 1 ≤ n) (h2 : N ≤ N0 + 3 * ((n : Int) - (m + 1 : Nat))) (h3 : Src w1 g (N + 3)) (h4 : w.grownBy w1 (some g)) (h5 : w0.grownBy w (some g)) : JSrc g N0 w0 n m w1 :=
  ⟨by omega, N + 3, by omega, h3, World.grownBy.trans h5 h4⟩

def frameφ (g : Nat) : Nat → Option Spec
  | 1 => some fun _ v _ => MacV v
  | 3 => some fun _ v _ => MacV v
  | 4 => some (RowSp g #[.int .i64 2048, .int .i64 2054] 3)
  | 6 => some fun _ v _ => InN 2 v
  | 10 => some (RowSp g #[.string ⟨#[]⟩, .string ⟨#[98, 111, 100, 121]⟩, .string ⟨#[97, 98, 99]⟩] 9)
  | 11 => some fun _ v _ => ∃ s ∈ [bstr [], bstr [98, 111, 100, 121], bstr [97, 98, 99]], v = .string s
  | _ => none
theorem RowSp.cell {g : Nat} {cs : Array Value} {E : TypeId} {x : Array Value} {b n : Nat} {w : World} (h : RowSp g cs E x (.slice (some ⟨b, 0, none⟩) n n) w) (k : Nat) (hk : k < cs.size) : w.cell? ⟨b, k, none⟩ = some cs[k] := by
  obtain ⟨gg, h1, h2, h3⟩ := h
  injection h1 with h1
  injection h1 with h1
  injection h1 with h1
  subst h1
  rw [cell_of_row w b k cs E (0, 0) h3]
  simp [hk]
theorem RowSp.rd {g : Nat} {cs : Array Value} {E : TypeId} {x : Array Value} {b n : Nat} {w : World} (h : RowSp g cs E x (.slice (some ⟨b, 0, none⟩) n n) w) : b ≠ g ∧ Rd w (some ⟨b, 0, none⟩) cs.toList := by
  obtain ⟨gg, h1, h2, h3⟩ := h
  injection h1 with h1
  injection h1 with h1
  injection h1 with h1
  subst h1
  exact ⟨h2, by simpa using Rd.block h3 0⟩
theorem LeG.of {g : Nat} {w w' : World} (h : w.grownBy w' (some g)) : LeG g w w' := h

def FrameV (v : Value) : Prop := ∃ (a b : ByteArray) (k : Int) (c : ByteArray), MacS a ∧ MacS b ∧ (k = 2048 ∨ k = 2054) ∧ c ∈ [bstr [], bstr [98, 111, 100, 121], bstr [97, 98, 99]] ∧ v = .agg #[.string a, .string b, .int .i64 k, .string c]

set_option maxRecDepth 20000 in
set_option maxHeartbeats 1000000 in
theorem frame_ok (g : Nat) (N : Int) (w : World) (hs : Src w g N) (hN : N ≤ 1000000) :
    Calls Try.prog 50 #[.pointer (some ⟨g, 0, none⟩)] w (SrcRet w g (N + 39) FrameV) := by
  have hlt := hs.lt
  go_enter Try.func50, Try.ntmps50
  go_wp2
  generalize hw0 : w.alloc (.cells #[.string ⟨#[]⟩, .string ⟨#[]⟩, .int .i64 0, .string ⟨#[]⟩] 24) = w0
  have H0 := Lib.hid hw0
  clear hw0
  refine wp_region_lex 13 (by kernel_rfl) (by kernel_rfl) (JSrc g N w0 13) (LeG g) (frameφ g) ?_ JSrc.mono ?_ ?_
  · intro j sp x v W W' hj hL h
    unfold frameφ at hj
    split at hj <;> first | (cases hj; exact h) | (cases hj; exact h.st hL) | cases hj
  · exact ⟨Nat.le_refl _, N, by omega, by rw [← H0.out]; exact src_drew (src_alloc hs _), ⟨rfl, rfl, rfl, Nat.le_refl _, fun _ _ _ => rfl⟩⟩
  simp only [List.take_succ_cons, List.take_zero, List.drop_succ_cons, List.drop_zero, pairs, List.zipIdx_cons, List.zipIdx_nil, List.map_cons, List.map_nil, Nat.zero_add, Nat.reduceAdd]
  (repeat (refine lex_pure rfl rfl (fun K hK => ?_); go_simp; refine hK _ ?_; clear hK K; try simp (disch := omega) only [IntWalk.i64_in, IntWalk.u8_in, Int.add_sub_cancel, Int.tmod_eq_emod_of_nonneg, Int.tdiv_eq_ediv_of_nonneg]))
  refine lex_eff' rfl rfl (fun _ _ _ _ h => h) (fun m W hJ hF => ?_) (fun v1 x hh => ?_) rfl
  · obtain ⟨hm, M, hM, hs1, hg1⟩ := hJ
    refine gives_call Try.call74 ((mac_ok g M W hs1 (by omega)).mono ?_)
    rintro e w' ⟨v, rfl, hv, hs2, hg2⟩; exact ⟨v, rfl, JSrc.call hm hM hs2 hg2 hg1, hg2, hv⟩
  obtain ⟨_, _, -, ⟨m1, hm1, rfl⟩, -⟩ := hh
  (repeat (refine lex_pure rfl rfl (fun K hK => ?_); go_simp; refine hK _ ?_; clear hK K; try simp (disch := omega) only [IntWalk.i64_in, IntWalk.u8_in, Int.add_sub_cancel, Int.tmod_eq_emod_of_nonneg, Int.tdiv_eq_ediv_of_nonneg]))
  refine lex_eff' rfl rfl (fun _ _ _ _ h => h) (fun m W hJ hF => ?_) (fun v2 x hh => ?_) rfl
  · obtain ⟨hm, M, hM, hs1, hg1⟩ := hJ
    refine gives_call Try.call74 ((mac_ok g M W hs1 (by omega)).mono ?_)
    rintro e w' ⟨v, rfl, hv, hs2, hg2⟩; exact ⟨v, rfl, JSrc.call hm hM hs2 hg2 hg1, hg2, hv⟩
  obtain ⟨_, _, -, ⟨m2, hm2, rfl⟩, -⟩ := hh
  (repeat (refine lex_pure rfl rfl (fun K hK => ?_); go_simp; refine hK _ ?_; clear hK K; try simp (disch := omega) only [IntWalk.i64_in, IntWalk.u8_in, Int.add_sub_cancel, Int.tmod_eq_emod_of_nonneg, Int.tdiv_eq_ediv_of_nonneg]))
  refine lex_eff' rfl rfl (fun _ _ _ _ h => h) (fun m W hJ hF => gives_value (by go_simp) ⟨hJ.alloc _, World.grownBy_alloc _ _ _, _, rfl, by have := hJ.2.choose_spec.2.1.lt; omega, heap_alloc_new _ _⟩) (fun v3 x hh => ?_) rfl
  obtain ⟨_, _, -, ⟨b3, rfl, hb3, -⟩, -⟩ := hh
  (repeat (refine lex_pure rfl rfl (fun K hK => ?_); go_simp; refine hK _ ?_; clear hK K; try simp (disch := omega) only [IntWalk.i64_in, IntWalk.u8_in, Int.add_sub_cancel, Int.tmod_eq_emod_of_nonneg, Int.tdiv_eq_ediv_of_nonneg]))
  refine lex_eff' rfl rfl (fun _ _ _ _ h => h) (fun m W hJ hF => ?_) (fun v4 x hh => ?_) rfl
  · obtain ⟨hm, M, hM, hs1, hg1⟩ := hJ
    refine gives_call Try.call109 ((next_ok g M 2 W hs1 (by omega) (by omega)).mono ?_)
    rintro e w' ⟨v, rfl, hv, hs2, hg2⟩; exact ⟨v, rfl, JSrc.call hm hM hs2 hg2 hg1, hg2, hv⟩
  obtain ⟨_, _, -, ⟨y, rfl, hy0, hy1⟩, -⟩ := hh
  obtain ⟨k, rfl⟩ := Int.eq_ofNat_of_zero_le hy0
  have hk : (k : Int) < 2 := by omega
  have hk2 : k < 2 := by omega
  clear hy1
  (repeat (refine lex_pure rfl rfl (fun K hK => ?_); go_simp; refine hK _ ?_; clear hK K; try simp (disch := omega) only [IntWalk.i64_in, IntWalk.u8_in, Int.add_sub_cancel, Int.tmod_eq_emod_of_nonneg, Int.tdiv_eq_ediv_of_nonneg]))
  refine lex_load rfl rfl (.int .i64 (if k = 0 then 2048 else 2054)) (fun m W hJ hF => ?_) ?_
  · have h1 := RowSp.cell (hF 4 (by kernel_rfl) _ _ _ rfl rfl) k hk2
    have h2 : #[Value.int .i64 2048, Value.int .i64 2054][k] = .int .i64 (if k = 0 then 2048 else 2054) := by
      have : k = 0 ∨ k = 1 := by omega
      rcases this with rfl | rfl <;> rfl
    rw [h2] at h1
    go_simp
  have hn : (if k = 0 then (2048 : Int) else 2054) = 2048 ∨ (if k = 0 then (2048 : Int) else 2054) = 2054 := by split <;> simp
  generalize (if k = 0 then (2048 : Int) else 2054) = n at *
  have Hn := Lib.hid hn
  clear hn
  (repeat (refine lex_pure rfl rfl (fun K hK => ?_); go_simp; refine hK _ ?_; clear hK K; try simp (disch := omega) only [IntWalk.i64_in, IntWalk.u8_in, Int.add_sub_cancel, Int.tmod_eq_emod_of_nonneg, Int.tdiv_eq_ediv_of_nonneg]))
  refine lex_eff' rfl rfl (fun _ _ _ _ h => h) (fun m W hJ hF => gives_value (by go_simp) ⟨hJ.alloc _, World.grownBy_alloc _ _ _, _, rfl, by have := hJ.2.choose_spec.2.1.lt; omega, heap_alloc_new _ _⟩) (fun v5 x hh => ?_) rfl
  obtain ⟨_, _, -, ⟨b5, rfl, hb5, -⟩, -⟩ := hh
  (repeat (refine lex_pure rfl rfl (fun K hK => ?_); go_simp; refine hK _ ?_; clear hK K; try simp (disch := omega) only [IntWalk.i64_in, IntWalk.u8_in, Int.add_sub_cancel, Int.tmod_eq_emod_of_nonneg, Int.tdiv_eq_ediv_of_nonneg]))
  refine lex_eff' rfl rfl (fun _ _ _ _ h => h) (fun m W hJ hF => ?_) (fun v6 x hh => ?_) rfl
  · obtain ⟨hm, M, hM, hs1, hg1⟩ := hJ
    obtain ⟨-, hr⟩ := RowSp.rd (hF 10 (by kernel_rfl) _ _ _ rfl rfl)
    refine gives_call Try.call110 ((pick_ok g M W hs1 (by omega) _ _ [bstr [], bstr [98, 111, 100, 121], bstr [97, 98, 99]] (by simp) (by simp) (fun ad e => by cases e; exact hb5) hr).mono ?_)
    rintro e w' ⟨v, rfl, hv, hs2, hg2⟩; exact ⟨v, rfl, JSrc.call hm hM hs2 hg2 hg1, hg2, hv⟩
  obtain ⟨_, _, -, ⟨t, ht, rfl⟩, -⟩ := hh
  (repeat (refine lex_pure rfl rfl (fun K hK => ?_); go_simp; refine hK _ ?_; clear hK K; try simp (disch := omega) only [IntWalk.i64_in, IntWalk.u8_in, Int.add_sub_cancel, Int.tmod_eq_emod_of_nonneg, Int.tdiv_eq_ediv_of_nonneg]))
  refine lex_nil ?_
  intro m W hJ hF
  obtain ⟨hm, M, hM, hs1, hg1⟩ := hJ
  clear hF
  have hB : W.heap[w.heap.size]? = some (.cells #[.string ⟨#[]⟩, .string ⟨#[]⟩, .int .i64 0, .string ⟨#[]⟩] 24 (0, 0)) := by
    rw [hg1.block _ (by rw [← H0.out]; simp) (by simp; omega), ← H0.out]; exact heap_alloc_new _ _
  have c0 := blk_cell hB 0
  have c1 := blk_cell hB 1
  have c2 := blk_cell hB 2
  have c3 := blk_cell hB 3
  have f0 := blk_free hB 0
  have f1 := blk_free hB 1
  have f2 := blk_free hB 2
  have f3 := blk_free hB 3
  have HB := Lib.hid hB
  clear hB
  simp at c0 c1 c2 c3
  go_wp2
  have hB4 := blk_set (blk_set (blk_set (blk_set HB.out 0 (.string m1)) 1 (.string m2)) 2 (.int .i64 n)) 3 (.string t)
  have hS4 := (((hs1.setCell ⟨w.heap.size, 0, none⟩ hlt (.string m1)).setCell ⟨w.heap.size, 1, none⟩ hlt (.string m2)).setCell ⟨w.heap.size, 2, none⟩ hlt (.int .i64 n)).setCell ⟨w.heap.size, 3, none⟩ hlt (.string t)
  have hG4 : w.grownBy ((((W.setCell ⟨w.heap.size, 0, none⟩ (.string m1)).setCell ⟨w.heap.size, 1, none⟩ (.string m2)).setCell ⟨w.heap.size, 2, none⟩ (.int .i64 n)).setCell ⟨w.heap.size, 3, none⟩ (.string t)) (some g) := by
    have hw0 : w.grownBy w0 (some g) := by rw [← H0.out]; exact World.grownBy_alloc _ _ _
    have h1 := World.grownBy.trans hw0 hg1
    exact grown_setCell (grown_setCell (grown_setCell (grown_setCell h1 (Nat.le_refl _) _) (Nat.le_refl _) _) (Nat.le_refl _) _) (Nat.le_refl _) _
  generalize (((W.setCell ⟨w.heap.size, 0, none⟩ (.string m1)).setCell ⟨w.heap.size, 1, none⟩ (.string m2)).setCell ⟨w.heap.size, 2, none⟩ (.int .i64 n)).setCell ⟨w.heap.size, 3, none⟩ (.string t) = W4 at *
  have e0 := blk_cell hB4 0
  have e1 := blk_cell hB4 1
  have e2 := blk_cell hB4 2
  have e3 := blk_cell hB4 3
  clear c0 c1 c2 c3 f0 f1 f2 f3 hg1
  simp at e0 e1 e2 e3
  refine bodyPost_ret (v := .agg #[.string m1, .string m2, .int .i64 n, .string t]) (by simp [results, Try.results50, go_sem, e0, e1, e2, e3]) rfl ?_
  exact ⟨_, rfl, ⟨_, _, _, _, hm1, hm2, Hn.out, ht, rfl⟩, hS4.more (by omega), hG4⟩
end Go.Proofs.Ytdenjmdngmmodaa
namespace Go.Proofs.Ytdenjmdngmmodaa
open Go.RowKit
set_option linter.unusedVariables false
set_option linter.unusedSimpArgs false
set_option maxRecDepth 20000
set_option maxHeartbeats 1000000

/-- The sum of words of two bytes; true: the next byte is the upper half. -/
def ws : Bool → List UInt8 → Nat
  | _, [] => 0
  | true, b :: t => b.toNat * 256 + ws false t
  | false, b :: t => b.toNat + ws true t
theorem ws_append (m : List UInt8) : ∀ (l : List UInt8) (p : Bool), ws p (l ++ m) = ws p l + ws (if l.length % 2 = 0 then p else !p) m
  | [], p => by simp [ws]
  | b :: t, true => by
    rw [List.cons_append, ws, ws, ws_append m t false, List.length_cons]
    have : (if t.length % 2 = 0 then false else !false) = (if (t.length + 1) % 2 = 0 then true else !true) := by
      by_cases h : t.length % 2 = 0
      · rw [if_pos h, if_neg (by omega)]; rfl
      · rw [if_neg h, if_pos (by omega)]; rfl
    rw [this]; omega
  | b :: t, false => by
    rw [List.cons_append, ws, ws, ws_append m t true, List.length_cons]
    have : (if t.length % 2 = 0 then true else !true) = (if (t.length + 1) % 2 = 0 then false else !false) := by
      by_cases h : t.length % 2 = 0
      · rw [if_pos h, if_neg (by omega)]; rfl
      · rw [if_neg h, if_pos (by omega)]; rfl
    rw [this]; omega
theorem ws_snoc (l : List UInt8) (b : UInt8) : ws true (l ++ [b]) = ws true l + (if l.length % 2 = 0 then b.toNat * 256 else b.toNat) := by
  rw [ws_append]
  by_cases h : l.length % 2 = 0
  · rw [if_pos h, if_pos h]; rfl
  · rw [if_neg h, if_neg h]; rfl
theorem ws_le : ∀ (l : List UInt8) (p : Bool), ws p l ≤ 65280 * l.length
  | [], p => by cases p <;> simp [ws]
  | b :: t, true => by have := ws_le t false; have := b.toNat_lt; rw [ws, List.length_cons]; omega
  | b :: t, false => by have := ws_le t true; have := b.toNat_lt; rw [ws, List.length_cons]; omega
/-- What is left when what stands over 65535 is added again and again. -/
def f16 (n : Nat) : Nat := if n = 0 then 0 else (n - 1) % 65535 + 1
theorem f16_step (n : Nat) (h : 65536 ≤ n) : f16 (n % 65536 + n / 65536) = f16 n := by unfold f16; rw [if_neg (by omega), if_neg (by omega)]; omega
theorem f16_small (n : Nat) (h : n < 65536) : f16 n = n := by unfold f16; split <;> omega
theorem f16_le (n : Nat) : f16 n ≤ 65535 := by unfold f16; split <;> omega

theorem sum16_ok (A : Option Addr) (c : Nat) (bs : List UInt8) (hl : bs.length ≤ 1000000) (w : World) (hr : Rd w A (bs.map bV)) :
    Calls Try.prog 117 #[.slice A bs.length c] w fun e w' => e = .returned (.int .i64 ((65535 - f16 (ws true bs) : Nat) : Int)) ∧ w = w' := by
  go_enter Try.func117, Try.ntmps117
  go_wp2
  go_loop [3, 8] (fun n i => ∃ k : Nat, k ≤ bs.length ∧ i = .int .i64 k ∧ n = .int .i64 (ws true (bs.take k))) (fun _ i => bs.length - (intOf i).toNat)
  case atStart => exact ⟨0, Nat.zero_le _, rfl, rfl⟩
  case round =>
    obtain ⟨k, hk, rfl, rfl⟩ := hrel
    have hb0 : (ws true (bs.take k) : Int) ≤ 65280000000 := by have := ws_le (bs.take k) true; rw [List.length_take] at this; omega
    by_cases hlt : k < bs.length
    · obtain ⟨ad, rfl, hc⟩ := hr.at_ (k := k) (by simpa using hlt)
      have hc' : w.cell? (ad.add k) = some (.int .u8 (bs[k].toNat : Int)) := by rw [hc]; simp [bV]
      have hs : ws true (bs.take (k + 1)) = ws true (bs.take k) + (if k % 2 = 0 then bs[k].toNat * 256 else bs[k].toNat) := by rw [List.take_succ_eq_append_getElem hlt, ws_snoc, List.length_take, Nat.min_eq_left hk]
      have hu := bs[k].toNat_lt
      have hu1 : (bs[k].toNat : Int) ≤ 255 := by omega
      have hu0 : (0 : Int) ≤ (bs[k].toNat : Int) := by omega
      have HR := Lib.hid hr
      have h3 : (k : Int) < bs.length := by omega
      have hk6 : (k : Int) ≤ 1000000 := by omega
      clear hr hc hu
      by_cases hp : k % 2 = 0
      · rw [if_pos hp] at hs
        have HS := Lib.hid hs
        have t1 : (k : Int).tmod 2 = 0 := by rw [Int.tmod_eq_emod_of_nonneg (by omega)]; omega
        have t2 : (k : Int) % 2 = 0 := by omega
        clear hs hp
        go_wp2
        go_round
        case rel => exact ⟨k + 1, by omega, by go_num, by rw [HS.out]; go_num⟩
        case measure => simp [intOf]; omega
      · rw [if_neg hp] at hs
        have HS := Lib.hid hs
        have t1 : (k : Int).tmod 2 = 1 := by rw [Int.tmod_eq_emod_of_nonneg (by omega)]; omega
        have t2 : (k : Int) % 2 = 1 := by omega
        clear hs hp
        go_wp2
        go_round
        case rel => exact ⟨k + 1, by omega, by go_num, by rw [HS.out]; go_num⟩
        case measure => simp [intOf]; omega
    · obtain rfl : k = bs.length := by omega
      rw [List.take_length] at hb0 ⊢
      go_wp2
      generalize hT : ws true bs = T at *
      have hr' := Lib.hid hr
      have HT := Lib.hid hT
      clear hT
      clear hr hlt hk
      go_loop [3] (fun n => ∃ m : Nat, n = .int .i64 m ∧ m ≤ 65280000000 ∧ f16 m = f16 T) (fun n => (intOf n).toNat)
      case atStart => exact ⟨T, rfl, by omega, rfl⟩
      case round =>
        obtain ⟨m, rfl, hm, hf⟩ := hrel
        have HF := Lib.hid hf
        clear hf
        by_cases hb : 65536 ≤ m
        · have hb' : (65536 : Int) ≤ m := by omega
          have t1 : (m : Int).tmod 65536 = ((m % 65536 : Nat) : Int) := by rw [Int.tmod_eq_emod_of_nonneg (by omega)]; omega
          have t2 : (m : Int) % 65536 = ((m % 65536 : Nat) : Int) := by omega
          have t3 : (m : Int).tdiv 65536 = ((m / 65536 : Nat) : Int) := by rw [Int.tdiv_eq_ediv_of_nonneg (by omega)]; omega
          have t4 : (m : Int) / 65536 = ((m / 65536 : Nat) : Int) := by omega
          have hst := Lib.hid (f16_step m hb)
          have hlt2 : m % 65536 + m / 65536 < m := by omega
          generalize m % 65536 = q at *
          generalize m / 65536 = r at *
          go_wp2
          go_round
          case rel => exact ⟨q + r, by go_num, by omega, by rw [hst.out]; exact HF.out⟩
          case measure => simp [intOf]; omega
        · have hb' : decide ((65536 : Int) ≤ m) = false := by simp; omega
          have hm2 : (m : Int) ≤ 65535 := by omega
          go_wp2
          go_ret
          have := HF.out
          rw [f16_small m (by omega)] at this
          exact ⟨by rw [HT.out, ← this]; show Ending.returned (Value.int IntKind.i64 (65535 - (m : Int))) = _; congr 2; omega, rfl⟩

theorem l01Sum16_ok (bs : List UInt8) (hl : bs.length ≤ 1000000) (w : World) :
    Calls Try.prog 118 #[.string (bstr bs)] w fun e w' => e = .returned (.int .i64 ((65535 - f16 (ws true bs) : Nat) : Int)) ∧ w = w' := by
  have hsz : (bstr bs).size = bs.length := bstr_size bs
  go_enter Try.func118, Try.ntmps118
  go_wp2
  go_loop [3, 4] (fun n i => ∃ k : Nat, k ≤ bs.length ∧ i = .int .i64 k ∧ n = .int .i64 (ws true (bs.take k))) (fun _ i => bs.length - (intOf i).toNat)
  case atStart => exact ⟨0, Nat.zero_le _, rfl, rfl⟩
  case round =>
    obtain ⟨k, hk, rfl, rfl⟩ := hrel
    have hb0 : (ws true (bs.take k) : Int) ≤ 65280000000 := by have := ws_le (bs.take k) true; rw [List.length_take] at this; omega
    by_cases hlt : k < bs.length
    · have hs : ws true (bs.take (k + 1)) = ws true (bs.take k) + (if k % 2 = 0 then bs[k].toNat * 256 else bs[k].toNat) := by rw [List.take_succ_eq_append_getElem hlt, ws_snoc, List.length_take, Nat.min_eq_left hk]
      have hu := bs[k].toNat_lt
      have hu1 : (bs[k].toNat : Int) ≤ 255 := by omega
      have hu0 : (0 : Int) ≤ (bs[k].toNat : Int) := by omega
      have h3 : (k : Int) < bs.length := by omega
      have hk6 : (k : Int) ≤ 1000000 := by omega
      have hg : (bstr bs)[k]'(by rw [hsz]; exact hlt) = bs[k] := by simp [bstr, ByteArray.getElem_eq_getElem_data]
      clear hu
      by_cases hp : k % 2 = 0
      · rw [if_pos hp] at hs
        have HS := Lib.hid hs
        have t1 : (k : Int).tmod 2 = 0 := by rw [Int.tmod_eq_emod_of_nonneg (by omega)]; omega
        have t2 : (k : Int) % 2 = 0 := by omega
        clear hs hp
        go_wp2
        go_round
        case rel => exact ⟨k + 1, by omega, by go_num, by rw [HS.out]; go_num⟩
        case measure => simp [intOf]; omega
      · rw [if_neg hp] at hs
        have HS := Lib.hid hs
        have t1 : (k : Int).tmod 2 = 1 := by rw [Int.tmod_eq_emod_of_nonneg (by omega)]; omega
        have t2 : (k : Int) % 2 = 1 := by omega
        clear hs hp
        go_wp2
        go_round
        case rel => exact ⟨k + 1, by omega, by go_num, by rw [HS.out]; go_num⟩
        case measure => simp [intOf]; omega
    · obtain rfl : k = bs.length := by omega
      rw [List.take_length] at hb0 ⊢
      go_wp2
      generalize hT : ws true bs = T at *
      have HT := Lib.hid hT
      clear hT
      clear hlt hk
      go_loop [3] (fun n => ∃ m : Nat, n = .int .i64 m ∧ m ≤ 65280000000 ∧ f16 m = f16 T) (fun n => (intOf n).toNat)
      case atStart => exact ⟨T, rfl, by omega, rfl⟩
      case round =>
        obtain ⟨m, rfl, hm, hf⟩ := hrel
        have HF := Lib.hid hf
        clear hf
        by_cases hb : 65536 ≤ m
        · have hb' : (65536 : Int) ≤ m := by omega
          have t1 : (m : Int).tmod 65536 = ((m % 65536 : Nat) : Int) := by rw [Int.tmod_eq_emod_of_nonneg (by omega)]; omega
          have t2 : (m : Int) % 65536 = ((m % 65536 : Nat) : Int) := by omega
          have t3 : (m : Int).tdiv 65536 = ((m / 65536 : Nat) : Int) := by rw [Int.tdiv_eq_ediv_of_nonneg (by omega)]; omega
          have t4 : (m : Int) / 65536 = ((m / 65536 : Nat) : Int) := by omega
          have hst := Lib.hid (f16_step m hb)
          have hlt2 : m % 65536 + m / 65536 < m := by omega
          generalize m % 65536 = q at *
          generalize m / 65536 = r at *
          go_wp2
          go_round
          case rel => exact ⟨q + r, by go_num, by omega, by rw [hst.out]; exact HF.out⟩
          case measure => simp [intOf]; omega
        · have hb' : decide ((65536 : Int) ≤ m) = false := by simp; omega
          have hm2 : (m : Int) ≤ 65535 := by omega
          go_wp2
          go_ret
          have := HF.out
          rw [f16_small m (by omega)] at this
          exact ⟨by rw [HT.out, ← this]; show Ending.returned (Value.int IntKind.i64 (65535 - (m : Int))) = _; congr 2; omega, rfl⟩
end Go.Proofs.Ytdenjmdngmmodaa
