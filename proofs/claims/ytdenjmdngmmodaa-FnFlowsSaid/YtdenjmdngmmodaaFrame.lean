/- Frames and questions for macs, drawn. -/
import Derived.Test.YtdenjmdngmmodaaDraw
import Derived.Test.YtdenjmdngmmodaaLex
namespace Go.Proofs.Ytdenjmdngmmodaa
open Go.RowKit
set_option linter.unusedVariables false
set_option linter.unusedSimpArgs false

/-- Drawing in a region whose order is open: at most 3 bytes an operation. -/
def JSrc (g : Nat) (N0 : Int) (w0 : World) (n m : Nat) (w : World) : Prop := m ≤ n ∧ ∃ N : Int, N ≤ N0 + 3 * ((n : Int) - m) ∧ Src w g N ∧ w0.grownBy w (some g)
def LeG (g : Nat) (w w' : World) : Prop := w.grownBy w' (some g)
/-- A new row of known cells. -/
def RowSp (g : Nat) (cs : Array Value) (E : TypeId) : Spec := fun _ v w => ∃ gg, v = .slice (some ⟨gg, 0, none⟩) cs.size cs.size ∧ gg ≠ g ∧ w.heap[gg]? = some (.cells cs E (0, 0))
theorem RowSp.st {g : Nat} {cs : Array Value} {E : TypeId} {x : Array Value} {v : Value} {w w' : World} (hL : LeG g w w') (h : RowSp g cs E x v w) : RowSp g cs E x v w' := by
  obtain ⟨gg, h1, h2, h3⟩ := h
  exact ⟨gg, h1, h2, (hL.block gg (Array.getElem?_eq_some_iff.1 h3).1 (by simpa using h2)).trans h3⟩
theorem JSrc.mono {g : Nat} {N0 : Int} {w0 : World} {n : Nat} (m : Nat) (w : World) (h : JSrc g N0 w0 n (m + 1) w) : JSrc g N0 w0 n m w := by
  obtain ⟨h1, N, h2, h3⟩ := h
  exact ⟨by omega, N, by omega, h3⟩
theorem JSrc.alloc {g : Nat} {N0 : Int} {w0 : World} {n m : Nat} {w : World} (h : JSrc g N0 w0 n (m + 1) w) (o : Obj) : JSrc g N0 w0 n m (w.alloc o) := by
  obtain ⟨h1, N, h2, h3, h4⟩ := h
  exact ⟨by omega, N, by omega, src_alloc h3 o, World.grownBy.trans h4 (World.grownBy_alloc _ _ _)⟩
theorem JSrc.call {g : Nat} {N0 N : Int} {w0 : World} {n m : Nat} {w w1 : World} (h1 : m + 1 ≤ n) (h2 : N ≤ N0 + 3 * ((n : Int) - (m + 1 : Nat))) (h3 : Src w1 g (N + 3)) (h4 : w.grownBy w1 (some g)) (h5 : w0.grownBy w (some g)) : JSrc g N0 w0 n m w1 :=
  ⟨by omega, N + 3, by omega, h3, World.grownBy.trans h5 h4⟩

def frameφ (g : Nat) : Nat → Option Spec
  | 1 => some fun _ v _ => MacV v
  | 3 => some fun _ v _ => MacV v
  | 4 => some (RowSp g #[.int .i64 2048, .int .i64 2054] 3)
  | 6 => some fun _ v _ => InN 2 v
  | 10 => some (RowSp g #[.string ⟨#[]⟩, .string ⟨#[98, 111, 100, 121]⟩, .string ⟨#[97, 98, 99]⟩] 9)
  | 11 => some fun _ v _ => ∃ s ∈ [bstr [], bstr [98, 111, 100, 121], bstr [97, 98, 99]], v = .string s
  | _ => none
theorem RowSp.cell {g : Nat} {cs : Array Value} {E : TypeId} {x : Array Value} {b n : Nat} {w : World} (h : RowSp g cs E x (.slice (some ⟨b, 0, none⟩) n n) w) (k : Nat) (hk : k < cs.size) : w.cell? ⟨b, k, none⟩ = some cs[k] := by
  obtain ⟨gg, h1, h2, h3⟩ := h
  injection h1 with h1
  injection h1 with h1
  injection h1 with h1
  subst h1
  rw [cell_of_row w b k cs E (0, 0) h3]
  simp [hk]
theorem RowSp.rd {g : Nat} {cs : Array Value} {E : TypeId} {x : Array Value} {b n : Nat} {w : World} (h : RowSp g cs E x (.slice (some ⟨b, 0, none⟩) n n) w) : b ≠ g ∧ Rd w (some ⟨b, 0, none⟩) cs.toList := by
  obtain ⟨gg, h1, h2, h3⟩ := h
  injection h1 with h1
  injection h1 with h1
  injection h1 with h1
  subst h1
  exact ⟨h2, by simpa using Rd.block h3 0⟩
theorem LeG.of {g : Nat} {w w' : World} (h : w.grownBy w' (some g)) : LeG g w w' := h

def FrameV (v : Value) : Prop := ∃ (a b : ByteArray) (k : Int) (c : ByteArray), MacS a ∧ MacS b ∧ (k = 2048 ∨ k = 2054) ∧ c ∈ [bstr [], bstr [98, 111, 100, 121], bstr [97, 98, 99]] ∧ v = .agg #[.string a, .string b, .int .i64 k, .string c]

set_option maxRecDepth 20000 in
set_option maxHeartbeats 1000000 in
theorem frame_ok (g : Nat) (N : Int) (w : World) (hs : Src w g N) (hN : N ≤ 1000000) :
    Calls Try.prog 50 #[.pointer (some ⟨g, 0, none⟩)] w (SrcRet w g (N + 39) FrameV) := by
  have hlt := hs.lt
  go_enter Try.func50, Try.ntmps50
  go_wp2
  generalize hw0 : w.alloc (.cells #[.string ⟨#[]⟩, .string ⟨#[]⟩, .int .i64 0, .string ⟨#[]⟩] 24) = w0
  have H0 := Lib.hid hw0
  clear hw0
  refine wp_region_lex 13 (by kernel_rfl) (by kernel_rfl) (JSrc g N w0 13) (LeG g) (frameφ g) ?_ JSrc.mono ?_ ?_
  · intro j sp x v W W' hj hL h
    unfold frameφ at hj
    split at hj <;> first | (cases hj; exact h) | (cases hj; exact h.st hL) | cases hj
  · exact ⟨Nat.le_refl _, N, by omega, by rw [← H0.out]; exact src_drew (src_alloc hs _), ⟨rfl, rfl, rfl, Nat.le_refl _, fun _ _ _ => rfl⟩⟩
  simp only [List.take_succ_cons, List.take_zero, List.drop_succ_cons, List.drop_zero, pairs, List.zipIdx_cons, List.zipIdx_nil, List.map_cons, List.map_nil, Nat.zero_add, Nat.reduceAdd]
  (repeat (refine lex_pure rfl rfl (fun K hK => ?_); go_simp; refine hK _ ?_; clear hK K; try simp (disch := omega) only [IntWalk.i64_in, IntWalk.u8_in, Int.add_sub_cancel, Int.tmod_eq_emod_of_nonneg, Int.tdiv_eq_ediv_of_nonneg]))
  refine lex_eff' rfl rfl (fun _ _ _ _ h => h) (fun m W hJ hF => ?_) (fun v1 x hh => ?_) rfl
  · obtain ⟨hm, M, hM, hs1, hg1⟩ := hJ
    refine gives_call Try.call74 ((mac_ok g M W hs1 (by omega)).mono ?_)
    rintro e w' ⟨v, rfl, hv, hs2, hg2⟩; exact ⟨v, rfl, JSrc.call hm hM hs2 hg2 hg1, hg2, hv⟩
  obtain ⟨_, _, -, ⟨m1, hm1, rfl⟩, -⟩ := hh
  (repeat (refine lex_pure rfl rfl (fun K hK => ?_); go_simp; refine hK _ ?_; clear hK K; try simp (disch := omega) only [IntWalk.i64_in, IntWalk.u8_in, Int.add_sub_cancel, Int.tmod_eq_emod_of_nonneg, Int.tdiv_eq_ediv_of_nonneg]))
  refine lex_eff' rfl rfl (fun _ _ _ _ h => h) (fun m W hJ hF => ?_) (fun v2 x hh => ?_) rfl
  · obtain ⟨hm, M, hM, hs1, hg1⟩ := hJ
    refine gives_call Try.call74 ((mac_ok g M W hs1 (by omega)).mono ?_)
    rintro e w' ⟨v, rfl, hv, hs2, hg2⟩; exact ⟨v, rfl, JSrc.call hm hM hs2 hg2 hg1, hg2, hv⟩
  obtain ⟨_, _, -, ⟨m2, hm2, rfl⟩, -⟩ := hh
  (repeat (refine lex_pure rfl rfl (fun K hK => ?_); go_simp; refine hK _ ?_; clear hK K; try simp (disch := omega) only [IntWalk.i64_in, IntWalk.u8_in, Int.add_sub_cancel, Int.tmod_eq_emod_of_nonneg, Int.tdiv_eq_ediv_of_nonneg]))
  refine lex_eff' rfl rfl (fun _ _ _ _ h => h) (fun m W hJ hF => gives_value (by go_simp) ⟨hJ.alloc _, World.grownBy_alloc _ _ _, _, rfl, by have := hJ.2.choose_spec.2.1.lt; omega, heap_alloc_new _ _⟩) (fun v3 x hh => ?_) rfl
  obtain ⟨_, _, -, ⟨b3, rfl, hb3, -⟩, -⟩ := hh
  (repeat (refine lex_pure rfl rfl (fun K hK => ?_); go_simp; refine hK _ ?_; clear hK K; try simp (disch := omega) only [IntWalk.i64_in, IntWalk.u8_in, Int.add_sub_cancel, Int.tmod_eq_emod_of_nonneg, Int.tdiv_eq_ediv_of_nonneg]))
  refine lex_eff' rfl rfl (fun _ _ _ _ h => h) (fun m W hJ hF => ?_) (fun v4 x hh => ?_) rfl
  · obtain ⟨hm, M, hM, hs1, hg1⟩ := hJ
    refine gives_call Try.call109 ((next_ok g M 2 W hs1 (by omega) (by omega)).mono ?_)
    rintro e w' ⟨v, rfl, hv, hs2, hg2⟩; exact ⟨v, rfl, JSrc.call hm hM hs2 hg2 hg1, hg2, hv⟩
  obtain ⟨_, _, -, ⟨y, rfl, hy0, hy1⟩, -⟩ := hh
  obtain ⟨k, rfl⟩ := Int.eq_ofNat_of_zero_le hy0
  have hk : (k : Int) < 2 := by omega
  have hk2 : k < 2 := by omega
  clear hy1
  (repeat (refine lex_pure rfl rfl (fun K hK => ?_); go_simp; refine hK _ ?_; clear hK K; try simp (disch := omega) only [IntWalk.i64_in, IntWalk.u8_in, Int.add_sub_cancel, Int.tmod_eq_emod_of_nonneg, Int.tdiv_eq_ediv_of_nonneg]))
  refine lex_load rfl rfl (.int .i64 (if k = 0 then 2048 else 2054)) (fun m W hJ hF => ?_) ?_
  · have h1 := RowSp.cell (hF 4 (by kernel_rfl) _ _ _ rfl rfl) k hk2
    have h2 : #[Value.int .i64 2048, Value.int .i64 2054][k] = .int .i64 (if k = 0 then 2048 else 2054) := by
      have : k = 0 ∨ k = 1 := by omega
      rcases this with rfl | rfl <;> rfl
    rw [h2] at h1
    go_simp
  have hn : (if k = 0 then (2048 : Int) else 2054) = 2048 ∨ (if k = 0 then (2048 : Int) else 2054) = 2054 := by split <;> simp
  generalize (if k = 0 then (2048 : Int) else 2054) = n at *
  have Hn := Lib.hid hn
  clear hn
  (repeat (refine lex_pure rfl rfl (fun K hK => ?_); go_simp; refine hK _ ?_; clear hK K; try simp (disch := omega) only [IntWalk.i64_in, IntWalk.u8_in, Int.add_sub_cancel, Int.tmod_eq_emod_of_nonneg, Int.tdiv_eq_ediv_of_nonneg]))
  refine lex_eff' rfl rfl (fun _ _ _ _ h => h) (fun m W hJ hF => gives_value (by go_simp) ⟨hJ.alloc _, World.grownBy_alloc _ _ _, _, rfl, by have := hJ.2.choose_spec.2.1.lt; omega, heap_alloc_new _ _⟩) (fun v5 x hh => ?_) rfl
  obtain ⟨_, _, -, ⟨b5, rfl, hb5, -⟩, -⟩ := hh
  (repeat (refine lex_pure rfl rfl (fun K hK => ?_); go_simp; refine hK _ ?_; clear hK K; try simp (disch := omega) only [IntWalk.i64_in, IntWalk.u8_in, Int.add_sub_cancel, Int.tmod_eq_emod_of_nonneg, Int.tdiv_eq_ediv_of_nonneg]))
  refine lex_eff' rfl rfl (fun _ _ _ _ h => h) (fun m W hJ hF => ?_) (fun v6 x hh => ?_) rfl
  · obtain ⟨hm, M, hM, hs1, hg1⟩ := hJ
    obtain ⟨-, hr⟩ := RowSp.rd (hF 10 (by kernel_rfl) _ _ _ rfl rfl)
    refine gives_call Try.call110 ((pick_ok g M W hs1 (by omega) _ _ [bstr [], bstr [98, 111, 100, 121], bstr [97, 98, 99]] (by simp) (by simp) (fun ad e => by cases e; exact hb5) hr).mono ?_)
    rintro e w' ⟨v, rfl, hv, hs2, hg2⟩; exact ⟨v, rfl, JSrc.call hm hM hs2 hg2 hg1, hg2, hv⟩
  obtain ⟨_, _, -, ⟨t, ht, rfl⟩, -⟩ := hh
  (repeat (refine lex_pure rfl rfl (fun K hK => ?_); go_simp; refine hK _ ?_; clear hK K; try simp (disch := omega) only [IntWalk.i64_in, IntWalk.u8_in, Int.add_sub_cancel, Int.tmod_eq_emod_of_nonneg, Int.tdiv_eq_ediv_of_nonneg]))
  refine lex_nil ?_
  intro m W hJ hF
  obtain ⟨hm, M, hM, hs1, hg1⟩ := hJ
  clear hF
  have hB : W.heap[w.heap.size]? = some (.cells #[.string ⟨#[]⟩, .string ⟨#[]⟩, .int .i64 0, .string ⟨#[]⟩] 24 (0, 0)) := by
    rw [hg1.block _ (by rw [← H0.out]; simp) (by simp; omega), ← H0.out]; exact heap_alloc_new _ _
  have c0 := blk_cell hB 0
  have c1 := blk_cell hB 1
  have c2 := blk_cell hB 2
  have c3 := blk_cell hB 3
  have f0 := blk_free hB 0
  have f1 := blk_free hB 1
  have f2 := blk_free hB 2
  have f3 := blk_free hB 3
  have HB := Lib.hid hB
  clear hB
  simp at c0 c1 c2 c3
  go_wp2
  have hB4 := blk_set (blk_set (blk_set (blk_set HB.out 0 (.string m1)) 1 (.string m2)) 2 (.int .i64 n)) 3 (.string t)
  have hS4 := (((hs1.setCell ⟨w.heap.size, 0, none⟩ hlt (.string m1)).setCell ⟨w.heap.size, 1, none⟩ hlt (.string m2)).setCell ⟨w.heap.size, 2, none⟩ hlt (.int .i64 n)).setCell ⟨w.heap.size, 3, none⟩ hlt (.string t)
  have hG4 : w.grownBy ((((W.setCell ⟨w.heap.size, 0, none⟩ (.string m1)).setCell ⟨w.heap.size, 1, none⟩ (.string m2)).setCell ⟨w.heap.size, 2, none⟩ (.int .i64 n)).setCell ⟨w.heap.size, 3, none⟩ (.string t)) (some g) := by
    have hw0 : w.grownBy w0 (some g) := by rw [← H0.out]; exact World.grownBy_alloc _ _ _
    have h1 := World.grownBy.trans hw0 hg1
    exact grown_setCell (grown_setCell (grown_setCell (grown_setCell h1 (Nat.le_refl _) _) (Nat.le_refl _) _) (Nat.le_refl _) _) (Nat.le_refl _) _
  generalize (((W.setCell ⟨w.heap.size, 0, none⟩ (.string m1)).setCell ⟨w.heap.size, 1, none⟩ (.string m2)).setCell ⟨w.heap.size, 2, none⟩ (.int .i64 n)).setCell ⟨w.heap.size, 3, none⟩ (.string t) = W4 at *
  have e0 := blk_cell hB4 0
  have e1 := blk_cell hB4 1
  have e2 := blk_cell hB4 2
  have e3 := blk_cell hB4 3
  clear c0 c1 c2 c3 f0 f1 f2 f3 hg1
  simp at e0 e1 e2 e3
  refine bodyPost_ret (v := .agg #[.string m1, .string m2, .int .i64 n, .string t]) (by simp [results, Try.results50, go_sem, e0, e1, e2, e3]) rfl ?_
  exact ⟨_, rfl, ⟨_, _, _, _, hm1, hm2, Hn.out, ht, rfl⟩, hS4.more (by omega), hG4⟩
end Go.Proofs.Ytdenjmdngmmodaa
