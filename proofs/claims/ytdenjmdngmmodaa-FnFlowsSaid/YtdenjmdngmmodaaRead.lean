/- Frames read. -/
import Derived.Test.YtdenjmdngmmodaaFr
namespace Go.Proofs.Ytdenjmdngmmodaa
open Go.RowKit
set_option linter.unusedVariables false
set_option linter.unusedSimpArgs false
set_option maxRecDepth 20000
set_option maxHeartbeats 1000000

theorem within_ok (n lo hi : Int) (w : World) : Calls Try.prog 80 #[.int .i64 n, .int .i64 lo, .int .i64 hi] w fun e w' => e = .returned (.bool (decide (lo ≤ n ∧ n ≤ hi))) ∧ w = w' := by
  by_cases h1 : lo ≤ n
  · by_cases h2 : n ≤ hi
    · rw [show decide (lo ≤ n ∧ n ≤ hi) = true from by simp [h1, h2]]
      go_enter Try.func80, Try.ntmps80
      go_wp2
      go_ret
      simp
    · rw [show decide (lo ≤ n ∧ n ≤ hi) = false from by simp; omega]
      have h3 : decide (n ≤ hi) = false := by simp; omega
      go_enter Try.func80, Try.ntmps80
      go_wp2
      go_ret
      simp
  · rw [show decide (lo ≤ n ∧ n ≤ hi) = false from by simp; omega]
    have h3 : decide (lo ≤ n) = false := by simp; omega
    go_enter Try.func80, Try.ntmps80
    go_wp2
    go_ret
    simp

structure Fr where
  dst : List UInt8
  src : List UInt8
  kind : Nat
  body : List UInt8
def Fr.v (f : Fr) : Value := .agg #[.string (bstr f.dst), .string (bstr f.src), .int .i64 f.kind, .string (bstr f.body)]
def Fr.zero : Fr := ⟨[], [], 0, []⟩
def frOf (bs : List UInt8) : Fr := ⟨(bs.drop 0).take 6, (bs.drop 6).take 6, numL ((bs.drop 12).take 2), (bs.drop 14).take (bs.length - 14)⟩
/-- What readFrame answers. -/
def rdFrame (bs : List UInt8) : Fr × Int := if bs.length < 14 ∨ 414 < bs.length then (.zero, 3) else if (frOf bs).kind = 2048 ∨ (frOf bs).kind = 2054 then (frOf bs, 0) else (.zero, 10)

def AllocSp (base : Nat) (cs : Array Value) (E : TypeId) : Spec := fun _ v w => ∃ b, v = .pointer (some ⟨b, 0, none⟩) ∧ base ≤ b ∧ w.heap[b]? = some (.cells cs E (0, 0))
theorem AllocSp.st {base : Nat} {cs : Array Value} {E : TypeId} {x : Array Value} {v : Value} {w w' : World} (hL : LeB w w') (h : AllocSp base cs E x v w) : AllocSp base cs E x v w' := by
  obtain ⟨b, h1, h2, h3⟩ := h
  exact ⟨b, h1, h2, (hL.block b (Array.getElem?_eq_some_iff.1 h3).1).trans h3⟩
def zFr : Array Value := #[.string ⟨#[]⟩, .string ⟨#[]⟩, .int .i64 0, .string ⟨#[]⟩]
theorem infoFr : (Try.prog.info? 24).map (·.size) = some 4 := by kernel_rfl
def readFrameφ (base : Nat) (bs : List UInt8) : Nat → Option Spec
  | 8 => some fun _ v _ => v = .int .i64 (numL ((bs.drop 12).take 2))
  | 13 => some (AllocSp base zFr 24)
  | _ => none

theorem readFrame_ok (A : Option Addr) (c : Nat) (bs : List UInt8) (hl : bs.length ≤ 1099511627776) (hc : bs.length ≤ c) (w : World) (hr : Rd w A (bs.map bV)) :
    Calls Try.prog 55 #[.slice A bs.length c] w fun e w' => e = .returned (.tuple #[(rdFrame bs).1.v, .int .i64 (rdFrame bs).2]) ∧ Below w.heap.size w w' := by
  by_cases h14 : 14 ≤ bs.length ∧ bs.length ≤ 414
  · obtain ⟨h14, h414⟩ := h14
    obtain ⟨ad, rfl, -⟩ := hr.at_ (k := 0) (by simp; omega)
    go_enter Try.func55, Try.ntmps55
    go_wp2_with fail
    refine (within_ok _ _ _ _).mono ?_
    rintro e w1 ⟨rfl, rfl⟩
    rw [show decide ((14 : Int) ≤ bs.length ∧ (bs.length : Int) ≤ 414) = true from by simp; omega]
    go_wp2
    have l1 : (6 : Int) ≤ c := by omega
    have l2 : (12 : Int) ≤ c := by omega
    have l3 : (14 : Int) ≤ bs.length := by omega
    have l4 : (14 : Int) ≤ c := by omega
    generalize hw0 : World.alloc w (.cells #[.string ⟨#[]⟩, .string ⟨#[]⟩, .int .i64 0, .string ⟨#[]⟩] 24) = w0
    have hblk : w0.heap[World.heap w |>.size]? = some (.cells #[.string ⟨#[]⟩, .string ⟨#[]⟩, .int .i64 0, .string ⟨#[]⟩] 24 (0, 0)) := by rw [← hw0]; exact heap_alloc_new _ _
    have hlt : (World.heap w).size < w0.heap.size := (Array.getElem?_eq_some_iff.1 hblk).1
    have hB0 : Below (World.heap w).size w w0 := by rw [← hw0]; exact (Below.refl _ _).alloc (Nat.le_refl _) _
    clear hw0
    have hcell : ∀ W, Below w0.heap.size w0 W → (convert 22 9 (.slice (some ad) 6 c)).run Try.prog W = .ok (.string (bstr (frOf bs).dst)) W ∧
        (convert 22 9 (.slice (if c = 6 then some ad else some ⟨ad.block, ad.off + 6, none⟩) 6 (c - 6))).run Try.prog W = .ok (.string (bstr (frOf bs).src)) W ∧
        (convert 22 9 (.slice (if c = 14 then some ad else some ⟨ad.block, ad.off + 14, none⟩) (bs.length - 14) (c - 14))).run Try.prog W = .ok (.string (bstr (frOf bs).body)) W := fun W hW => by
      have hr' := (hr.below hB0 (Nat.le_refl _)).below hW (Nat.le_refl _)
      exact ⟨bytes_str _ _ _ _ (by show ((bs.drop 0).take 6).length = 6; rw [List.length_take, List.length_drop]; omega) _ (by simpa [frOf] using hr'.hd 6), bytes_str _ _ _ _ (by show ((bs.drop 6).take 6).length = 6; rw [List.length_take, List.length_drop]; omega) _ (hr'.sl hc 6 6 (by omega)), bytes_str _ _ _ _ (by simp [frOf]) _ (hr'.sl hc 14 _ (by omega))⟩
    refine wp_region_lex 14 (by kernel_rfl) (by kernel_rfl) (JB w0) LeB (readFrameφ w0.heap.size bs) ?_ JB.mono ?_ ?_
    · intro j sp x v W W' hj hL h
      unfold readFrameφ at hj
      split at hj <;> first | (cases hj; first | exact h | exact AllocSp.st hL h) | cases hj
    · exact (Below.refl _ _).drew
    simp only [List.take_succ_cons, List.take_zero, List.drop_succ_cons, List.drop_zero, pairs, List.zipIdx_cons, List.zipIdx_nil, List.map_cons, List.map_nil, Nat.zero_add, Nat.reduceAdd]
    (repeat (first | (refine lex_pure rfl rfl (fun K hK => ?_); go_simp; refine hK _ ?_; clear hK K; try simp (disch := omega) only [IntWalk.i64_in, IntWalk.u8_in, Int.add_sub_cancel, Int.tmod_eq_emod_of_nonneg, Int.tdiv_eq_ediv_of_nonneg]) | (refine lex_load rfl rfl _ (fun m W hJ hF => (by have cc := hcell W hJ; go_simp; rfl)) ?_; try simp (disch := omega) only [IntWalk.i64_in, IntWalk.u8_in, Int.add_sub_cancel, Int.tmod_eq_emod_of_nonneg, Int.tdiv_eq_ediv_of_nonneg]) | (refine lex_sadd rfl rfl rfl rfl rfl (by first | omega | (simp only [ByteArray.size_append]; omega)) ?_; go_simp)))
    refine lex_eff' (sp := fun _ v _ => v = .int .i64 (numL ((bs.drop 12).take 2))) rfl rfl (by intro _ _ _ _ h; exact h) (fun m W hJ hF => ?_) (fun v x hh => ?_) rfl
    · have hr' := (hr.below hB0 (Nat.le_refl _)).below hJ (Nat.le_refl _)
      have hn : ((bs.drop 12).take 2).length = 2 := by rw [List.length_take, List.length_drop]; omega
      refine gives_call Try.call115 ((hn ▸ num_ok _ (c - 12) ((bs.drop 12).take 2) (by omega) W (hr'.sl hc 12 2 (by omega))).mono ?_)
      rintro e w' ⟨rfl, rfl⟩
      exact ⟨_, rfl, hJ, Below.refl _ _, rfl⟩
    obtain ⟨_, _, -, rfl, -⟩ := hh
    (repeat (first | (refine lex_pure rfl rfl (fun K hK => ?_); go_simp; refine hK _ ?_; clear hK K; try simp (disch := omega) only [IntWalk.i64_in, IntWalk.u8_in, Int.add_sub_cancel, Int.tmod_eq_emod_of_nonneg, Int.tdiv_eq_ediv_of_nonneg]) | (refine lex_load rfl rfl _ (fun m W hJ hF => (by have cc := hcell W hJ; go_simp; rfl)) ?_; try simp (disch := omega) only [IntWalk.i64_in, IntWalk.u8_in, Int.add_sub_cancel, Int.tmod_eq_emod_of_nonneg, Int.tdiv_eq_ediv_of_nonneg]) | (refine lex_sadd rfl rfl rfl rfl rfl (by first | omega | (simp only [ByteArray.size_append]; omega)) ?_; go_simp)))
    refine lex_eff' (sp := AllocSp w0.heap.size zFr 24) rfl rfl (by intro _ _ _ _ h; exact h) (fun m W hJ hF => ?_) (fun v x hh => ?_) rfl
    · have hb : Below W.heap.size W (W.alloc (.cells zFr 24)) := (Below.refl _ _).alloc (Nat.le_refl _) _
      exact gives_value (by go_simp; rfl) ⟨hJ.step hb, hb, _, rfl, hJ.size, heap_alloc_new _ _⟩
    obtain ⟨_, _, -, ⟨b, rfl, hb0, -⟩, -⟩ := hh
    (repeat (first | (refine lex_pure rfl rfl (fun K hK => ?_); go_simp; refine hK _ ?_; clear hK K; try simp (disch := omega) only [IntWalk.i64_in, IntWalk.u8_in, Int.add_sub_cancel, Int.tmod_eq_emod_of_nonneg, Int.tdiv_eq_ediv_of_nonneg]) | (refine lex_load rfl rfl _ (fun m W hJ hF => (by have cc := hcell W hJ; go_simp; rfl)) ?_; try simp (disch := omega) only [IntWalk.i64_in, IntWalk.u8_in, Int.add_sub_cancel, Int.tmod_eq_emod_of_nonneg, Int.tdiv_eq_ediv_of_nonneg]) | (refine lex_sadd rfl rfl rfl rfl rfl (by first | omega | (simp only [ByteArray.size_append]; omega)) ?_; go_simp)))
    refine lex_nil (fun m W hJ hF => ?_)
    obtain ⟨b', e, -, hb⟩ := hF 13 rfl _ _ _ rfl rfl
    obtain rfl : b = b' := by injection e with e; injection e with e; injection e
    have hres := (hJ.block _ hlt).trans hblk
    clear hF e hcell
    generalize (if c = 6 then some ad else _) = A6
    generalize (if c = 12 then some ad else _) = A12
    generalize (if c = 14 then some ad else _) = A14
    have hBW := Below.trans hB0 (Below.mono hJ hB0.size)
    have hbs : w.heap.size < b := by omega
    have hkk : (frOf bs).kind = numL ((bs.drop 12).take 2) := rfl
    generalize numL ((bs.drop 12).take 2) = K at *
    have hne : b ≠ w.heap.size := by omega
    have HH := Lib.hid (And.intro hb (And.intro hres (And.intro hblk hkk)))
    clear hb hres hblk hkk
    refine wpList_store_row rfl _ _ 24 rfl b 24 zFr _ rfl rfl HH.out.1 rfl infoFr rfl ?_
    have hb1 := setRow_heap W b zFr (#[.string (bstr (frOf bs).dst), .string (bstr (frOf bs).src), .int .i64 K, .string (bstr (frOf bs).body)] : Array Value) 24 (0, 0) HH.out.1
    have hr1 := (setRow_other W b w.heap.size (#[.string (bstr (frOf bs).dst), .string (bstr (frOf bs).src), .int .i64 K, .string (bstr (frOf bs).body)] : Array Value) (by omega)).trans HH.out.2.1
    have hB1 : Below w.heap.size w (W.setRow b (#[.string (bstr (frOf bs).dst), .string (bstr (frOf bs).src), .int .i64 K, .string (bstr (frOf bs).body)] : Array Value)) := below_setRow hBW (by omega) _
    generalize W.setRow b _ = W1 at *
    have e0 := blk_cell hb1 0
    have e1 := blk_cell hb1 1
    have e2 := blk_cell hb1 2
    have e3 := blk_cell hb1 3
    simp at e0 e1 e2 e3
    have H1 := Lib.hid (And.intro hb1 hr1)
    clear hb1 hr1 hBW hJ
    by_cases hk1 : K = 2048 ∨ K = 2054
    · have hfin : rdFrame bs = (frOf bs, 0) := by rw [rdFrame, if_neg (by omega), HH.out.2.2.2, if_pos hk1]
      have HF := Lib.hid hfin
      have hv : (frOf bs).v = .agg #[.string (bstr (frOf bs).dst), .string (bstr (frOf bs).src), .int .i64 K, .string (bstr (frOf bs).body)] := by rw [Fr.v, HH.out.2.2.2]
      have HV := Lib.hid hv
      clear hfin hv
      rcases hk1 with rfl | rfl
      all_goals
        go_wp2_with (refine wpList_store_row rfl _ _ 24 rfl w.heap.size 24 _ _ rfl rfl H1.out.2 rfl infoFr rfl ?_)
        refine bodyPost_ret (ret_cell_tmp rfl rfl (setRow_heap _ _ _ _ _ _ H1.out.2) Try.underlying24 rfl infoFr) rfl ?_
        exact ⟨by rw [HF.out, HV.out]; rfl, below_setRow hB1 (Nat.le_refl _) _⟩
    · have hfin : rdFrame bs = (.zero, 10) := by rw [rdFrame, if_neg (by omega), HH.out.2.2.2, if_neg hk1]
      have HF := Lib.hid hfin
      have g1 : ((K : Int) != 2048) = true := by simp; omega
      have g3 : ((K : Int) != 2054) = true := by simp; omega
      have g2 : ((K : Int) == 2048) = false := by simp; omega
      have g4 : ((K : Int) == 2054) = false := by simp; omega
      clear hfin hk1
      go_wp2_with (refine wpList_store_row rfl _ _ 24 rfl w.heap.size 24 _ _ rfl rfl H1.out.2 rfl infoFr rfl ?_)
      refine bodyPost_ret (ret_cell_tmp rfl rfl (setRow_heap _ _ _ _ _ _ H1.out.2) Try.underlying24 rfl infoFr) rfl ?_
      exact ⟨by rw [HF.out]; rfl, below_setRow hB1 (Nat.le_refl _) _⟩
  · have hfin : rdFrame bs = (.zero, 3) := by rw [rdFrame, if_pos (by omega)]
    have HF := Lib.hid hfin
    have hd : decide ((14 : Int) ≤ bs.length ∧ (bs.length : Int) ≤ 414) = false := by simp; omega
    clear hfin h14
    go_enter Try.func55, Try.ntmps55
    go_wp2_with fail
    refine (within_ok _ _ _ _).mono ?_
    rintro e w1 ⟨rfl, rfl⟩
    rw [hd]
    generalize hw0 : World.alloc w (.cells #[.string ⟨#[]⟩, .string ⟨#[]⟩, .int .i64 0, .string ⟨#[]⟩] 24) = w0
    have hblk : w0.heap[World.heap w |>.size]? = some (.cells #[.string ⟨#[]⟩, .string ⟨#[]⟩, .int .i64 0, .string ⟨#[]⟩] 24 (0, 0)) := by rw [← hw0]; exact heap_alloc_new _ _
    have hlt : (World.heap w).size < w0.heap.size := (Array.getElem?_eq_some_iff.1 hblk).1
    have hB0 : Below (World.heap w).size w w0 := by rw [← hw0]; exact (Below.refl _ _).alloc (Nat.le_refl _) _
    clear hw0
    have Hb := Lib.hid hblk
    clear hblk
    go_wp2_with (refine wpList_store_row rfl _ _ 24 rfl w.heap.size 24 _ _ rfl rfl Hb.out rfl infoFr rfl ?_)
    refine bodyPost_ret (ret_cell_tmp rfl rfl (setRow_heap _ _ _ _ _ _ Hb.out) Try.underlying24 rfl infoFr) rfl ?_
    exact ⟨by rw [HF.out]; rfl, below_setRow hB0 (Nat.le_refl _) _⟩

theorem ReadFrame_ok (A : Option Addr) (c : Nat) (bs : List UInt8) (hl : bs.length ≤ 65536) (hc : bs.length ≤ c) (w : World) (hr : Rd w A (bs.map bV)) :
    Calls Try.prog 12 #[.slice A bs.length c] w fun e w' => e = .returned (.tuple #[(rdFrame bs).1.v, .int .i64 (rdFrame bs).2]) ∧ Below w.heap.size w w' := by
  have hl2 : (bs.length : Int) ≤ 65536 := by omega
  go_enter Try.func12, Try.ntmps12
  go_wp2_with fail
  generalize hw0 : World.alloc w (.cells #[.string ⟨#[]⟩, .string ⟨#[]⟩, .int .i64 0, .string ⟨#[]⟩] 24) = w0
  have hblk : w0.heap[World.heap w |>.size]? = some (.cells #[.string ⟨#[]⟩, .string ⟨#[]⟩, .int .i64 0, .string ⟨#[]⟩] 24 (0, 0)) := by rw [← hw0]; exact heap_alloc_new _ _
  have hlt : (World.heap w).size < w0.heap.size := (Array.getElem?_eq_some_iff.1 hblk).1
  have hB0 : Below (World.heap w).size w w0 := by rw [← hw0]; exact (Below.refl _ _).alloc (Nat.le_refl _) _
  clear hw0
  refine (readFrame_ok A c bs (by omega) hc w0 (hr.below hB0 (Nat.le_refl _))).mono ?_
  rintro e w1 ⟨rfl, hB1⟩
  have hb1 := (hB1.block _ hlt).trans hblk
  have hB := Below.trans hB0 (hB1.mono hB0.size)
  have Hb := Lib.hid hb1
  clear hblk hb1
  go_wp2_with (refine wpList_store_row rfl _ _ 24 rfl w.heap.size 24 _ _ rfl rfl Hb.out rfl infoFr rfl ?_)
  refine bodyPost_ret (ret_cell_tmp rfl rfl (setRow_heap _ _ _ _ _ _ Hb.out) Try.underlying24 rfl infoFr) rfl ?_
  exact ⟨rfl, below_setRow hB (Nat.le_refl _) _⟩
end Go.Proofs.Ytdenjmdngmmodaa
