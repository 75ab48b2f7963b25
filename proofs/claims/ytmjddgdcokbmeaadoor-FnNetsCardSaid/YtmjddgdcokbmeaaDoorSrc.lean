/- The source of draws: what its methods answer and what they leave. -/
import Derived.Test.YtmjddgdcokbmeaaDoorLib
namespace Go.Proofs.YtmjddgdcokbmeaaDoor
open Go.RowKit
set_option linter.unusedVariables false
set_option linter.unusedSimpArgs false

/-- Block g is a source that drew at most N bytes. -/
def Src (w : World) (g : Nat) (N : Int) : Prop := ∃ (A : Option Addr) (c : Nat) (bs : List UInt8) (at_ seed : Int),
  w.heap[g]? = some (.cells #[.slice A bs.length c, .int .i64 at_, .int .i64 seed] 92 (0, 0)) ∧ RdB w g A (bs.map bV) ∧
  bs.length ≤ 1099511627776 ∧ 0 ≤ at_ ∧ at_ ≤ N ∧ 0 ≤ seed ∧ seed < 2147483648
/-- A draw's end: the answer meets P, block g is a source still, nothing else has turned. -/
def SrcRet (w : World) (g : Nat) (N : Int) (P : Value → Prop) (e : Ending) (w' : World) : Prop := ∃ v, e = .returned v ∧ P v ∧ Src w' g N ∧ w.grownBy w' (some g)

theorem Src.lt {w : World} {g : Nat} {N : Int} (h : Src w g N) : g < w.heap.size := by
  obtain ⟨A, c, bs, a, s, hb, _⟩ := h
  exact (Array.getElem?_eq_some_iff.1 hb).1
theorem Src.more {w : World} {g : Nat} {N M : Int} (h : Src w g N) (hm : N ≤ M) : Src w g M := by
  obtain ⟨A, c, bs, a, s, hb, h1, h3, h4, h5, h6⟩ := h
  exact ⟨A, c, bs, a, s, hb, h1, h3, h4, by omega, h6⟩
/-- What is there up to block g is as it was. -/
theorem Src.keep {w w' : World} {g : Nat} {N : Int} (h : Src w g N) (hk : ∀ k, k < g + 1 → w'.heap[k]? = w.heap[k]?) : Src w' g N := by
  obtain ⟨A, c, bs, a, s, hb, h1, h3⟩ := h
  exact ⟨A, c, bs, a, s, (hk g (by omega)).trans hb, h1.keep fun k hl => hk k (by omega), h3⟩
theorem Src.below {w w' : World} {g B : Nat} {N : Int} (h : Src w g N) (hb : Below B w w') (hB : g < B) : Src w' g N := h.keep fun k hk => hb.block k (by omega)
theorem Src.setCell {w : World} {g : Nat} {N : Int} (h : Src w g N) (p : Addr) (hp : g < p.block) (u : Value) : Src (w.setCell p u) g N := h.keep fun k hk => Below.heap_setCell _ _ _ _ (by omega)

theorem Src.store1 {w : World} {g : Nat} {A : Option Addr} {c : Nat} {bs : List UInt8} {at_ seed : Int} (hb : w.heap[g]? = some (.cells #[.slice A bs.length c, .int .i64 at_, .int .i64 seed] 92 (0, 0)))
    (hr : RdB w g A (bs.map bV)) (hl : bs.length ≤ 1099511627776) {W : World} {n : Nat} {a' : Int} (hW : (w.setCell ⟨g, 1, none⟩ (.int .i64 a')).drewN n = W)
    (s' N : Int) (h0 : 0 ≤ a') (h1 : a' ≤ N) (h2 : 0 ≤ s') (h3 : s' < 2147483648) {w' : World} (hw : ∃ m, w' = (W.setCell ⟨g, 2, none⟩ (.int .i64 s')).drewN m) :
    Src w' g N ∧ w.grownBy w' (some g) := by
  obtain ⟨m, rfl⟩ := hw
  subst hW
  have hg : w.grownBy ((((w.setCell ⟨g, 1, none⟩ (.int .i64 a')).drewN n).setCell ⟨g, 2, none⟩ (.int .i64 s')).drewN m) (some g) := by
    refine ⟨rfl, rfl, rfl, by simp [World.setCell], fun k hk hne => ?_⟩
    have hk' : k ≠ g := fun e => hne (by rw [e])
    show (World.setCell _ _ _).heap[k]? = _
    rw [Below.heap_setCell _ _ _ _ hk']
    exact Below.heap_setCell _ _ _ _ hk'
  have hgl : g < w.heap.size := (Array.getElem?_eq_some_iff.1 hb).1
  refine ⟨⟨A, c, bs, a', s', ?_, hr.keep fun k hk => hg.block k (by omega) (by simp; omega), hl, h0, h1, h2, h3⟩, hg⟩
  simp [World.setCell, Array.getElem?_modify, hb, World.drewN]
theorem Src.store0 {w : World} {g : Nat} {A : Option Addr} {c : Nat} {bs : List UInt8} {at_ seed : Int} (hb : w.heap[g]? = some (.cells #[.slice A bs.length c, .int .i64 at_, .int .i64 seed] 92 (0, 0)))
    (hr : RdB w g A (bs.map bV)) (hl : bs.length ≤ 1099511627776) (a' N : Int) (h0 : 0 ≤ a') (h1 : a' ≤ N) (h2 : 0 ≤ seed) (h3 : seed < 2147483648) {w' : World} (hw : ∃ m, w' = (w.setCell ⟨g, 1, none⟩ (.int .i64 a')).drewN m) :
    Src w' g N ∧ w.grownBy w' (some g) := by
  obtain ⟨m, rfl⟩ := hw
  have hg : w.grownBy ((w.setCell ⟨g, 1, none⟩ (.int .i64 a')).drewN m) (some g) := by
    refine ⟨rfl, rfl, rfl, by simp [World.setCell], fun k hk hne => ?_⟩
    have hk' : k ≠ g := fun e => hne (by rw [e])
    exact Below.heap_setCell _ _ _ _ hk'
  have hgl : g < w.heap.size := (Array.getElem?_eq_some_iff.1 hb).1
  refine ⟨⟨A, c, bs, a', seed, ?_, hr.keep fun k hk => hg.block k (by omega) (by simp; omega), hl, h0, h1, h2, h3⟩, hg⟩
  simp [World.setCell, Array.getElem?_modify, hb, World.drewN]

set_option maxRecDepth 100000 in
set_option maxHeartbeats 1000000 in
theorem byte_ok (g : Nat) (N : Int) (w : World) (hs : Src w g N) (hN : N ≤ 1000000000) :
    Calls Tryd.prog 102 #[.pointer (some ⟨g, 0, none⟩)] w (SrcRet w g (N + 1) fun v => ∃ n : Int, v = .int .i64 n ∧ 0 ≤ n ∧ n ≤ 255) := by
  obtain ⟨A, c, bs, at_, seed, hb, hr, hl, h0, h1, h2, h3⟩ := hs
  have c0 : w.cell? ⟨g, 0, none⟩ = some (.slice A bs.length c) := (cell_of_row w g 0 _ 92 (0, 0) hb)
  have c1 : w.cell? ⟨g, 1, none⟩ = some (.int .i64 at_) := (cell_of_row w g 1 _ 92 (0, 0) hb)
  have c2 : w.cell? ⟨g, 2, none⟩ = some (.int .i64 seed) := (cell_of_row w g 2 _ 92 (0, 0) hb)
  have f1 : w.frozen? ⟨g, 1, none⟩ = false := by simp [World.frozen?, hb]
  have f2 : w.frozen? ⟨g, 2, none⟩ = false := by simp [World.frozen?, hb]
  have Hb := Lib.hid hb
  clear hb
  by_cases hlt : at_ < bs.length
  · obtain ⟨k, rfl⟩ : ∃ k : Nat, at_ = k := ⟨at_.toNat, by omega⟩
    have hk : k < (bs.map bV).length := by simp; omega
    obtain ⟨ad, rfl, hc⟩ := hr.1.at_ hk
    have hne : ad.block ≠ g := by
      rcases hr.2 with h | ⟨ad', e, h⟩
      · rw [h] at hk; simp at hk
      · cases e; omega
    have hc' : w.cell? (ad.add k) = some (.int .u8 (bs[k]'(by omega)).toNat) := by rw [hc]; simp [bV]
    have hu : ((bs[k]'(by omega)).toNat : Int) ≤ 255 := by have := (bs[k]'(by omega)).toNat_lt; omega
    have hu0 : (0 : Int) ≤ ((bs[k]'(by omega)).toNat : Int) := by omega
    clear hc
    generalize ((bs[k]'(by omega)).toNat : Int) = u at *
    have hn1 : (ad.add k).block ≠ g := by rw [addr_block]; exact hne
    have hc1 : (w.setCell ⟨g, 1, none⟩ (.int .i64 ((k : Int) + 1))).cell? (ad.add k) = some (.int .u8 u) := by
      rw [World.cell?_setCell_other _ _ _ _ (fun e => hn1 (by rw [← e]))]; exact hc'
    have HR := Lib.hid hr
    clear hr
    go_enter Tryd.func102, Tryd.ntmps102
    go_wp2
    go_quiet (fail)
    go_wp2
    generalize hW : World.drewN _ _ = W
    have d0 : W.cell? ⟨g, 0, none⟩ = some (.slice (some ad) bs.length c) := by rw [← hW]; simpa [go_sem] using c0
    have d1 : W.cell? ⟨g, 1, none⟩ = some (.int .i64 ((k : Int) + 1)) := by rw [← hW]; simp [go_sem, c1]
    have d2 : W.cell? ⟨g, 2, none⟩ = some (.int .i64 seed) := by rw [← hW]; simpa [go_sem] using c2
    have d3 : W.cell? (ad.add k) = some (.int .u8 u) := by rw [← hW]; exact hc1
    have d4 : W.frozen? ⟨g, 2, none⟩ = false := by rw [← hW]; simpa [go_sem] using f2
    have d5 : ∀ x, (W.setCell ⟨g, 2, none⟩ x).cell? (ad.add k) = some (.int .u8 u) := fun x => by rw [World.cell?_setCell_other _ _ _ _ (fun e => hn1 (by rw [← e]))]; exact d3
    have HW := Lib.hid hW
    clear hW
    (refine wp_region_still_tail 23 (by kernel_rfl) (by kernel_rfl) ?_; simp only [List.take_succ_cons, List.take_zero, List.drop_succ_cons, List.drop_zero]; (repeat (refine wpStill_step (fun K hK => ?_); go_simp; refine hK _ ?_; clear hK K; try simp (disch := omega) only [IntWalk.i64_in, IntWalk.u8_in, Int.add_sub_cancel, Int.tmod_eq_emod_of_nonneg, Int.tdiv_eq_ediv_of_nonneg])); refine wpStill_nil ?_; change wpList _ _ _ _ _ (World.drew _))
    go_wp2
    (refine wp_region_quiet_lit (by kernel_rfl) (by kernel_rfl) ?_; (repeat (refine wpQuiet_step (fun K hK => ?_); go_simp; refine hK _ ?_; clear hK K; try simp (disch := omega) only [IntWalk.i64_in, IntWalk.u8_in, Int.add_sub_cancel, Int.tmod_eq_emod_of_nonneg, Int.tdiv_eq_ediv_of_nonneg])); refine wpQuiet_nil ?_; intro _ hw'; obtain ⟨nq, hw''⟩ := hw'; subst hw'')
    go_wp2
    go_ret
    exact ⟨_, rfl, ⟨u, rfl, hu0, hu⟩, Src.store1 Hb.out HR.out hl HW.out ((seed * 31 + u + 7) % 2147483648) _ (by omega) (by omega) (by omega) (by omega) ⟨1 + nq, by rw [← World.drewN_drewN]; rfl⟩⟩
  · have HR := Lib.hid hr
    clear hr
    go_enter Tryd.func102, Tryd.ntmps102
    go_wp2
    go_quiet (fail)
    go_wp2
    · go_ret
      exact ⟨_, rfl, ⟨0, rfl, by omega, by omega⟩, Src.store0 Hb.out HR.out hl (at_ + 1) _ (by omega) (by omega) h2 h3 ⟨_, rfl⟩⟩
    · go_ret
      exact ⟨_, rfl, ⟨_, rfl, by omega, by omega⟩, Src.store1 Hb.out HR.out hl (a' := at_ + 1) rfl ((seed * 1103515245 + 12345) % 2147483648) _ (by omega) (by omega) (by omega) (by omega) ⟨0, rfl⟩⟩
theorem grown_trans {w w1 w2 : World} {row : Option Nat} (h : w.grownBy w1 row) (k : w1.grownBy w2 row) : w.grownBy w2 row :=
  ⟨k.os.trans h.os, k.tape.trans h.tape, k.output.trans h.output, Nat.le_trans h.size k.size, fun i hi hn => (k.block i (Nat.lt_of_lt_of_le hi h.size) hn).trans (h.block i hi hn)⟩

/-- next(n): a number from 0 to n - 1, 0 where n is 1 at most. -/
def InN (n : Int) (v : Value) : Prop := ∃ m : Int, v = .int .i64 m ∧ 0 ≤ m ∧ (m < n ∨ m = 0)

set_option maxHeartbeats 1000000 in
theorem next_ok (g : Nat) (N n : Int) (w : World) (hs : Src w g N) (hN : N ≤ 100000000) (hn : n ≤ 16777216) :
    Calls Tryd.prog 73 #[.pointer (some ⟨g, 0, none⟩), .int .i64 n] w (SrcRet w g (N + 3) (InN n)) := by
  by_cases h1 : n ≤ 1
  · go_enter Tryd.func73, Tryd.ntmps73
    go_wp2
    go_ret
    exact ⟨_, rfl, ⟨0, rfl, by omega, by omega⟩, hs.more (by omega), World.grownBy.refl w _⟩
  · by_cases h2 : n ≤ 256
    · go_enter Tryd.func73, Tryd.ntmps73
      go_wp2_with (go_at_call 102; refine (byte_ok g N _ hs (by omega)).mono ?_; rintro e w1 ⟨v, rfl, ⟨x, rfl, hx0, hx1⟩, hs1, hg1⟩)
      go_ret
      exact ⟨_, rfl, ⟨_, rfl, Int.emod_nonneg _ (by omega), .inl (Int.emod_lt_of_pos _ (by omega))⟩, hs1.more (by omega), hg1⟩
    · go_enter Tryd.func73, Tryd.ntmps73
      go_wp2_with fail
      refine (byte_ok g N _ hs (by omega)).mono ?_
      rintro e w1 ⟨v, rfl, ⟨x, rfl, hx0, hx1⟩, hs1, hg1⟩
      go_wp2_with fail
      refine (byte_ok g _ _ hs1 (by omega)).mono ?_
      rintro e w2 ⟨v, rfl, ⟨y, rfl, hy0, hy1⟩, hs2, hg2⟩
      go_wp2_with fail
      refine (byte_ok g _ _ hs2 (by omega)).mono ?_
      rintro e w3 ⟨v, rfl, ⟨z, rfl, hz0, hz1⟩, hs3, hg3⟩
      go_wp2
      go_ret
      exact ⟨_, rfl, ⟨_, rfl, Int.emod_nonneg _ (by omega), .inl (Int.emod_lt_of_pos _ (by omega))⟩, hs3.more (by omega), grown_trans (grown_trans hg1 hg2) hg3⟩
end Go.Proofs.YtmjddgdcokbmeaaDoor
