/- A source of choices out of bytes, and a number out of bytes. -/
import Derived.Test.YtmjddgdcokbmeaaDoorDraw
import Derived.Test.YtmjddgdcokbmeaaDoorLexB
namespace Go.Proofs.YtmjddgdcokbmeaaDoor
open Go.RowKit
set_option linter.unusedVariables false
set_option linter.unusedSimpArgs false
set_option maxRecDepth 20000
set_option maxHeartbeats 1000000

theorem l00Source_ok (A : Option Addr) (c : Nat) (bs : List UInt8) (hl : bs.length ≤ 1099511627776) (w : World) (hr : Rd w A (bs.map bV)) :
    Calls Tryd.prog 33 #[.slice A bs.length c] w fun e w' => e = .returned (.pointer (some ⟨w.heap.size, 0, none⟩)) ∧ Src w' w.heap.size 0 ∧ Below w.heap.size w w' := by
  have h1 : (bs.length : Int).tmod 1000 = ((bs.length % 1000 : Nat) : Int) := by rw [Int.tmod_eq_emod_of_nonneg (by omega)]; omega
  have h2 : bs.length % 1000 < 1000 := Nat.mod_lt _ (by omega)
  go_enter Tryd.func33, Tryd.ntmps33
  go_wp2
  go_ret
  have hB : Below w.heap.size w (w.alloc (.cells #[.slice A bs.length c, .int .i64 0, .int .i64 ((bs.length : Int) % 1000)] 92)) := (Below.refl _ _).alloc (Nat.le_refl _) _
  exact ⟨rfl, ⟨A, c, bs, 0, _, heap_alloc_new _ _, hr.toB.keep (fun k hk => hB.block k hk), hl, by omega, by omega, by omega, by omega⟩, hB⟩
theorem at_ok (A : Option Addr) (c : Nat) (bs : List UInt8) (hl : bs.length ≤ 1099511627776) (hc : bs.length ≤ c) (i n : Nat) (hi : i ≤ 1000000) (hn : n ≤ 1000000000) (w : World) (hr : Rd w A (bs.map bV)) :
    Calls Tryd.prog 10 #[.slice A bs.length c, .int .i64 i, .int .i64 n] w fun e w' => ∃ r : Nat, e = .returned (.int .i64 r) ∧ (r < n ∨ r = 0) ∧ Below w.heap.size w w' := by
  by_cases h1 : n ≤ 1
  · have g1 : (n : Int) ≤ 1 := by omega
    go_enter Tryd.func10, Tryd.ntmps10
    go_wp2
    go_ret
    exact ⟨0, rfl, Or.inr rfl, Below.refl _ _⟩
  by_cases h0 : bs.length = 0
  · have g1 : decide ((n : Int) ≤ 1) = false := by simp; omega
    have g0 : (bs.length : Int) = 0 := by omega
    have g2 : (n : Int) ≠ 0 := by omega
    have g3 : ((i : Int) * 7).tmod n = ((i * 7 % n : Nat) : Int) := by rw [Int.tmod_eq_emod_of_nonneg (by omega)]; push_cast; rfl
    have g4 : i * 7 % n < n := Nat.mod_lt _ (by omega)
    generalize i * 7 % n = r at *
    go_enter Tryd.func10, Tryd.ntmps10
    go_wp2
    go_ret
    exact ⟨r, rfl, Or.inl g4, Below.refl _ _⟩
  · have g1 : decide ((n : Int) ≤ 1) = false := by simp; omega
    have g0 : ((bs.length : Int) == 0) = false := beq_eq_false_iff_ne.2 (by omega)
    have gn : (n : Int) ≠ 0 := by omega
    have gn' : n ≠ 0 := by omega
    have gl : (bs.length : Int) ≠ 0 := by omega
    have e1 : (i : Int) % bs.length = ((i % bs.length : Nat) : Int) := by push_cast; rfl
    have e2 : ((i : Int) + 1) % bs.length = (((i + 1) % bs.length : Nat) : Int) := by push_cast; rfl
    have e3 : (i : Int) / bs.length = ((i / bs.length : Nat) : Int) := by push_cast; rfl
    have m1 : i % bs.length < bs.length := Nat.mod_lt _ (by omega)
    have m2 : (i + 1) % bs.length < bs.length := Nat.mod_lt _ (by omega)
    have m3 : i / bs.length ≤ i := Nat.div_le_self _ _
    have t1 : (i : Int).tmod bs.length = ((i % bs.length : Nat) : Int) := by rw [Int.tmod_eq_emod_of_nonneg (by omega)]; push_cast; rfl
    have t2 : ((i : Int) + 1).tmod bs.length = (((i + 1) % bs.length : Nat) : Int) := by rw [Int.tmod_eq_emod_of_nonneg (by omega)]; push_cast; rfl
    have t3 : (i : Int).tdiv bs.length = ((i / bs.length : Nat) : Int) := by rw [Int.tdiv_eq_ediv_of_nonneg (by omega)]; push_cast; rfl
    generalize i % bs.length = k1 at *
    generalize (i + 1) % bs.length = k2 at *
    generalize i / bs.length = k3 at *
    obtain ⟨ad, rfl, hc1⟩ := hr.at_ (k := k1) (by simpa using m1)
    obtain ⟨ad', ea, hc2⟩ := hr.at_ (k := k2) (by simpa using m2)
    cases ea
    have c1 : w.cell? (ad.add k1) = some (.int .u8 (bs[k1]'m1).toNat) := by rw [hc1]; simp [bV]
    have c2 : w.cell? (ad.add k2) = some (.int .u8 (bs[k2]'m2).toNat) := by rw [hc2]; simp [bV]
    have u1 : ((bs[k1]'m1).toNat : Int) ≤ 255 := by have := (bs[k1]'m1).toNat_lt; omega
    have u2 : ((bs[k2]'m2).toNat : Int) ≤ 255 := by have := (bs[k2]'m2).toNat_lt; omega
    generalize (bs[k1]'m1).toNat = x1 at *
    generalize (bs[k2]'m2).toNat = x2 at *
    have m1' : (k1 : Int) < bs.length := by omega
    have m2' : (k2 : Int) < bs.length := by omega
    have q1 : ((x1 : Int) * 31 + x2 + k3) % n = (((x1 * 31 + x2 + k3) % n : Nat) : Int) := by push_cast; rfl
    have q2 : ((x1 : Int) * 31 + x2 + k3).tmod n = (((x1 * 31 + x2 + k3) % n : Nat) : Int) := by rw [Int.tmod_eq_emod_of_nonneg (by omega)]; push_cast; rfl
    have q4 : (x1 * 31 + x2 + k3) % n < n := Nat.mod_lt _ (by omega)
    generalize (x1 * 31 + x2 + k3) % n = r at *
    have HR := Lib.hid (And.intro hr (And.intro hc1 hc2))
    clear hr hc1 hc2
    go_enter Tryd.func10, Tryd.ntmps10
    go_wp2
    have hcell : ∀ W, Below w.heap.size w W → W.cell? (ad.add k1) = some (.int .u8 (x1 : Int)) ∧ W.cell? (ad.add k2) = some (.int .u8 (x2 : Int)) := fun W hW => ⟨(hW.cell (World.block_lt_of_cell? w _ c1)).trans c1, (hW.cell (World.block_lt_of_cell? w _ c2)).trans c2⟩
    have HC := Lib.hid (And.intro c1 c2)
    clear c1 c2
    refine wp_region_lex 26 (by kernel_rfl) (by kernel_rfl) (JB w) LeB (fun _ => none) ?_ JB.mono ?_ ?_
    · intro j sp x v W W' hj hL h
      cases hj
    · exact (Below.refl _ _).drew
    simp only [List.take_succ_cons, List.take_zero, List.drop_succ_cons, List.drop_zero, pairs, List.zipIdx_cons, List.zipIdx_nil, List.map_cons, List.map_nil, Nat.zero_add, Nat.reduceAdd]
    (repeat (first | (refine lex_pure rfl rfl (fun K hK => ?_); go_simp; refine hK _ ?_; clear hK K; try simp (disch := omega) only [IntWalk.i64_in, IntWalk.u8_in, Int.add_sub_cancel, Int.tmod_eq_emod_of_nonneg, Int.tdiv_eq_ediv_of_nonneg]) | (refine lex_load rfl rfl _ (fun m W hJ hF => (by have cc := hcell W hJ; go_simp; rfl)) ?_; try simp (disch := omega) only [IntWalk.i64_in, IntWalk.u8_in, Int.add_sub_cancel, Int.tmod_eq_emod_of_nonneg, Int.tdiv_eq_ediv_of_nonneg]) | (refine lex_sadd rfl rfl rfl rfl rfl (by first | omega | (simp only [ByteArray.size_append]; omega)) ?_; go_simp)))
    refine lex_nil (fun m W hJ hF => ?_)
    clear hF hcell
    go_wp2
    go_ret
    exact ⟨r, rfl, Or.inl q4, hJ⟩
end Go.Proofs.YtmjddgdcokbmeaaDoor
