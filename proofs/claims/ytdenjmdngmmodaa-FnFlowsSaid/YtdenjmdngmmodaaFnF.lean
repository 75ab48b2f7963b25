/- The law of frames: its parts. -/
import Derived.Test.YtdenjmdngmmodaaArpC
namespace Go.Proofs.Ytdenjmdngmmodaa
open Go.RowKit
set_option linter.unusedVariables false
set_option linter.unusedSimpArgs false
set_option maxRecDepth 20000
set_option maxHeartbeats 1000000

theorem l00Source_ok (A : Option Addr) (c : Nat) (bs : List UInt8) (hl : bs.length ≤ 1099511627776) (w : World) (hr : Rd w A (bs.map bV)) :
    Calls Try.prog 49 #[.slice A bs.length c] w fun e w' => e = .returned (.pointer (some ⟨w.heap.size, 0, none⟩)) ∧ Src w' w.heap.size 0 ∧ Below w.heap.size w w' := by
  have h1 : (bs.length : Int).tmod 1000 = ((bs.length % 1000 : Nat) : Int) := by rw [Int.tmod_eq_emod_of_nonneg (by omega)]; omega
  have h2 : bs.length % 1000 < 1000 := Nat.mod_lt _ (by omega)
  go_enter Try.func49, Try.ntmps49
  go_wp2
  go_ret
  have hB : Below w.heap.size w (w.alloc (.cells #[.slice A bs.length c, .int .i64 0, .int .i64 ((bs.length : Int) % 1000)] 128)) := (Below.refl _ _).alloc (Nat.le_refl _) _
  exact ⟨rfl, ⟨A, c, bs, 0, _, heap_alloc_new _ _, hr.toB.keep (fun k hk => hB.block k hk), hl, by omega, by omega, by omega, by omega⟩, hB⟩

theorem FrameOf_ok (A : Option Addr) (c : Nat) (bs : List UInt8) (hl : bs.length ≤ 1099511627776) (w : World) (hr : Rd w A (bs.map bV)) :
    Calls Try.prog 9 #[.slice A bs.length c] w fun e w' => ∃ v, e = .returned v ∧ FrameV v ∧ Below w.heap.size w w' := by
  go_enter Try.func9, Try.ntmps9
  go_wp2_with fail
  generalize hw0 : World.alloc w (.cells #[.string ⟨#[]⟩, .string ⟨#[]⟩, .int .i64 0, .string ⟨#[]⟩] 24) = w0
  have hblk : w0.heap[World.heap w |>.size]? = some (.cells #[.string ⟨#[]⟩, .string ⟨#[]⟩, .int .i64 0, .string ⟨#[]⟩] 24 (0, 0)) := by rw [← hw0]; exact heap_alloc_new _ _
  have hlt : (World.heap w).size < w0.heap.size := (Array.getElem?_eq_some_iff.1 hblk).1
  have hB0 : Below (World.heap w).size w w0 := by rw [← hw0]; exact (Below.refl _ _).alloc (Nat.le_refl _) _
  clear hw0
  refine (l00Source_ok A c bs hl w0 (hr.below hB0 (Nat.le_refl _))).mono ?_
  rintro e w1 ⟨rfl, hs, hB1⟩
  go_wp2_with fail
  refine (frame_ok w0.heap.size 0 w1 hs (by omega)).mono ?_
  rintro e w2 ⟨v, rfl, ⟨m1, m2, k, t, h1, h2, h3, h4, rfl⟩, hs2, hg⟩
  have HV := Lib.hid (And.intro h1 (And.intro h2 (And.intro h3 h4)))
  have hb1 := (hB1.block _ hlt).trans hblk
  have hlt1 : w.heap.size < w1.heap.size := Nat.lt_of_lt_of_le hlt hB1.size
  have hb2 := (hg.block _ hlt1 (by simp; omega)).trans hb1
  have hB2 : Below w.heap.size w w2 := Below.grown (Below.trans hB0 (hB1.mono hB0.size)) hg (by omega) (fun k e => by cases e; exact hB0.size)
  have Hb := Lib.hid hb2
  clear hblk hb1 hb2 h1 h2 h3 h4
  go_wp2_with (refine wpList_store_row rfl _ _ 24 rfl w.heap.size 24 _ _ rfl rfl Hb.out rfl infoFr rfl ?_)
  refine bodyPost_ret (ret_cell rfl rfl (setRow_heap _ _ _ _ _ _ Hb.out) Try.underlying24 rfl infoFr) rfl ?_
  exact ⟨_, rfl, ⟨m1, m2, k, t, HV.out.1, HV.out.2.1, HV.out.2.2.1, HV.out.2.2.2, rfl⟩, below_setRow hB2 (Nat.le_refl _) _⟩

theorem ArpOf_ok (A : Option Addr) (c : Nat) (bs : List UInt8) (hl : bs.length ≤ 1099511627776) (w : World) (hr : Rd w A (bs.map bV)) :
    Calls Try.prog 13 #[.slice A bs.length c] w fun e w' => ∃ v, e = .returned v ∧ ArpV v ∧ Below w.heap.size w w' := by
  go_enter Try.func13, Try.ntmps13
  go_wp2_with fail
  generalize hw0 : World.alloc w (.cells #[.int .i64 0, .string ⟨#[]⟩, .string ⟨#[]⟩, .int .i64 0, .int .i64 0] 31) = w0
  have hblk : w0.heap[World.heap w |>.size]? = some (.cells #[.int .i64 0, .string ⟨#[]⟩, .string ⟨#[]⟩, .int .i64 0, .int .i64 0] 31 (0, 0)) := by rw [← hw0]; exact heap_alloc_new _ _
  have hlt : (World.heap w).size < w0.heap.size := (Array.getElem?_eq_some_iff.1 hblk).1
  have hB0 : Below (World.heap w).size w w0 := by rw [← hw0]; exact (Below.refl _ _).alloc (Nat.le_refl _) _
  clear hw0
  refine (l00Source_ok A c bs hl w0 (hr.below hB0 (Nat.le_refl _))).mono ?_
  rintro e w1 ⟨rfl, hs, hB1⟩
  go_wp2_with fail
  refine (arp_ok w0.heap.size 0 w1 hs (by omega)).mono ?_
  rintro e w2 ⟨v, rfl, ⟨op, sm, dm, si, di, h1, rfl⟩, hs2, hg⟩
  have HV := Lib.hid h1
  have hb1 := (hB1.block _ hlt).trans hblk
  have hlt1 : w.heap.size < w1.heap.size := Nat.lt_of_lt_of_le hlt hB1.size
  have hb2 := (hg.block _ hlt1 (by simp; omega)).trans hb1
  have hB2 : Below w.heap.size w w2 := Below.grown (Below.trans hB0 (hB1.mono hB0.size)) hg (by omega) (fun k e => by cases e; exact hB0.size)
  have Hb := Lib.hid hb2
  clear hblk hb1 hb2 h1
  go_wp2_with (refine wpList_store_row rfl _ _ 31 rfl w.heap.size 31 _ _ rfl rfl Hb.out rfl infoArp rfl ?_)
  refine bodyPost_ret (ret_cell rfl rfl (setRow_heap _ _ _ _ _ _ Hb.out) Try.underlying31 rfl infoArp) rfl ?_
  exact ⟨_, rfl, ⟨op, sm, dm, si, di, HV.out, rfl⟩, below_setRow hB2 (Nat.le_refl _) _⟩

theorem at_ok (A : Option Addr) (c : Nat) (bs : List UInt8) (hl : bs.length ≤ 1099511627776) (hc : bs.length ≤ c) (i n : Nat) (hi : i ≤ 1000000) (hn : n ≤ 1000000000) (w : World) (hr : Rd w A (bs.map bV)) :
    Calls Try.prog 17 #[.slice A bs.length c, .int .i64 i, .int .i64 n] w fun e w' => ∃ r : Nat, e = .returned (.int .i64 r) ∧ (r < n ∨ r = 0) ∧ Below w.heap.size w w' := by
  by_cases h1 : n ≤ 1
  · have g1 : (n : Int) ≤ 1 := by omega
    go_enter Try.func17, Try.ntmps17
    go_wp2
    go_ret
    exact ⟨0, rfl, Or.inr rfl, Below.refl _ _⟩
  by_cases h0 : bs.length = 0
  · have g1 : decide ((n : Int) ≤ 1) = false := by simp; omega
    have g0 : (bs.length : Int) = 0 := by omega
    have g2 : (n : Int) ≠ 0 := by omega
    have g3 : ((i : Int) * 7).tmod n = ((i * 7 % n : Nat) : Int) := by rw [Int.tmod_eq_emod_of_nonneg (by omega)]; push_cast; rfl
    have g4 : i * 7 % n < n := Nat.mod_lt _ (by omega)
    generalize i * 7 % n = r at *
    go_enter Try.func17, Try.ntmps17
    go_wp2
    go_ret
    exact ⟨r, rfl, Or.inl g4, Below.refl _ _⟩
  · have g1 : decide ((n : Int) ≤ 1) = false := by simp; omega
    have g0 : ((bs.length : Int) == 0) = false := beq_eq_false_iff_ne.2 (by omega)
    have gn : (n : Int) ≠ 0 := by omega
    have gn' : n ≠ 0 := by omega
    have gl : (bs.length : Int) ≠ 0 := by omega
    have e1 : (i : Int) % bs.length = ((i % bs.length : Nat) : Int) := by push_cast; rfl
    have e2 : ((i : Int) + 1) % bs.length = (((i + 1) % bs.length : Nat) : Int) := by push_cast; rfl
    have e3 : (i : Int) / bs.length = ((i / bs.length : Nat) : Int) := by push_cast; rfl
    have m1 : i % bs.length < bs.length := Nat.mod_lt _ (by omega)
    have m2 : (i + 1) % bs.length < bs.length := Nat.mod_lt _ (by omega)
    have m3 : i / bs.length ≤ i := Nat.div_le_self _ _
    have t1 : (i : Int).tmod bs.length = ((i % bs.length : Nat) : Int) := by rw [Int.tmod_eq_emod_of_nonneg (by omega)]; push_cast; rfl
    have t2 : ((i : Int) + 1).tmod bs.length = (((i + 1) % bs.length : Nat) : Int) := by rw [Int.tmod_eq_emod_of_nonneg (by omega)]; push_cast; rfl
    have t3 : (i : Int).tdiv bs.length = ((i / bs.length : Nat) : Int) := by rw [Int.tdiv_eq_ediv_of_nonneg (by omega)]; push_cast; rfl
    generalize i % bs.length = k1 at *
    generalize (i + 1) % bs.length = k2 at *
    generalize i / bs.length = k3 at *
    obtain ⟨ad, rfl, hc1⟩ := hr.at_ (k := k1) (by simpa using m1)
    obtain ⟨ad', ea, hc2⟩ := hr.at_ (k := k2) (by simpa using m2)
    cases ea
    have c1 : w.cell? (ad.add k1) = some (.int .u8 (bs[k1]'m1).toNat) := by rw [hc1]; simp [bV]
    have c2 : w.cell? (ad.add k2) = some (.int .u8 (bs[k2]'m2).toNat) := by rw [hc2]; simp [bV]
    have u1 : ((bs[k1]'m1).toNat : Int) ≤ 255 := by have := (bs[k1]'m1).toNat_lt; omega
    have u2 : ((bs[k2]'m2).toNat : Int) ≤ 255 := by have := (bs[k2]'m2).toNat_lt; omega
    generalize (bs[k1]'m1).toNat = x1 at *
    generalize (bs[k2]'m2).toNat = x2 at *
    have m1' : (k1 : Int) < bs.length := by omega
    have m2' : (k2 : Int) < bs.length := by omega
    have q1 : ((x1 : Int) * 31 + x2 + k3) % n = (((x1 * 31 + x2 + k3) % n : Nat) : Int) := by push_cast; rfl
    have q2 : ((x1 : Int) * 31 + x2 + k3).tmod n = (((x1 * 31 + x2 + k3) % n : Nat) : Int) := by rw [Int.tmod_eq_emod_of_nonneg (by omega)]; push_cast; rfl
    have q4 : (x1 * 31 + x2 + k3) % n < n := Nat.mod_lt _ (by omega)
    generalize (x1 * 31 + x2 + k3) % n = r at *
    have HR := Lib.hid (And.intro hr (And.intro hc1 hc2))
    clear hr hc1 hc2
    go_enter Try.func17, Try.ntmps17
    go_wp2
    have hcell : ∀ W, Below w.heap.size w W → W.cell? (ad.add k1) = some (.int .u8 (x1 : Int)) ∧ W.cell? (ad.add k2) = some (.int .u8 (x2 : Int)) := fun W hW => ⟨(hW.cell (World.block_lt_of_cell? w _ c1)).trans c1, (hW.cell (World.block_lt_of_cell? w _ c2)).trans c2⟩
    have HC := Lib.hid (And.intro c1 c2)
    clear c1 c2
    refine wp_region_lex 26 (by kernel_rfl) (by kernel_rfl) (JB w) LeB (fun _ => none) ?_ JB.mono ?_ ?_
    · intro j sp x v W W' hj hL h
      cases hj
    · exact (Below.refl _ _).drew
    simp only [List.take_succ_cons, List.take_zero, List.drop_succ_cons, List.drop_zero, pairs, List.zipIdx_cons, List.zipIdx_nil, List.map_cons, List.map_nil, Nat.zero_add, Nat.reduceAdd]
    (repeat (first | (refine lex_pure rfl rfl (fun K hK => ?_); go_simp; refine hK _ ?_; clear hK K; try simp (disch := omega) only [IntWalk.i64_in, IntWalk.u8_in, Int.add_sub_cancel, Int.tmod_eq_emod_of_nonneg, Int.tdiv_eq_ediv_of_nonneg]) | (refine lex_load rfl rfl _ (fun m W hJ hF => (by have cc := hcell W hJ; go_simp; rfl)) ?_; try simp (disch := omega) only [IntWalk.i64_in, IntWalk.u8_in, Int.add_sub_cancel, Int.tmod_eq_emod_of_nonneg, Int.tdiv_eq_ediv_of_nonneg]) | (refine lex_sadd rfl rfl rfl rfl rfl (by first | omega | (simp only [ByteArray.size_append]; omega)) ?_; go_simp)))
    refine lex_nil (fun m W hJ hF => ?_)
    clear hF hcell
    go_wp2
    go_ret
    exact ⟨r, rfl, Or.inl q4, hJ⟩
end Go.Proofs.Ytdenjmdngmmodaa
