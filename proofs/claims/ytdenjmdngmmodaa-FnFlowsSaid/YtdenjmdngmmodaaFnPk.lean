/- The law of packets. -/
import Derived.Test.YtdenjmdngmmodaaPkE
namespace Go.Proofs.Ytdenjmdngmmodaa
open Go.RowKit
set_option linter.unusedVariables false
set_option linter.unusedSimpArgs false
set_option maxRecDepth 20000
set_option maxHeartbeats 300000

theorem PacketOf_ok (A : Option Addr) (c : Nat) (bs : List UInt8) (hl : bs.length ≤ 1099511627776) (w : World) (hr : Rd w A (bs.map bV)) :
    Calls Try.prog 18 #[.slice A bs.length c] w fun e w' => ∃ v, e = .returned v ∧ PacketV v ∧ Below w.heap.size w w' := by
  go_enter Try.func18, Try.ntmps18
  go_wp2_with fail
  generalize hw0 : World.alloc w (.cells #[.int .i64 0, .int .i64 0, .int .i64 0, .int .i64 0, .int .i64 0, .string ⟨#[]⟩] 39) = w0
  have hblk : w0.heap[World.heap w |>.size]? = some (.cells #[.int .i64 0, .int .i64 0, .int .i64 0, .int .i64 0, .int .i64 0, .string ⟨#[]⟩] 39 (0, 0)) := by rw [← hw0]; exact heap_alloc_new _ _
  have hlt : (World.heap w).size < w0.heap.size := (Array.getElem?_eq_some_iff.1 hblk).1
  have hB0 : Below (World.heap w).size w w0 := by rw [← hw0]; exact (Below.refl _ _).alloc (Nat.le_refl _) _
  clear hw0
  refine (l00Source_ok A c bs hl w0 (hr.below hB0 (Nat.le_refl _))).mono ?_
  rintro e w1 ⟨rfl, hs, hB1⟩
  go_wp2_with fail
  refine (packet_ok w0.heap.size 0 w1 hs (by omega)).mono ?_
  rintro e w2 ⟨v, rfl, ⟨s, d, p, t, i, b, h1, h4, rfl⟩, hs2, hg⟩
  have HV := Lib.hid (And.intro h1 h4)
  have hb1 := (hB1.block _ hlt).trans hblk
  have hlt1 : w.heap.size < w1.heap.size := Nat.lt_of_lt_of_le hlt hB1.size
  have hb2 := (hg.block _ hlt1 (by simp; omega)).trans hb1
  have hB2 : Below w.heap.size w w2 := Below.grown (Below.trans hB0 (hB1.mono hB0.size)) hg (by omega) (fun k e => by cases e; exact hB0.size)
  have Hb := Lib.hid hb2
  clear hblk hb1 hb2 h1 h4
  go_wp2_with (refine wpList_store_row rfl _ _ 39 rfl w.heap.size 39 _ _ rfl rfl Hb.out rfl infoPk rfl ?_)
  refine bodyPost_ret (ret_cell rfl rfl (setRow_heap _ _ _ _ _ _ Hb.out) Try.underlying39 rfl infoPk) rfl ?_
  exact ⟨_, rfl, ⟨s, d, p, t, i, b, HV.out.1, HV.out.2, rfl⟩, below_setRow hB2 (Nat.le_refl _) _⟩

theorem xor_u8' : ∀ x : Fin 256, ∀ k : Fin 8, bits .xor .u8 ((x.val : Nat) : Int) (2 ^ min k.val 8 % 256) = ((x.val ^^^ 2 ^ k.val : Nat) : Int) := by decide +kernel
theorem xor_u8 (x : UInt8) (k : Nat) (hk : k < 8) : Value.int .u8 (bits .xor .u8 (x.toNat : Int) (2 ^ min k 8 % 256)) = bV (UInt8.ofNat (x.toNat ^^^ 2 ^ k)) ∧ (UInt8.ofNat (x.toNat ^^^ 2 ^ k)).toNat = x.toNat ^^^ 2 ^ k := by
  have h1 := xor_u8' ⟨x.toNat, x.toNat_lt⟩ ⟨k, hk⟩
  have h2 := (xor_bit ⟨x.toNat, x.toNat_lt⟩ ⟨k, hk⟩).2
  simp only at h1 h2
  have h3 : (UInt8.ofNat (x.toNat ^^^ 2 ^ k)).toNat = x.toNat ^^^ 2 ^ k := by simp only [UInt8.toNat_ofNat']; omega
  refine ⟨?_, h3⟩
  rw [h1, bV, h3]
def turnφ : Nat → Option Spec
  | 2 => some (fun _ v _ => ∃ r : Nat, v = .int .i64 r ∧ r < 20)
  | 6 => some (fun _ v _ => ∃ r : Nat, v = .int .i64 r ∧ r < 8)
  | _ => none
theorem FnPackets_ok (A : Option Addr) (c : Nat) (bs : List UInt8) (A2 : Option Addr) (c2 : Nat) (bs2 : List UInt8) (hc : bs.length ≤ c) (hc2 : bs2.length ≤ c2) (w : World) (hr : Rd w A (bs.map bV)) (hr2 : Rd w A2 (bs2.map bV)) :
    Calls Try.prog 4 #[.slice A bs.length c, .slice A2 bs2.length c2] w fun e w' => e = .returned (.bool true) ∧ Below w.heap.size w w' := by
  by_cases h1 : 1048576 < bs.length
  · have g1 : (1048576 : Int) < bs.length := by omega
    go_enter Try.func4, Try.ntmps4
    go_wp2
    go_ret
    exact ⟨rfl, Below.refl _ _⟩
  have g1 : decide ((1048576 : Int) < bs.length) = false := by simp; omega
  by_cases h2 : 1048576 < bs2.length
  · have g2 : (1048576 : Int) < bs2.length := by omega
    go_enter Try.func4, Try.ntmps4
    go_wp2
    go_ret
    exact ⟨rfl, Below.refl _ _⟩
  have g2 : decide ((1048576 : Int) < bs2.length) = false := by simp; omega
  go_enter Try.func4, Try.ntmps4
  go_wp2_with fail
  refine (PacketOf_ok A c bs (by omega) w hr).mono ?_
  rintro e w1 ⟨v, rfl, ⟨s, d, p, t, i, b, hOK, hb4, rfl⟩, hB1⟩
  have HF := Lib.hid (And.intro hOK hb4)
  clear hOK hb4
  go_wp2_with fail
  generalize hw0 : World.alloc w1 (.cells #[.int .i64 s, .int .i64 d, .int .i64 p, .int .i64 t, .int .i64 i, .string b] 39) = wa
  have hblk : wa.heap[World.heap w1 |>.size]? = some (.cells #[.int .i64 s, .int .i64 d, .int .i64 p, .int .i64 t, .int .i64 i, .string b] 39 (0, 0)) := by rw [← hw0]; exact heap_alloc_new _ _
  have hlt : (World.heap w1).size < wa.heap.size := (Array.getElem?_eq_some_iff.1 hblk).1
  have hB0 : Below (World.heap w1).size w1 wa := by rw [← hw0]; exact (Below.refl _ _).alloc (Nat.le_refl _) _
  clear hw0
  have hBa := Below.trans hB1 (hB0.mono hB1.size)
  refine (iPacketBytes_ok s d p t i b HF.out.1 wa).mono ?_
  rintro e w2 ⟨v, rfl, hown, hB2⟩
  obtain ⟨A6, c6, rfl, hc6, hr6, hA6⟩ := own_slice hown
  have hb5 := (hB2.block _ hlt).trans hblk
  have hlt5 : w1.heap.size < w2.heap.size := Nat.lt_of_lt_of_le hlt hB2.size
  have hBb := Below.trans hBa (hB2.mono hBa.size)
  clear hblk hlt hB0 hB1 hBa hown hB2
  generalize hg5 : w1.heap.size = g5 at *
  clear hg5 hA6
  have c0 := blk_cell hb5 0
  have c1 := blk_cell hb5 1
  have c2' := blk_cell hb5 2
  have c3 := blk_cell hb5 3
  have c4 := blk_cell hb5 4
  have c5 := blk_cell hb5 5
  simp at c0 c1 c2' c3 c4 c5
  have hL : (packetB s d p t i b).length = 20 + b.size := by rw [packetB, List.length_append, pkH_len, sb_len]
  have hrd0 := rdPk_back s d p t i b HF.out.1 [] (by have := HF.out.2; simp; omega)
  have hrd3 := rdPk_back s d p t i b HF.out.1 [1, 2, 3] (by have := HF.out.2; simp; omega)
  have hfull := packetB_full s d p t i b
  have hnum := packetB_num s d p t i b HF.out.1.body
  rw [List.append_nil] at hrd0
  generalize hbs6 : packetB s d p t i b = b6 at *
  have Hb6 := Lib.hid hbs6
  have HL := Lib.hid (And.intro hL HF.out.2)
  have HRD := Lib.hid (And.intro hrd0 (And.intro hrd3 (And.intro hfull hnum)))
  clear hbs6 hL hrd0 hrd3 hfull hnum
  go_wp2_with fail
  refine (sPacketBytes_ok s d p t i b HF.out.1 w2).mono ?_
  rintro e w3 ⟨v, rfl, ⟨A8, c8, rfl, hc8, hr8⟩, hB3⟩
  rw [Hb6.out] at hc8 hr8 ⊢
  have hb5' := (hB3.block _ hlt5).trans hb5
  have hr6' := hr6.below hB3 (Nat.le_refl _)
  have hBc := Below.trans hBb (hB3.mono hBb.size)
  have hlt5' : g5 < w3.heap.size := Nat.lt_of_lt_of_le hlt5 hB3.size
  clear hr6 hb5 hBb hB3 hlt5 c0 c1 c2' c3 c4 c5
  go_wp2_with fail
  refine (ReadPacket_ok A6 c6 b6 (by have := HL.out; omega) hc6 w3 hr6').mono ?_
  rintro e w4 ⟨rfl, hB4⟩
  rw [HRD.out.1]
  dsimp only [Pk.v, bstr_sb]
  have F1 := Lib.hid (And.intro hb5' (And.intro hr6' (And.intro hr8 hlt5')))
  clear hb5' hr6' hr8 hlt5'
  go_wp2_with (at_builtin; refine Hid.out ?_)
  refine Lib.hid ?_
  have hsz : (w4.alloc (.cells #[.int .i64 s, .int .i64 d, .int .i64 p, .int .i64 t, .int .i64 i, .string b] 39)).heap.size = w4.heap.size + 1 := by simp
  have hblk : (w4.alloc (.cells #[.int .i64 s, .int .i64 d, .int .i64 p, .int .i64 t, .int .i64 i, .string b] 39)).heap[w4.heap.size]? = some (.cells #[.int .i64 s, .int .i64 d, .int .i64 p, .int .i64 t, .int .i64 i, .string b] 39 (0, 0)) := heap_alloc_new _ _
  have hB0 : Below w4.heap.size w4 (w4.alloc (.cells #[.int .i64 s, .int .i64 d, .int .i64 p, .int .i64 t, .int .i64 i, .string b] 39)) := (Below.refl _ _).alloc (Nat.le_refl _) _
  generalize w4.alloc (.cells #[.int .i64 s, .int .i64 d, .int .i64 p, .int .i64 t, .int .i64 i, .string b] 39) = wb at hsz hblk hB0 ⊢
  rw [← hsz]
  have hlt : w4.heap.size < wb.heap.size := by omega
  have L1 : LeB w3 wb := LeB.tr hB4 hB0
  have L0 : LeB w wb := LeB.tr hBc L1
  have F2 := Lib.hid (And.intro hblk hlt)
  clear hblk hlt hB0 hB4 hBc hsz
  generalize hg10 : w4.heap.size = g10 at *
  clear hg10
  have hown0 : (wb.alloc (.cells #[] 5)).ownsRow wb.heap.size 5 1 (.slice (some ⟨wb.heap.size, 0, none⟩) 0 0) ([] : List UInt8).length (([] : List UInt8).map bV) := World.ownsRow_lit wb #[] 0 (Nat.le_refl _) (by simp [maxLen]) (by simp)
  have hBc0 : Below wb.heap.size wb (wb.alloc (.cells #[] 5)) := (Below.refl _ _).alloc (Nat.le_refl _) _
  generalize wb.alloc (.cells #[] 5) = wc at hown0 hBc0 ⊢
  have hr6c := F1.out.2.1.below (LeB.tr L1 hBc0) (Nat.le_refl _)
  obtain ⟨v47, wd, hrun, hown1, hg1⟩ := append_bytes wc wb.heap.size _ [] hown0 A6 c6 b6 hr6c (by have := HL.out; simp; omega) hBc0.size
  rw [List.nil_append] at hown1
  have hBd : Below wb.heap.size wb wd := hBc0.grown hg1 hBc0.size (fun k e => (hown0.lt k e).1)
  refine wpList_append_run rfl _ _ _ _ rfl rfl rfl hrun ?_
  clear hrun hown0 hBc0 hg1 hr6c
  have HO1 := Lib.hid hown1
  clear hown1
  go_wp2_with (at_builtin; refine Hid.out ?_)
  refine Lib.hid ?_
  generalize hw0 : World.alloc wd (.cells #[.int .u8 1, .int .u8 2, .int .u8 3] 5) = we
  have hblk : we.heap[World.heap wd |>.size]? = some (.cells #[.int .u8 1, .int .u8 2, .int .u8 3] 5 (0, 0)) := by rw [← hw0]; exact heap_alloc_new _ _
  have hlt : (World.heap wd).size < we.heap.size := (Array.getElem?_eq_some_iff.1 hblk).1
  have hB0 : Below (World.heap wd).size wd we := by rw [← hw0]; exact (Below.refl _ _).alloc (Nat.le_refl _) _
  clear hw0
  have hown2 : we.ownsRow wb.heap.size 5 1 v47 b6.length (b6.map bV) := OwnSp.st (x := #[]) hB0 HO1.out
  obtain ⟨v49, wf, hrun2, hown3, hg2⟩ := append_bytes we wb.heap.size v47 b6 hown2 (some ⟨wd.heap.size, 0, none⟩) 3 [1, 2, 3] (by simpa [bV] using Rd.block hblk 0) (by have := HL.out; simp; omega) (Nat.le_trans hBd.size hB0.size)
  have hBf : Below wb.heap.size wb wf := (Below.trans hBd (hB0.mono hBd.size)).grown hg2 (Nat.le_trans hBd.size hB0.size) (fun k e => (hown2.lt k e).1)
  refine wpList_append_run rfl _ _ _ _ rfl rfl rfl hrun2 ?_
  obtain ⟨A49, c49, rfl, hc49, hr49, -⟩ := own_slice hown3
  have hl49 := Lib.hid (show (b6 ++ [1, 2, 3]).length = b6.length + 3 by simp)
  clear hrun2 hown2 hown3 hg2 hblk hlt hB0 hBd HO1
  go_wp2_with fail
  refine (hl49.out ▸ ReadPacket_ok A49 c49 (b6 ++ [1, 2, 3]) (by have := HL.out; have := hl49.out; omega) hc49 wf hr49).mono ?_
  rintro e wg ⟨rfl, hBg⟩
  rw [HRD.out.2.1]
  dsimp only [Pk.v, bstr_sb]
  clear hr49
  go_wp2_with fail
  generalize hw0 : World.alloc wg (.cells #[.int .i64 s, .int .i64 d, .int .i64 p, .int .i64 t, .int .i64 i, .string b] 39) = wh
  have hblk : wh.heap[World.heap wg |>.size]? = some (.cells #[.int .i64 s, .int .i64 d, .int .i64 p, .int .i64 t, .int .i64 i, .string b] 39 (0, 0)) := by rw [← hw0]; exact heap_alloc_new _ _
  have hlt : (World.heap wg).size < wh.heap.size := (Array.getElem?_eq_some_iff.1 hblk).1
  have hB0 : Below (World.heap wg).size wg wh := by rw [← hw0]; exact (Below.refl _ _).alloc (Nat.le_refl _) _
  clear hw0
  have P1 : LeB wb wh := LeB.tr hBf (LeB.tr hBg hB0)
  have P3 : LeB w3 wh := LeB.tr L1 P1
  have PW : LeB w wh := LeB.tr L0 P1
  generalize hg12 : wg.heap.size = g12 at *
  clear hg12 hB0 hBg hBf
  have r6 := bytes_str A6 b6.length c6 b6 rfl wh (F1.out.2.1.below P3 (Nat.le_refl _))
  have r8 := bytes_str A8 b6.length c8 b6 rfl wh (F1.out.2.2.1.below P3 (Nat.le_refl _))
  have b5 := (P3.block _ F1.out.2.2.2).trans F1.out.1
  have b10 := (P1.block _ F2.out.2).trans F2.out.1
  have b12 := hblk
  have x0 := blk_cell b5 0
  have x1 := blk_cell b5 1
  have x2 := blk_cell b5 2
  have x3 := blk_cell b5 3
  have x4 := blk_cell b5 4
  have x5 := blk_cell b5 5
  have y0 := blk_cell b10 0
  have y1 := blk_cell b10 1
  have y2 := blk_cell b10 2
  have y3 := blk_cell b10 3
  have y4 := blk_cell b10 4
  have y5 := blk_cell b10 5
  have z0 := blk_cell b12 0
  have z1 := blk_cell b12 1
  have z2 := blk_cell b12 2
  have z3 := blk_cell b12 3
  have z4 := blk_cell b12 4
  have z5 := blk_cell b12 5
  simp at x0 x1 x2 x3 x4 x5 y0 y1 y2 y3 y4 y5 z0 z1 z2 z3 z4 z5
  have hle4 : (b.size : Int) ≤ 4 := by have := HF.out.2; omega
  have q1 : ((b6.length : Int) != 20 + b.size) = false := by have := HL.out; simp; omega
  have q2 : ((b6.length : Int) == 20 + b.size) = true := by have := HL.out; simp; omega
  clear b5 b10 b12 hblk hlt
  rw [r6]
  go_wp2_with (at_builtin; refine Hid.out ?_)
  refine Lib.hid ?_
  have hownE : (wh.alloc (.cells #[] 5)).ownsRow wh.heap.size 5 1 (.slice (some ⟨wh.heap.size, 0, none⟩) 0 0) ([] : List UInt8).length (([] : List UInt8).map bV) := World.ownsRow_lit wh #[] 0 (Nat.le_refl _) (by simp [maxLen]) (by simp)
  have hBi : Below wh.heap.size wh (wh.alloc (.cells #[] 5)) := (Below.refl _ _).alloc (Nat.le_refl _) _
  generalize wh.alloc (.cells #[] 5) = wi at hownE hBi ⊢
  obtain ⟨v14, wj, hrun4, hown5, hg5⟩ := append_bytes wi wh.heap.size _ [] hownE A6 c6 b6 (F1.out.2.1.below (LeB.tr P3 hBi) (Nat.le_refl _)) (by have := HL.out; simp; omega) hBi.size
  rw [List.nil_append] at hown5
  have hBj : Below wh.heap.size wh wj := hBi.grown hg5 hBi.size (fun k e => (hownE.lt k e).1)
  refine wpList_append_run rfl _ _ _ _ rfl rfl rfl hrun4 ?_
  obtain ⟨hlen5, hcase⟩ := hown5
  rcases hcase with ⟨-, h0⟩ | ⟨g14, cap, cur, rfl, hbase, hheap, hnc, hcm, hsz, htake⟩
  · exact absurd h0 (by have := HL.out; omega)
  have F6 := Lib.hid (And.intro hheap (And.intro htake (And.intro hsz (And.intro hnc (And.intro hcm hbase)))))
  have hlg : g14 < wj.heap.size := (Array.getElem?_eq_some_iff.1 hheap).1
  have h20 : 20 ≤ b6.length := by have := HL.out; omega
  have HX := Lib.hid (And.intro r6 r8)
  clear hrun4 hownE hBi hg5 hheap htake hsz hnc hcm hbase hlen5 r6 r8 x0 x1 x2 x3 x4 x5 y0 y1 y2 y3 y4 y5 z0 z1 z2 z3 z4 z5
  go_wp2_with fail
  refine wp_region_lex 10 (by kernel_rfl) (by kernel_rfl) (JB wj) LeB turnφ ?_ JB.mono ?_ ?_
  · intro j sp x v W W' hj hL h
    unfold turnφ at hj
    split at hj <;> first | (cases hj; exact h) | cases hj
  · exact (Below.refl _ _).drew
  simp only [List.take_succ_cons, List.take_zero, List.drop_succ_cons, List.drop_zero, pairs, List.zipIdx_cons, List.zipIdx_nil, List.map_cons, List.map_nil, Nat.zero_add, Nat.reduceAdd]
  (repeat (refine lex_pure rfl rfl (fun K hK => ?_); go_simp; refine hK _ ?_; clear hK K; try simp (disch := omega) only [IntWalk.i64_in, IntWalk.u8_in, Int.add_sub_cancel, Int.tmod_eq_emod_of_nonneg, Int.tdiv_eq_ediv_of_nonneg]))
  refine lex_eff' (sp := fun _ v _ => ∃ r : Nat, v = .int .i64 r ∧ r < 20) rfl rfl (by intro _ _ _ _ h; exact h) (fun m W hJ hF => ?_) (fun v x hh => ?_) rfl
  · refine gives_call Try.call17 ((at_ok2 A2 c2 bs2 (by omega) hc2 0 20 (by omega) (by omega) W (hr2.below (LeB.tr PW (LeB.tr hBj hJ)) (Nat.le_refl _))).mono ?_)
    rintro e w' ⟨r, rfl, h1, h2⟩
    exact ⟨_, rfl, hJ.step h2, LeB.of h2, r, rfl, by omega⟩
  obtain ⟨_, _, -, ⟨r, rfl, hr20⟩, -⟩ := hh
  have hrl : (r : Int) < b6.length := by omega
  have hrn : r < b6.length := by omega
  (repeat (refine lex_pure rfl rfl (fun K hK => ?_); go_simp; refine hK _ ?_; clear hK K; try simp (disch := omega) only [IntWalk.i64_in, IntWalk.u8_in, Int.add_sub_cancel, Int.tmod_eq_emod_of_nonneg, Int.tdiv_eq_ediv_of_nonneg]))
  obtain ⟨xv, hxv⟩ : ∃ xv : Nat, xv = (b6[r]'hrn).toNat := ⟨_, rfl⟩
  refine lex_load (i := 4) (φ := turnφ) rfl rfl (Value.int .u8 (xv : Int)) (fun m W hJ hF => ?_) ?_
  · have hc := (rd_take ((hJ.block g14 hlg).trans F6.out.1) F6.out.2.1).at_ (k := r) (by simpa using hrn)
    obtain ⟨ad, e, hc⟩ := hc
    cases e
    have hc' : W.cell? ⟨g14, r, none⟩ = some (.int .u8 (xv : Int)) := by rw [Addr.add_lit] at hc; rw [hxv]; simpa [bV] using hc
    go_simp
  have hu := (b6[r]'hrn).toNat_lt
  have hu1 : (xv : Int) ≤ 255 := by omega
  have hu2 : xv < 256 := by omega
  (repeat (refine lex_pure rfl rfl (fun K hK => ?_); go_simp; refine hK _ ?_; clear hK K; try simp (disch := omega) only [IntWalk.i64_in, IntWalk.u8_in, Int.add_sub_cancel, Int.tmod_eq_emod_of_nonneg, Int.tdiv_eq_ediv_of_nonneg]))
  refine lex_eff' (sp := fun _ v _ => ∃ r : Nat, v = .int .i64 r ∧ r < 8) rfl rfl (by intro _ _ _ _ h; exact h) (fun m W hJ hF => ?_) (fun v x hh => ?_) rfl
  · refine gives_call Try.call17 ((at_ok2 A2 c2 bs2 (by omega) hc2 1 8 (by omega) (by omega) W (hr2.below (LeB.tr PW (LeB.tr hBj hJ)) (Nat.le_refl _))).mono ?_)
    rintro e w' ⟨r, rfl, h1, h2⟩
    exact ⟨_, rfl, hJ.step h2, LeB.of h2, r, rfl, by omega⟩
  obtain ⟨_, _, -, ⟨k, rfl, hk8⟩, -⟩ := hh
  (repeat (refine lex_pure rfl rfl (fun K hK => ?_); go_simp; refine hK _ ?_; clear hK K; try simp (disch := omega) only [IntWalk.i64_in, IntWalk.u8_in, Int.add_sub_cancel, Int.tmod_eq_emod_of_nonneg, Int.tdiv_eq_ediv_of_nonneg]))
  refine lex_nil (fun m W hJ hF => ?_)
  have hheapW := (hJ.block g14 hlg).trans F6.out.1
  have hcr : W.cell? ⟨g14, r, none⟩ = some (.int .u8 (xv : Int)) := by
    obtain ⟨ad, e, hc⟩ := (rd_take hheapW F6.out.2.1).at_ (k := r) (by simpa using hrn)
    cases e
    rw [Addr.add_lit] at hc; rw [hxv]; simpa [bV] using hc
  have hfr : W.frozen? ⟨g14, r, none⟩ = false := blk_free hheapW r
  have HW := Lib.hid (And.intro hheapW (And.intro hxv hu))
  have HJ := Lib.hid hJ
  clear hheapW hxv hu hF hJ
  go_wp2_with fail
  obtain ⟨y1, y2⟩ := xor_u8 (b6[r]'hrn) k hk8
  rw [y1]
  generalize UInt8.ofNat ((b6[r]'hrn).toNat ^^^ 2 ^ k) = y at *
  have hb14 := blk_set HW.out.1 r (bV y)
  have hBw : Below wh.heap.size wh (W.setCell ⟨g14, r, none⟩ (bV y)) := (Below.trans hBj (Below.mono HJ.out hBj.size)).setCell (p := ⟨g14, r, none⟩) F6.out.2.2.2.2.2 _
  generalize W.setCell ⟨g14, r, none⟩ (bV y) = W1 at hb14 hBw ⊢
  have htk : ((cur.setIfInBounds r (bV y)).toList.take (b6.length * 1)) = (b6.set r y).map bV := by rw [Array.toList_setIfInBounds, List.take_set, F6.out.2.1, List.map_set]
  have hr14 := rd_take hb14 htk
  have hE1 := rdPk_turned b6 h20 HRD.out.2.2.1 r hr20 k hk8 y y2
  have hls : (b6.set r y).length = b6.length := List.length_set
  clear hb14 htk hcr hfr
  refine (hls ▸ ReadPacket_ok (some ⟨g14, 0, none⟩) cap (b6.set r y) (by have := HL.out; omega) (by have := F6.out.2.2.2.1; omega) W1 hr14).mono ?_
  rintro e w15 ⟨rfl, hB15⟩
  generalize rdPk (b6.set r y) = R1 at *
  obtain ⟨⟨a1, a2, a3, a4, a5, a6⟩, a7⟩ := R1
  have hE : (a7 != 0) = true := by simpa using hE1
  have hEf : (a7 == 0) = false := by simpa using hE1
  have Q1 : LeB wh w15 := LeB.tr hBw hB15
  dsimp only [Pk.v]
  clear hr14 hls hE1 y1 y2 hBw hB15
  go_wp2_with fail
  generalize hw0 : World.alloc w15 (.cells #[.int .i64 a1, .int .i64 a2, .int .i64 a3, .int .i64 a4, .int .i64 a5, .string (bstr a6)] 39) = w16
  have hblk : w16.heap[World.heap w15 |>.size]? = some (.cells #[.int .i64 a1, .int .i64 a2, .int .i64 a3, .int .i64 a4, .int .i64 a5, .string (bstr a6)] 39 (0, 0)) := by rw [← hw0]; exact heap_alloc_new _ _
  have hlt : (World.heap w15).size < w16.heap.size := (Array.getElem?_eq_some_iff.1 hblk).1
  have hB0 : Below (World.heap w15).size w15 w16 := by rw [← hw0]; exact (Below.refl _ _).alloc (Nat.le_refl _) _
  clear hw0
  have Q2 : LeB wh w16 := LeB.tr Q1 hB0
  clear hblk hlt hB0 Q1
  refine (at_ok2 A2 c2 bs2 (by omega) hc2 2 b6.length (by omega) (by have := HL.out; omega) w16 (hr2.below (LeB.tr PW Q2) (Nat.le_refl _))).mono ?_
  rintro e w17 ⟨r2, rfl, hr2b, hB17⟩
  have hr2l : r2 < b6.length := by omega
  have hr2c : (r2 : Int) ≤ c6 := by omega
  have hlr : (b6.take r2).length = r2 := by rw [List.length_take]; omega
  have hE2 := rdPk_cut b6 r2 hr2l HRD.out.2.2.2
  have hr6z := (F1.out.2.1.below (LeB.tr P3 (LeB.tr Q2 hB17)) (Nat.le_refl _)).hd r2
  clear hr2b
  go_wp2_with fail
  refine (hlr ▸ ReadPacket_ok A6 c6 (b6.take r2) (by have := HL.out; omega) (by omega) w17 hr6z).mono ?_
  rintro e w18 ⟨rfl, hB18⟩
  generalize rdPk (b6.take r2) = R2 at *
  obtain ⟨⟨e1, e2, e3, e4, e5, e6⟩, e7⟩ := R2
  have hG : (e7 != 0) = true := by simpa using hE2
  have hGf : (e7 == 0) = false := by simpa using hE2
  have QE := Lib.hid (LeB.tr PW (LeB.tr Q2 (LeB.tr hB17 hB18)))
  dsimp only [Pk.v]
  clear hr6z hE2 hlr hr2c
  go_wp2
  go_ret
  exact ⟨rfl, QE.out.alloc QE.out.size _⟩
end Go.Proofs.Ytdenjmdngmmodaa
