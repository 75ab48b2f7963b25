/- The law of packets. | Connections: the small calls, and what is drawn for them. | Connections: bytes drawn. | Connections: the model, and how one opens. | Connections: opening. -/
import Derived.Test.YtdenjmdngmmodaaKc03
namespace Go.Proofs.Ytdenjmdngmmodaa
open Go.RowKit
set_option linter.unusedVariables false
set_option linter.unusedSimpArgs false
set_option maxRecDepth 20000
set_option maxHeartbeats 300000

theorem PacketOf_ok (A : Option Addr) (c : Nat) (bs : List UInt8) (hl : bs.length ≤ 1099511627776) (w : World) (hr : Rd w A (bs.map bV)) :
    Calls Try.prog 18 #[.slice A bs.length c] w fun e w' => ∃ v, e = .returned v ∧ PacketV v ∧ Below w.heap.size w w' := by
  go_enter Try.func18, Try.ntmps18
  go_wp2_with fail
  generalize hw0 : World.alloc w (.cells #[.int .i64 0, .int .i64 0, .int .i64 0, .int .i64 0, .int .i64 0, .string ⟨#[]⟩] 39) = w0
  have hblk : w0.heap[World.heap w |>.size]? = some (.cells #[.int .i64 0, .int .i64 0, .int .i64 0, .int .i64 0, .int .i64 0, .string ⟨#[]⟩] 39 (0, 0)) := by rw [← hw0]; exact heap_alloc_new _ _
  have hlt : (World.heap w).size < w0.heap.size := (Array.getElem?_eq_some_iff.1 hblk).1
  have hB0 : Below (World.heap w).size w w0 := by rw [← hw0]; exact (Below.refl _ _).alloc (Nat.le_refl _) _
  clear hw0
  refine (l00Source_ok A c bs hl w0 (hr.below hB0 (Nat.le_refl _))).mono ?_
  rintro e w1 ⟨rfl, hs, hB1⟩
  go_wp2_with fail
  refine (packet_ok w0.heap.size 0 w1 hs (by omega)).mono ?_
  rintro e w2 ⟨v, rfl, ⟨s, d, p, t, i, b, h1, h4, rfl⟩, hs2, hg⟩
  have HV := Lib.hid (And.intro h1 h4)
  have hb1 := (hB1.block _ hlt).trans hblk
  have hlt1 : w.heap.size < w1.heap.size := Nat.lt_of_lt_of_le hlt hB1.size
  have hb2 := (hg.block _ hlt1 (by simp; omega)).trans hb1
  have hB2 : Below w.heap.size w w2 := Below.grown (Below.trans hB0 (hB1.mono hB0.size)) hg (by omega) (fun k e => by cases e; exact hB0.size)
  have Hb := Lib.hid hb2
  clear hblk hb1 hb2 h1 h4
  go_wp2_with (refine wpList_store_row rfl _ _ 39 rfl w.heap.size 39 _ _ rfl rfl Hb.out rfl infoPk rfl ?_)
  refine bodyPost_ret (ret_cell rfl rfl (setRow_heap _ _ _ _ _ _ Hb.out) Try.underlying39 rfl infoPk) rfl ?_
  exact ⟨_, rfl, ⟨s, d, p, t, i, b, HV.out.1, HV.out.2, rfl⟩, below_setRow hB2 (Nat.le_refl _) _⟩

theorem xor_u8' : ∀ x : Fin 256, ∀ k : Fin 8, bits .xor .u8 ((x.val : Nat) : Int) (2 ^ min k.val 8 % 256) = ((x.val ^^^ 2 ^ k.val : Nat) : Int) := by decide +kernel
theorem xor_u8 (x : UInt8) (k : Nat) (hk : k < 8) : Value.int .u8 (bits .xor .u8 (x.toNat : Int) (2 ^ min k 8 % 256)) = bV (UInt8.ofNat (x.toNat ^^^ 2 ^ k)) ∧ (UInt8.ofNat (x.toNat ^^^ 2 ^ k)).toNat = x.toNat ^^^ 2 ^ k := by
  have h1 := xor_u8' ⟨x.toNat, x.toNat_lt⟩ ⟨k, hk⟩
  have h2 := (xor_bit ⟨x.toNat, x.toNat_lt⟩ ⟨k, hk⟩).2
  simp only at h1 h2
  have h3 : (UInt8.ofNat (x.toNat ^^^ 2 ^ k)).toNat = x.toNat ^^^ 2 ^ k := by simp only [UInt8.toNat_ofNat']; omega
  refine ⟨?_, h3⟩
  rw [h1, bV, h3]
def turnφ : Nat → Option Spec
  | 2 => some (fun _ v _ => ∃ r : Nat, v = .int .i64 r ∧ r < 20)
  | 6 => some (fun _ v _ => ∃ r : Nat, v = .int .i64 r ∧ r < 8)
  | _ => none
theorem FnPackets_ok (A : Option Addr) (c : Nat) (bs : List UInt8) (A2 : Option Addr) (c2 : Nat) (bs2 : List UInt8) (hc : bs.length ≤ c) (hc2 : bs2.length ≤ c2) (w : World) (hr : Rd w A (bs.map bV)) (hr2 : Rd w A2 (bs2.map bV)) :
    Calls Try.prog 4 #[.slice A bs.length c, .slice A2 bs2.length c2] w fun e w' => e = .returned (.bool true) ∧ Below w.heap.size w w' := by
  by_cases h1 : 1048576 < bs.length
  · have g1 : (1048576 : Int) < bs.length := by omega
    go_enter Try.func4, Try.ntmps4
    go_wp2
    go_ret
    exact ⟨rfl, Below.refl _ _⟩
  have g1 : decide ((1048576 : Int) < bs.length) = false := by simp; omega
  by_cases h2 : 1048576 < bs2.length
  · have g2 : (1048576 : Int) < bs2.length := by omega
    go_enter Try.func4, Try.ntmps4
    go_wp2
    go_ret
    exact ⟨rfl, Below.refl _ _⟩
  have g2 : decide ((1048576 : Int) < bs2.length) = false := by simp; omega
  go_enter Try.func4, Try.ntmps4
  go_wp2_with fail
  refine (PacketOf_ok A c bs (by omega) w hr).mono ?_
  rintro e w1 ⟨v, rfl, ⟨s, d, p, t, i, b, hOK, hb4, rfl⟩, hB1⟩
  have HF := Lib.hid (And.intro hOK hb4)
  clear hOK hb4
  go_wp2_with fail
  generalize hw0 : World.alloc w1 (.cells #[.int .i64 s, .int .i64 d, .int .i64 p, .int .i64 t, .int .i64 i, .string b] 39) = wa
  have hblk : wa.heap[World.heap w1 |>.size]? = some (.cells #[.int .i64 s, .int .i64 d, .int .i64 p, .int .i64 t, .int .i64 i, .string b] 39 (0, 0)) := by rw [← hw0]; exact heap_alloc_new _ _
  have hlt : (World.heap w1).size < wa.heap.size := (Array.getElem?_eq_some_iff.1 hblk).1
  have hB0 : Below (World.heap w1).size w1 wa := by rw [← hw0]; exact (Below.refl _ _).alloc (Nat.le_refl _) _
  clear hw0
  have hBa := Below.trans hB1 (hB0.mono hB1.size)
  refine (iPacketBytes_ok s d p t i b HF.out.1 wa).mono ?_
  rintro e w2 ⟨v, rfl, hown, hB2⟩
  obtain ⟨A6, c6, rfl, hc6, hr6, hA6⟩ := own_slice hown
  have hb5 := (hB2.block _ hlt).trans hblk
  have hlt5 : w1.heap.size < w2.heap.size := Nat.lt_of_lt_of_le hlt hB2.size
  have hBb := Below.trans hBa (hB2.mono hBa.size)
  clear hblk hlt hB0 hB1 hBa hown hB2
  generalize hg5 : w1.heap.size = g5 at *
  clear hg5 hA6
  have c0 := blk_cell hb5 0
  have c1 := blk_cell hb5 1
  have c2' := blk_cell hb5 2
  have c3 := blk_cell hb5 3
  have c4 := blk_cell hb5 4
  have c5 := blk_cell hb5 5
  simp at c0 c1 c2' c3 c4 c5
  have hL : (packetB s d p t i b).length = 20 + b.size := by rw [packetB, List.length_append, pkH_len, sb_len]
  have hrd0 := rdPk_back s d p t i b HF.out.1 [] (by have := HF.out.2; simp; omega)
  have hrd3 := rdPk_back s d p t i b HF.out.1 [1, 2, 3] (by have := HF.out.2; simp; omega)
  have hfull := packetB_full s d p t i b
  have hnum := packetB_num s d p t i b HF.out.1.body
  rw [List.append_nil] at hrd0
  generalize hbs6 : packetB s d p t i b = b6 at *
  have Hb6 := Lib.hid hbs6
  have HL := Lib.hid (And.intro hL HF.out.2)
  have HRD := Lib.hid (And.intro hrd0 (And.intro hrd3 (And.intro hfull hnum)))
  clear hbs6 hL hrd0 hrd3 hfull hnum
  go_wp2_with fail
  refine (sPacketBytes_ok s d p t i b HF.out.1 w2).mono ?_
  rintro e w3 ⟨v, rfl, ⟨A8, c8, rfl, hc8, hr8⟩, hB3⟩
  rw [Hb6.out] at hc8 hr8 ⊢
  have hb5' := (hB3.block _ hlt5).trans hb5
  have hr6' := hr6.below hB3 (Nat.le_refl _)
  have hBc := Below.trans hBb (hB3.mono hBb.size)
  have hlt5' : g5 < w3.heap.size := Nat.lt_of_lt_of_le hlt5 hB3.size
  clear hr6 hb5 hBb hB3 hlt5 c0 c1 c2' c3 c4 c5
  go_wp2_with fail
  refine (ReadPacket_ok A6 c6 b6 (by have := HL.out; omega) hc6 w3 hr6').mono ?_
  rintro e w4 ⟨rfl, hB4⟩
  rw [HRD.out.1]
  dsimp only [Pk.v, bstr_sb]
  have F1 := Lib.hid (And.intro hb5' (And.intro hr6' (And.intro hr8 hlt5')))
  clear hb5' hr6' hr8 hlt5'
  go_wp2_with (at_builtin; refine Hid.out ?_)
  refine Lib.hid ?_
  have hsz : (w4.alloc (.cells #[.int .i64 s, .int .i64 d, .int .i64 p, .int .i64 t, .int .i64 i, .string b] 39)).heap.size = w4.heap.size + 1 := by simp
  have hblk : (w4.alloc (.cells #[.int .i64 s, .int .i64 d, .int .i64 p, .int .i64 t, .int .i64 i, .string b] 39)).heap[w4.heap.size]? = some (.cells #[.int .i64 s, .int .i64 d, .int .i64 p, .int .i64 t, .int .i64 i, .string b] 39 (0, 0)) := heap_alloc_new _ _
  have hB0 : Below w4.heap.size w4 (w4.alloc (.cells #[.int .i64 s, .int .i64 d, .int .i64 p, .int .i64 t, .int .i64 i, .string b] 39)) := (Below.refl _ _).alloc (Nat.le_refl _) _
  generalize w4.alloc (.cells #[.int .i64 s, .int .i64 d, .int .i64 p, .int .i64 t, .int .i64 i, .string b] 39) = wb at hsz hblk hB0 ⊢
  rw [← hsz]
  have hlt : w4.heap.size < wb.heap.size := by omega
  have L1 : LeB w3 wb := LeB.tr hB4 hB0
  have L0 : LeB w wb := LeB.tr hBc L1
  have F2 := Lib.hid (And.intro hblk hlt)
  clear hblk hlt hB0 hB4 hBc hsz
  generalize hg10 : w4.heap.size = g10 at *
  clear hg10
  have hown0 : (wb.alloc (.cells #[] 5)).ownsRow wb.heap.size 5 1 (.slice (some ⟨wb.heap.size, 0, none⟩) 0 0) ([] : List UInt8).length (([] : List UInt8).map bV) := World.ownsRow_lit wb #[] 0 (Nat.le_refl _) (by simp [maxLen]) (by simp)
  have hBc0 : Below wb.heap.size wb (wb.alloc (.cells #[] 5)) := (Below.refl _ _).alloc (Nat.le_refl _) _
  generalize wb.alloc (.cells #[] 5) = wc at hown0 hBc0 ⊢
  have hr6c := F1.out.2.1.below (LeB.tr L1 hBc0) (Nat.le_refl _)
  obtain ⟨v47, wd, hrun, hown1, hg1⟩ := append_bytes wc wb.heap.size _ [] hown0 A6 c6 b6 hr6c (by have := HL.out; simp; omega) hBc0.size
  rw [List.nil_append] at hown1
  have hBd : Below wb.heap.size wb wd := hBc0.grown hg1 hBc0.size (fun k e => (hown0.lt k e).1)
  refine wpList_append_run rfl _ _ _ _ rfl rfl rfl hrun ?_
  clear hrun hown0 hBc0 hg1 hr6c
  have HO1 := Lib.hid hown1
  clear hown1
  go_wp2_with (at_builtin; refine Hid.out ?_)
  refine Lib.hid ?_
  generalize hw0 : World.alloc wd (.cells #[.int .u8 1, .int .u8 2, .int .u8 3] 5) = we
  have hblk : we.heap[World.heap wd |>.size]? = some (.cells #[.int .u8 1, .int .u8 2, .int .u8 3] 5 (0, 0)) := by rw [← hw0]; exact heap_alloc_new _ _
  have hlt : (World.heap wd).size < we.heap.size := (Array.getElem?_eq_some_iff.1 hblk).1
  have hB0 : Below (World.heap wd).size wd we := by rw [← hw0]; exact (Below.refl _ _).alloc (Nat.le_refl _) _
  clear hw0
  have hown2 : we.ownsRow wb.heap.size 5 1 v47 b6.length (b6.map bV) := OwnSp.st (x := #[]) hB0 HO1.out
  obtain ⟨v49, wf, hrun2, hown3, hg2⟩ := append_bytes we wb.heap.size v47 b6 hown2 (some ⟨wd.heap.size, 0, none⟩) 3 [1, 2, 3] (by simpa [bV] using Rd.block hblk 0) (by have := HL.out; simp; omega) (Nat.le_trans hBd.size hB0.size)
  have hBf : Below wb.heap.size wb wf := (Below.trans hBd (hB0.mono hBd.size)).grown hg2 (Nat.le_trans hBd.size hB0.size) (fun k e => (hown2.lt k e).1)
  refine wpList_append_run rfl _ _ _ _ rfl rfl rfl hrun2 ?_
  obtain ⟨A49, c49, rfl, hc49, hr49, -⟩ := own_slice hown3
  have hl49 := Lib.hid (show (b6 ++ [1, 2, 3]).length = b6.length + 3 by simp)
  clear hrun2 hown2 hown3 hg2 hblk hlt hB0 hBd HO1
  go_wp2_with fail
  refine (hl49.out ▸ ReadPacket_ok A49 c49 (b6 ++ [1, 2, 3]) (by have := HL.out; have := hl49.out; omega) hc49 wf hr49).mono ?_
  rintro e wg ⟨rfl, hBg⟩
  rw [HRD.out.2.1]
  dsimp only [Pk.v, bstr_sb]
  clear hr49
  go_wp2_with fail
  generalize hw0 : World.alloc wg (.cells #[.int .i64 s, .int .i64 d, .int .i64 p, .int .i64 t, .int .i64 i, .string b] 39) = wh
  have hblk : wh.heap[World.heap wg |>.size]? = some (.cells #[.int .i64 s, .int .i64 d, .int .i64 p, .int .i64 t, .int .i64 i, .string b] 39 (0, 0)) := by rw [← hw0]; exact heap_alloc_new _ _
  have hlt : (World.heap wg).size < wh.heap.size := (Array.getElem?_eq_some_iff.1 hblk).1
  have hB0 : Below (World.heap wg).size wg wh := by rw [← hw0]; exact (Below.refl _ _).alloc (Nat.le_refl _) _
  clear hw0
  have P1 : LeB wb wh := LeB.tr hBf (LeB.tr hBg hB0)
  have P3 : LeB w3 wh := LeB.tr L1 P1
  have PW : LeB w wh := LeB.tr L0 P1
  generalize hg12 : wg.heap.size = g12 at *
  clear hg12 hB0 hBg hBf
  have r6 := bytes_str A6 b6.length c6 b6 rfl wh (F1.out.2.1.below P3 (Nat.le_refl _))
  have r8 := bytes_str A8 b6.length c8 b6 rfl wh (F1.out.2.2.1.below P3 (Nat.le_refl _))
  have b5 := (P3.block _ F1.out.2.2.2).trans F1.out.1
  have b10 := (P1.block _ F2.out.2).trans F2.out.1
  have b12 := hblk
  have x0 := blk_cell b5 0
  have x1 := blk_cell b5 1
  have x2 := blk_cell b5 2
  have x3 := blk_cell b5 3
  have x4 := blk_cell b5 4
  have x5 := blk_cell b5 5
  have y0 := blk_cell b10 0
  have y1 := blk_cell b10 1
  have y2 := blk_cell b10 2
  have y3 := blk_cell b10 3
  have y4 := blk_cell b10 4
  have y5 := blk_cell b10 5
  have z0 := blk_cell b12 0
  have z1 := blk_cell b12 1
  have z2 := blk_cell b12 2
  have z3 := blk_cell b12 3
  have z4 := blk_cell b12 4
  have z5 := blk_cell b12 5
  simp at x0 x1 x2 x3 x4 x5 y0 y1 y2 y3 y4 y5 z0 z1 z2 z3 z4 z5
  have hle4 : (b.size : Int) ≤ 4 := by have := HF.out.2; omega
  have q1 : ((b6.length : Int) != 20 + b.size) = false := by have := HL.out; simp; omega
  have q2 : ((b6.length : Int) == 20 + b.size) = true := by have := HL.out; simp; omega
  clear b5 b10 b12 hblk hlt
  rw [r6]
  go_wp2_with (at_builtin; refine Hid.out ?_)
  refine Lib.hid ?_
  have hownE : (wh.alloc (.cells #[] 5)).ownsRow wh.heap.size 5 1 (.slice (some ⟨wh.heap.size, 0, none⟩) 0 0) ([] : List UInt8).length (([] : List UInt8).map bV) := World.ownsRow_lit wh #[] 0 (Nat.le_refl _) (by simp [maxLen]) (by simp)
  have hBi : Below wh.heap.size wh (wh.alloc (.cells #[] 5)) := (Below.refl _ _).alloc (Nat.le_refl _) _
  generalize wh.alloc (.cells #[] 5) = wi at hownE hBi ⊢
  obtain ⟨v14, wj, hrun4, hown5, hg5⟩ := append_bytes wi wh.heap.size _ [] hownE A6 c6 b6 (F1.out.2.1.below (LeB.tr P3 hBi) (Nat.le_refl _)) (by have := HL.out; simp; omega) hBi.size
  rw [List.nil_append] at hown5
  have hBj : Below wh.heap.size wh wj := hBi.grown hg5 hBi.size (fun k e => (hownE.lt k e).1)
  refine wpList_append_run rfl _ _ _ _ rfl rfl rfl hrun4 ?_
  obtain ⟨hlen5, hcase⟩ := hown5
  rcases hcase with ⟨-, h0⟩ | ⟨g14, cap, cur, rfl, hbase, hheap, hnc, hcm, hsz, htake⟩
  · exact absurd h0 (by have := HL.out; omega)
  have F6 := Lib.hid (And.intro hheap (And.intro htake (And.intro hsz (And.intro hnc (And.intro hcm hbase)))))
  have hlg : g14 < wj.heap.size := (Array.getElem?_eq_some_iff.1 hheap).1
  have h20 : 20 ≤ b6.length := by have := HL.out; omega
  have HX := Lib.hid (And.intro r6 r8)
  clear hrun4 hownE hBi hg5 hheap htake hsz hnc hcm hbase hlen5 r6 r8 x0 x1 x2 x3 x4 x5 y0 y1 y2 y3 y4 y5 z0 z1 z2 z3 z4 z5
  go_wp2_with fail
  refine wp_region_lex 10 (by kernel_rfl) (by kernel_rfl) (JB wj) LeB turnφ ?_ JB.mono ?_ ?_
  · intro j sp x v W W' hj hL h
    unfold turnφ at hj
    split at hj <;> first | (cases hj; exact h) | cases hj
  · exact (Below.refl _ _).drew
  simp only [List.take_succ_cons, List.take_zero, List.drop_succ_cons, List.drop_zero, pairs, List.zipIdx_cons, List.zipIdx_nil, List.map_cons, List.map_nil, Nat.zero_add, Nat.reduceAdd]
  (repeat (refine lex_pure rfl rfl (fun K hK => ?_); go_simp; refine hK _ ?_; clear hK K; try simp (disch := omega) only [IntWalk.i64_in, IntWalk.u8_in, Int.add_sub_cancel, Int.tmod_eq_emod_of_nonneg, Int.tdiv_eq_ediv_of_nonneg]))
  refine lex_eff' (sp := fun _ v _ => ∃ r : Nat, v = .int .i64 r ∧ r < 20) rfl rfl (by intro _ _ _ _ h; exact h) (fun m W hJ hF => ?_) (fun v x hh => ?_) rfl
  · refine gives_call Try.call17 ((at_ok2 A2 c2 bs2 (by omega) hc2 0 20 (by omega) (by omega) W (hr2.below (LeB.tr PW (LeB.tr hBj hJ)) (Nat.le_refl _))).mono ?_)
    rintro e w' ⟨r, rfl, h1, h2⟩
    exact ⟨_, rfl, hJ.step h2, LeB.of h2, r, rfl, by omega⟩
  obtain ⟨_, _, -, ⟨r, rfl, hr20⟩, -⟩ := hh
  have hrl : (r : Int) < b6.length := by omega
  have hrn : r < b6.length := by omega
  (repeat (refine lex_pure rfl rfl (fun K hK => ?_); go_simp; refine hK _ ?_; clear hK K; try simp (disch := omega) only [IntWalk.i64_in, IntWalk.u8_in, Int.add_sub_cancel, Int.tmod_eq_emod_of_nonneg, Int.tdiv_eq_ediv_of_nonneg]))
  obtain ⟨xv, hxv⟩ : ∃ xv : Nat, xv = (b6[r]'hrn).toNat := ⟨_, rfl⟩
  refine lex_load (i := 4) (φ := turnφ) rfl rfl (Value.int .u8 (xv : Int)) (fun m W hJ hF => ?_) ?_
  · have hc := (rd_take ((hJ.block g14 hlg).trans F6.out.1) F6.out.2.1).at_ (k := r) (by simpa using hrn)
    obtain ⟨ad, e, hc⟩ := hc
    cases e
    have hc' : W.cell? ⟨g14, r, none⟩ = some (.int .u8 (xv : Int)) := by rw [Addr.add_lit] at hc; rw [hxv]; simpa [bV] using hc
    go_simp
  have hu := (b6[r]'hrn).toNat_lt
  have hu1 : (xv : Int) ≤ 255 := by omega
  have hu2 : xv < 256 := by omega
  (repeat (refine lex_pure rfl rfl (fun K hK => ?_); go_simp; refine hK _ ?_; clear hK K; try simp (disch := omega) only [IntWalk.i64_in, IntWalk.u8_in, Int.add_sub_cancel, Int.tmod_eq_emod_of_nonneg, Int.tdiv_eq_ediv_of_nonneg]))
  refine lex_eff' (sp := fun _ v _ => ∃ r : Nat, v = .int .i64 r ∧ r < 8) rfl rfl (by intro _ _ _ _ h; exact h) (fun m W hJ hF => ?_) (fun v x hh => ?_) rfl
  · refine gives_call Try.call17 ((at_ok2 A2 c2 bs2 (by omega) hc2 1 8 (by omega) (by omega) W (hr2.below (LeB.tr PW (LeB.tr hBj hJ)) (Nat.le_refl _))).mono ?_)
    rintro e w' ⟨r, rfl, h1, h2⟩
    exact ⟨_, rfl, hJ.step h2, LeB.of h2, r, rfl, by omega⟩
  obtain ⟨_, _, -, ⟨k, rfl, hk8⟩, -⟩ := hh
  (repeat (refine lex_pure rfl rfl (fun K hK => ?_); go_simp; refine hK _ ?_; clear hK K; try simp (disch := omega) only [IntWalk.i64_in, IntWalk.u8_in, Int.add_sub_cancel, Int.tmod_eq_emod_of_nonneg, Int.tdiv_eq_ediv_of_nonneg]))
  refine lex_nil (fun m W hJ hF => ?_)
  have hheapW := (hJ.block g14 hlg).trans F6.out.1
  have hcr : W.cell? ⟨g14, r, none⟩ = some (.int .u8 (xv : Int)) := by
    obtain ⟨ad, e, hc⟩ := (rd_take hheapW F6.out.2.1).at_ (k := r) (by simpa using hrn)
    cases e
    rw [Addr.add_lit] at hc; rw [hxv]; simpa [bV] using hc
  have hfr : W.frozen? ⟨g14, r, none⟩ = false := blk_free hheapW r
  have HW := Lib.hid (And.intro hheapW (And.intro hxv hu))
  have HJ := Lib.hid hJ
  clear hheapW hxv hu hF hJ
  go_wp2_with fail
  obtain ⟨y1, y2⟩ := xor_u8 (b6[r]'hrn) k hk8
  rw [y1]
  generalize UInt8.ofNat ((b6[r]'hrn).toNat ^^^ 2 ^ k) = y at *
  have hb14 := blk_set HW.out.1 r (bV y)
  have hBw : Below wh.heap.size wh (W.setCell ⟨g14, r, none⟩ (bV y)) := (Below.trans hBj (Below.mono HJ.out hBj.size)).setCell (p := ⟨g14, r, none⟩) F6.out.2.2.2.2.2 _
  generalize W.setCell ⟨g14, r, none⟩ (bV y) = W1 at hb14 hBw ⊢
  have htk : ((cur.setIfInBounds r (bV y)).toList.take (b6.length * 1)) = (b6.set r y).map bV := by rw [Array.toList_setIfInBounds, List.take_set, F6.out.2.1, List.map_set]
  have hr14 := rd_take hb14 htk
  have hE1 := rdPk_turned b6 h20 HRD.out.2.2.1 r hr20 k hk8 y y2
  have hls : (b6.set r y).length = b6.length := List.length_set
  clear hb14 htk hcr hfr
  refine (hls ▸ ReadPacket_ok (some ⟨g14, 0, none⟩) cap (b6.set r y) (by have := HL.out; omega) (by have := F6.out.2.2.2.1; omega) W1 hr14).mono ?_
  rintro e w15 ⟨rfl, hB15⟩
  generalize rdPk (b6.set r y) = R1 at *
  obtain ⟨⟨a1, a2, a3, a4, a5, a6⟩, a7⟩ := R1
  have hE : (a7 != 0) = true := by simpa using hE1
  have hEf : (a7 == 0) = false := by simpa using hE1
  have Q1 : LeB wh w15 := LeB.tr hBw hB15
  dsimp only [Pk.v]
  clear hr14 hls hE1 y1 y2 hBw hB15
  go_wp2_with fail
  generalize hw0 : World.alloc w15 (.cells #[.int .i64 a1, .int .i64 a2, .int .i64 a3, .int .i64 a4, .int .i64 a5, .string (bstr a6)] 39) = w16
  have hblk : w16.heap[World.heap w15 |>.size]? = some (.cells #[.int .i64 a1, .int .i64 a2, .int .i64 a3, .int .i64 a4, .int .i64 a5, .string (bstr a6)] 39 (0, 0)) := by rw [← hw0]; exact heap_alloc_new _ _
  have hlt : (World.heap w15).size < w16.heap.size := (Array.getElem?_eq_some_iff.1 hblk).1
  have hB0 : Below (World.heap w15).size w15 w16 := by rw [← hw0]; exact (Below.refl _ _).alloc (Nat.le_refl _) _
  clear hw0
  have Q2 : LeB wh w16 := LeB.tr Q1 hB0
  clear hblk hlt hB0 Q1
  refine (at_ok2 A2 c2 bs2 (by omega) hc2 2 b6.length (by omega) (by have := HL.out; omega) w16 (hr2.below (LeB.tr PW Q2) (Nat.le_refl _))).mono ?_
  rintro e w17 ⟨r2, rfl, hr2b, hB17⟩
  have hr2l : r2 < b6.length := by omega
  have hr2c : (r2 : Int) ≤ c6 := by omega
  have hlr : (b6.take r2).length = r2 := by rw [List.length_take]; omega
  have hE2 := rdPk_cut b6 r2 hr2l HRD.out.2.2.2
  have hr6z := (F1.out.2.1.below (LeB.tr P3 (LeB.tr Q2 hB17)) (Nat.le_refl _)).hd r2
  clear hr2b
  go_wp2_with fail
  refine (hlr ▸ ReadPacket_ok A6 c6 (b6.take r2) (by have := HL.out; omega) (by omega) w17 hr6z).mono ?_
  rintro e w18 ⟨rfl, hB18⟩
  generalize rdPk (b6.take r2) = R2 at *
  obtain ⟨⟨e1, e2, e3, e4, e5, e6⟩, e7⟩ := R2
  have hG : (e7 != 0) = true := by simpa using hE2
  have hGf : (e7 == 0) = false := by simpa using hE2
  have QE := Lib.hid (LeB.tr PW (LeB.tr Q2 (LeB.tr hB17 hB18)))
  dsimp only [Pk.v]
  clear hr6z hE2 hlr hr2c
  go_wp2
  go_ret
  exact ⟨rfl, QE.out.alloc QE.out.size _⟩
end Go.Proofs.Ytdenjmdngmmodaa
namespace Go.Proofs.Ytdenjmdngmmodaa
open Go.RowKit
set_option linter.unusedVariables false
set_option linter.unusedSimpArgs false
set_option maxRecDepth 20000
set_option maxHeartbeats 600000

structure SegOK (a b s k f p : Nat) (d : ByteArray) : Prop where
  src : a < 65536
  dst : b < 65536
  seq : s < 4294967296
  ack : k < 4294967296
  flags : f < 32
  space : p < 65536
  data : d.size ≤ 360
theorem segmentOK_true (a b s k f p : Nat) (d : ByteArray) (h : SegOK a b s k f p d) (w : World) :
    Calls Try.prog 70 #[.agg #[.int .i64 a, .int .i64 b, .int .i64 s, .int .i64 k, .int .i64 f, .int .i64 p, .string d]] w fun e w' => e = .returned (.bool true) ∧ Below w.heap.size w w' := by
  have h3 : decide ((0 : Int) ≤ f ∧ (f : Int) ≤ 31) = true := by have := h.flags; simp; omega
  have hb : (d.size : Int) ≤ 360 := by have := h.data; omega
  have HK := Lib.hid (And.intro h h3)
  clear h h3
  go_enter Try.func70, Try.ntmps70
  go_wp2_with fail
  refine (isPort_ok a HK.out.1.src _).mono ?_
  rintro e w1 ⟨rfl, rfl⟩
  go_wp2_with fail
  refine (isPort_ok b HK.out.1.dst _).mono ?_
  rintro e w1 ⟨rfl, rfl⟩
  go_wp2_with fail
  refine (isAddress_ok s HK.out.1.seq _).mono ?_
  rintro e w1 ⟨rfl, rfl⟩
  go_wp2_with fail
  refine (isAddress_ok k HK.out.1.ack _).mono ?_
  rintro e w1 ⟨rfl, rfl⟩
  go_wp2_with fail
  refine (within_ok _ _ _ _).mono ?_
  rintro e w1 ⟨rfl, rfl⟩
  rw [HK.out.2]
  go_wp2_with fail
  refine (isPort_ok p HK.out.1.space _).mono ?_
  rintro e w1 ⟨rfl, rfl⟩
  go_wp2
  go_ret
  exact ⟨rfl, (Below.refl _ _).alloc (Nat.le_refl _) _⟩

/-- How far a number lies behind another one. -/
def bhd (a b : Nat) : Nat := (a + 4294967296 - b) % 4294967296
theorem behind_ok (a b : Nat) (ha : a < 4294967296) (hb : b < 4294967296) (w : World) : Calls Try.prog 81 #[.int .i64 a, .int .i64 b] w fun e w' => e = .returned (.int .i64 (bhd a b)) ∧ w = w' := by
  have t1 : ((a : Int) - b + 4294967296).tmod 4294967296 = (bhd a b : Int) := by rw [Int.tmod_eq_emod_of_nonneg (by omega)]; unfold bhd; omega
  have t2 : ((a : Int) - b + 4294967296) % 4294967296 = (bhd a b : Int) := by unfold bhd; omega
  have a1 : (a : Int) < 4294967296 := by omega
  have b1 : (b : Int) < 4294967296 := by omega
  go_enter Try.func81, Try.ntmps81
  go_wp2
  go_ret
  exact ⟨rfl, rfl⟩

theorem MacOf_ok (A : Option Addr) (c : Nat) (bs : List UInt8) (hl : bs.length ≤ 1099511627776) (w : World) (hr : Rd w A (bs.map bV)) :
    Calls Try.prog 24 #[.slice A bs.length c] w fun e w' => ∃ s, e = .returned (.string s) ∧ MacS s ∧ Below w.heap.size w w' := by
  go_enter Try.func24, Try.ntmps24
  go_wp2_with fail
  refine (l00Source_ok A c bs hl w hr).mono ?_
  rintro e w1 ⟨rfl, hs, hB1⟩
  go_wp2_with fail
  refine (mac_ok w.heap.size 0 w1 hs (by omega)).mono ?_
  rintro e w2 ⟨v, rfl, ⟨m, hm, rfl⟩, hs2, hg⟩
  have hB2 : Below w.heap.size w w2 := Below.grown hB1 hg hB1.size (fun k e => by cases e; exact Nat.le_refl _)
  go_wp2
  go_ret
  exact ⟨m, rfl, hm, hB2⟩
theorem LanOf_ok (A : Option Addr) (c : Nat) (bs : List UInt8) (hl : bs.length ≤ 1099511627776) (w : World) (hr : Rd w A (bs.map bV)) :
    Calls Try.prog 25 #[.slice A bs.length c] w fun e w' => ∃ n : Nat, e = .returned (.int .i64 n) ∧ n < 4294967296 ∧ Below w.heap.size w w' := by
  go_enter Try.func25, Try.ntmps25
  go_wp2_with fail
  refine (l00Source_ok A c bs hl w hr).mono ?_
  rintro e w1 ⟨rfl, hs, hB1⟩
  go_wp2_with fail
  refine (lan_ok w.heap.size 0 w1 hs (by omega)).mono ?_
  rintro e w2 ⟨v, rfl, ⟨n, rfl, h0, h1⟩, hs2, hg⟩
  have hB2 : Below w.heap.size w w2 := Below.grown hB1 hg hB1.size (fun k e => by cases e; exact Nat.le_refl _)
  go_wp2
  go_ret
  exact ⟨n.toNat, by rw [Int.toNat_of_nonneg (by omega)]; rfl, by omega, hB2⟩
theorem WanOf_ok (A : Option Addr) (c : Nat) (bs : List UInt8) (hl : bs.length ≤ 1099511627776) (w : World) (hr : Rd w A (bs.map bV)) :
    Calls Try.prog 26 #[.slice A bs.length c] w fun e w' => ∃ n : Nat, e = .returned (.int .i64 n) ∧ n < 4294967296 ∧ Below w.heap.size w w' := by
  go_enter Try.func26, Try.ntmps26
  go_wp2_with fail
  refine (l00Source_ok A c bs hl w hr).mono ?_
  rintro e w1 ⟨rfl, hs, hB1⟩
  go_wp2_with fail
  refine (wan_ok w.heap.size 0 w1 hs (by omega)).mono ?_
  rintro e w2 ⟨v, rfl, ⟨n, rfl, h0⟩, hs2, hg⟩
  have h1 : 0 ≤ n ∧ n < 4294967296 := by simp at h0; omega
  have hB2 : Below w.heap.size w w2 := Below.grown hB1 hg hB1.size (fun k e => by cases e; exact Nat.le_refl _)
  clear h0
  go_wp2
  go_ret
  exact ⟨n.toNat, by rw [Int.toNat_of_nonneg (by omega)]; rfl, by omega, hB2⟩
end Go.Proofs.Ytdenjmdngmmodaa
namespace Go.Proofs.Ytdenjmdngmmodaa
open Go.RowKit
set_option linter.unusedVariables false
set_option linter.unusedSimpArgs false
set_option maxRecDepth 20000
set_option maxHeartbeats 600000

theorem bytes_ok (g : Nat) (N : Int) (n : Nat) (hn : n ≤ 1000) (w : World) (hs : Src w g N) (hN : N ≤ 1000000) :
    Calls Try.prog 68 #[.pointer (some ⟨g, 0, none⟩), .int .i64 n] w fun e w' => ∃ (v : Value) (bs : List UInt8), e = .returned v ∧ bs.length ≤ n ∧ w'.ownsRow w.heap.size 5 1 v bs.length (bs.map bV) ∧ Src w' g (N + 3 + 3 * n) ∧ w.grownBy w' (some g) := by
  have hlt0 := hs.lt
  have hnI : (n : Int) ≤ 1000 := by omega
  go_enter Try.func68, Try.ntmps68
  go_wp2_with fail
  have hown : (w.alloc (.cells #[] 5)).ownsRow w.heap.size 5 1 (.slice (some ⟨w.heap.size, 0, none⟩) 0 0) ([] : List UInt8).length (([] : List UInt8).map bV) := World.ownsRow_lit w #[] 0 (Nat.le_refl _) (by simp [maxLen]) (by simp)
  have hs0 := src_alloc hs (.cells #[] 5)
  have hg0 : w.grownBy (w.alloc (.cells #[] 5)) (some g) := World.grownBy_alloc _ _ _
  generalize w.alloc (.cells #[] 5) = w0 at hown hs0 hg0 ⊢
  refine (next_ok g N (n + 1) _ hs0 (by omega) (by omega)).mono ?_
  rintro e w1 ⟨v, rfl, ⟨x, rfl, hx0, hx1⟩, hs1, hg1⟩
  obtain ⟨k, rfl⟩ := Int.eq_ofNat_of_zero_le hx0
  have hk : k ≤ n := by omega
  have hown1 := hown.kept hg1 (Or.inr (by intro e; have := (hown.lt g e).1; omega))
  have hG := grown_trans hg0 hg1
  clear hx0 hx1 hown hs0 hg0 hg1
  go_wp2_with fail
  go_loopw [5, 6] (fun v i wr => ∃ (j : Nat) (bs : List UInt8), bs.length + j ≤ n ∧ i = .int .i64 j ∧ wr.ownsRow w.heap.size 5 1 v bs.length (bs.map bV) ∧ Src wr g (N + 3 + 3 * bs.length) ∧ w.grownBy wr (some g)) (fun _ i _ => (intOf i).toNat)
  case atStart => exact ⟨k, [], by simpa using hk, rfl, hown1, by simpa using hs1, hG⟩
  case round =>
    obtain ⟨j, bs, hj, rfl, hown, hs2, hg2⟩ := hrel
    by_cases hj0 : 0 < j
    · have hj1 : (0 : Int) < j := by omega
      have hj2 : (j : Int) ≤ 1000 := by omega
      have HO := Lib.hid hown
      clear hown
      go_wp2_with fail
      refine (next_ok g (N + 3 + 3 * bs.length) 256 _ hs2 (by omega) (by omega)).mono ?_
      rintro e w3 ⟨v, rfl, ⟨x, rfl, hx0, hx1⟩, hs3, hg3⟩
      have hx2 : x ≤ 255 := by omega
      clear hx1
      go_wp2_with (at_builtin; refine Hid.out ?_)
      refine Lib.hid ?_
      have hwr : w.heap.size ≤ wr.heap.size := hg2.size
      have hown4 := HO.out.kept hg3 (by
        cases hv : u5.ownBlock with
        | none => exact Or.inl rfl
        | some b => exact Or.inr (by intro e; cases e; have := (HO.out.lt _ hv).1; omega))
      obtain ⟨y, hy⟩ : ∃ y : UInt8, Value.int .u8 x = bV y := ⟨UInt8.ofNat x.toNat, by simp only [bV, UInt8.toNat_ofNat']; congr 1; omega⟩
      rw [hy]
      have hs4 := src_alloc hs3 (.cells #[bV y] 5)
      have hg4 : w3.grownBy (w3.alloc (.cells #[bV y] 5)) (some g) := World.grownBy_alloc _ _ _
      have hown5 := hown4.alloc (.cells #[bV y] 5)
      have hrd : Rd (w3.alloc (.cells #[bV y] 5)) (some ⟨w3.heap.size, 0, none⟩) ([y].map bV) := by simpa using Rd.block (heap_alloc_new w3 (.cells #[bV y] 5)) 0
      have hGt := grown_trans hg2 (grown_trans hg3 hg4)
      have hsz3 : w.heap.size ≤ (w3.alloc (.cells #[bV y] 5)).heap.size := hGt.size
      generalize w3.alloc (.cells #[bV y] 5) = w4 at hs4 hown5 hrd hGt hsz3 ⊢
      obtain ⟨v6, w6, hrun, hown6, hg6⟩ := append_bytes w4 w.heap.size u5 bs hown5 (some ⟨w3.heap.size, 0, none⟩) 1 [y] hrd (by simp; omega) hsz3
      have hB6 : Below w.heap.size w4 w6 := (Below.refl _ _).grown hg6 hsz3 (fun k e => (hown5.lt k e).1)
      have hs6 := hs4.below hB6 hlt0
      have hG6 : w.grownBy w6 (some g) := ⟨hB6.os.trans hGt.os, hB6.tape.trans hGt.tape, hB6.output.trans hGt.output, Nat.le_trans hGt.size hB6.size, fun i hi hne => (hB6.block i hi).trans (hGt.block i hi hne)⟩
      refine wpList_append_run rfl _ _ _ _ rfl rfl rfl hrun ?_
      clear hrun hown5 hrd hs4 hg4 hs3 hg3 hown4 hg6 hB6 hGt
      go_wp2
      go_roundw
      case rel => exact ⟨j - 1, bs ++ [y], by simp; omega, by congr 1; omega, hown6, by have := hs6.more (show N + 3 + 3 * (bs.length : Int) + 3 ≤ N + 3 + 3 * ((bs ++ [y]).length : Int) by simp; omega); exact this, hG6⟩
      case measure => simp [intOf]; omega
    · obtain rfl : j = 0 := by omega
      have HO := Lib.hid (And.intro hown (And.intro hs2 hg2))
      clear hown hs2 hg2
      go_wp2
      go_ret
      exact ⟨_, bs, rfl, by omega, HO.out.1, HO.out.2.1.more (by omega), HO.out.2.2⟩

theorem BytesOf_ok (A : Option Addr) (c : Nat) (bs : List UInt8) (hl : bs.length ≤ 1099511627776) (n : Nat) (hn : n ≤ 1000) (w : World) (hr : Rd w A (bs.map bV)) :
    Calls Try.prog 22 #[.slice A bs.length c, .int .i64 n] w fun e w' => ∃ (v : Value) (ns : List UInt8), e = .returned v ∧ ns.length ≤ n ∧ w'.ownsRow w.heap.size 5 1 v ns.length (ns.map bV) ∧ Below w.heap.size w w' := by
  go_enter Try.func22, Try.ntmps22
  go_wp2_with fail
  refine (l00Source_ok A c bs hl w hr).mono ?_
  rintro e w1 ⟨rfl, hs, hB1⟩
  go_wp2_with fail
  refine (bytes_ok w.heap.size 0 n hn w1 hs (by omega)).mono ?_
  rintro e w2 ⟨v, ns, rfl, hl2, hown, hs2, hg⟩
  have hB2 : Below w.heap.size w w2 := Below.grown hB1 hg hB1.size (fun k e => by cases e; exact Nat.le_refl _)
  have HO := Lib.hid (own_base hown (B' := w.heap.size) hB1.size)
  clear hown hs2
  go_wp2
  go_ret
  exact ⟨v, ns, rfl, hl2, HO.out, hB2⟩
end Go.Proofs.Ytdenjmdngmmodaa
namespace Go.Proofs.Ytdenjmdngmmodaa
open Go.RowKit
set_option linter.unusedVariables false
set_option linter.unusedSimpArgs false
set_option maxRecDepth 20000
set_option maxHeartbeats 600000

structure Cn where
  mac : ByteArray
  ip : Nat
  port : Nat
  dst : Nat
  st : Nat
  una : Nat
  nxt : Nat
  want : Nat
  inn : ByteArray
  out : ByteArray
  fin : Bool
@[reducible] def Cn.cells (c : Cn) : Array Value := #[.string c.mac, .int .i64 c.ip, .int .i64 c.port, .int .i64 c.dst, .int .i64 c.st, .int .i64 c.una, .int .i64 c.nxt, .int .i64 c.want, .string c.inn, .string c.out, .bool c.fin]
structure Sg where
  src : Nat
  dst : Nat
  seq : Nat
  ack : Nat
  flags : Nat
  space : Nat
  data : ByteArray
@[reducible] def Sg.cells (g : Sg) : Array Value := #[.int .i64 g.src, .int .i64 g.dst, .int .i64 g.seq, .int .i64 g.ack, .int .i64 g.flags, .int .i64 g.space, .string g.data]
theorem infoCn : (Try.prog.info? 48).map (·.size) = some 11 := by kernel_rfl
theorem infoSg : (Try.prog.info? 55).map (·.size) = some 7 := by kernel_rfl

def onw (a n : Nat) : Nat := (a + n) % 4294967296
theorem onward_ok (a n : Nat) (ha : a < 4294967296) (hn : n ≤ 1000000) (w : World) : Calls Try.prog 119 #[.int .i64 a, .int .i64 n] w fun e w' => e = .returned (.int .i64 (onw a n)) ∧ w = w' := by
  have t1 : ((a : Int) + n).tmod 4294967296 = (onw a n : Int) := by rw [Int.tmod_eq_emod_of_nonneg (by omega)]; unfold onw; omega
  have t2 : ((a : Int) + n) % 4294967296 = (onw a n : Int) := by unfold onw; omega
  have a1 : (a : Int) < 4294967296 := by omega
  have b1 : (n : Int) ≤ 1000000 := by omega
  go_enter Try.func119, Try.ntmps119
  go_wp2
  go_ret
  exact ⟨rfl, rfl⟩
theorem tell_ok (c : Cn) (g : Nat) (seq flags : Nat) (data : ByteArray) (w : World) (hb : w.heap[g]? = some (.cells c.cells 48 (0, 0))) :
    Calls Try.prog 120 #[.pointer (some ⟨g, 0, none⟩), .int .i64 seq, .int .i64 flags, .string data] w fun e w' => e = .returned (.agg (Sg.cells ⟨80, c.port, seq, c.want, flags, 1000, data⟩)) ∧ Below w.heap.size w w' := by
  have c2 := blk_cell hb 2
  have c7 := blk_cell hb 7
  simp at c2 c7
  go_enter Try.func120, Try.ntmps120
  go_wp2
  have hg := (Array.getElem?_eq_some_iff.1 hb).1
  generalize hw0 : World.alloc w (.cells #[.int .i64 0, .int .i64 0, .int .i64 0, .int .i64 0, .int .i64 0, .int .i64 0, .string ⟨#[]⟩] 55) = w0
  have hblk : w0.heap[World.heap w |>.size]? = some (.cells #[.int .i64 0, .int .i64 0, .int .i64 0, .int .i64 0, .int .i64 0, .int .i64 0, .string ⟨#[]⟩] 55 (0, 0)) := by rw [← hw0]; exact heap_alloc_new _ _
  have hlt : (World.heap w).size < w0.heap.size := (Array.getElem?_eq_some_iff.1 hblk).1
  have hB0 : Below (World.heap w).size w w0 := by rw [← hw0]; exact (Below.refl _ _).alloc (Nat.le_refl _) _
  clear hw0
  have hcell : ∀ W, Below w0.heap.size w0 W → W.cell? ⟨g, 2, none⟩ = some (.int .i64 c.port) ∧ W.cell? ⟨g, 7, none⟩ = some (.int .i64 c.want) := fun W hW => by
    have h := (Below.trans hB0 (Below.mono hW hB0.size)).block g hg
    have h1 := blk_cell (h.trans hb) 2
    have h2 := blk_cell (h.trans hb) 7
    simp at h1 h2
    exact ⟨h1, h2⟩
  have HB := Lib.hid hb
  clear hb c2 c7
  refine wp_region_lex 12 (by kernel_rfl) (by kernel_rfl) (JB w0) LeB (fun _ => none) ?_ JB.mono ?_ ?_
  · intro j sp x v W W' hj hL h
    cases hj
  · exact (Below.refl _ _).drew
  simp only [List.take_succ_cons, List.take_zero, List.drop_succ_cons, List.drop_zero, pairs, List.zipIdx_cons, List.zipIdx_nil, List.map_cons, List.map_nil, Nat.zero_add, Nat.reduceAdd]
  (repeat (first | (refine lex_pure rfl rfl (fun K hK => ?_); go_simp; refine hK _ ?_; clear hK K; try simp (disch := omega) only [IntWalk.i64_in, IntWalk.u8_in, Int.add_sub_cancel, Int.tmod_eq_emod_of_nonneg, Int.tdiv_eq_ediv_of_nonneg]) | (refine lex_load rfl rfl _ (fun m W hJ hF => (by have cc := hcell W hJ; go_simp; rfl)) ?_; try simp (disch := omega) only [IntWalk.i64_in, IntWalk.u8_in, Int.add_sub_cancel, Int.tmod_eq_emod_of_nonneg, Int.tdiv_eq_ediv_of_nonneg]) | (refine lex_sadd rfl rfl rfl rfl rfl (by first | omega | (simp only [ByteArray.size_append]; omega)) ?_; go_simp)))
  refine lex_nil (fun m W hJ hF => ?_)
  have hres := (hJ.block _ hlt).trans hblk
  have hB := Below.trans hB0 (Below.mono hJ hB0.size)
  clear hF hcell hJ hblk
  have Hb := Lib.hid hres
  clear hres
  go_wp2_with (refine wpList_store_row rfl _ _ 55 rfl w.heap.size 55 _ _ rfl rfl Hb.out rfl infoSg rfl ?_)
  refine bodyPost_ret (ret_cell rfl rfl (setRow_heap _ _ _ _ _ _ Hb.out) Try.underlying55 rfl infoSg) rfl ?_
  exact ⟨rfl, below_setRow hB (Nat.le_refl _) _⟩

theorem opened_ok (c : Cn) (g : Nat) (w : World) (hb : w.heap[g]? = some (.cells c.cells 48 (0, 0))) :
    Calls Try.prog 73 #[.pointer (some ⟨g, 0, none⟩)] w fun e w' => ∃ b, e = .returned (.slice (some ⟨b, 0, none⟩) 1 1) ∧ w.heap.size ≤ b ∧ w'.heap[b]? = some (.cells (Sg.cells ⟨80, c.port, c.una, c.want, 18, 1000, ⟨#[]⟩⟩) 55 (0, 0)) ∧ Below w.heap.size w w' := by
  have c5 := blk_cell hb 5
  simp at c5
  go_enter Try.func73, Try.ntmps73
  go_wp2_with fail
  refine (tell_ok c g c.una 18 ⟨#[]⟩ w hb).mono ?_
  rintro e w1 ⟨rfl, hB⟩
  go_wp2
  go_ret
  refine ⟨w1.heap.size, ?_, hB.size, ?_, hB.alloc hB.size _⟩
  · rfl
  · exact heap_alloc_new _ _

def newCn (mac : ByteArray) (ip dst : Nat) (g : Sg) (isn : Nat) : Cn := ⟨mac, ip, g.src, dst, 1, isn, onw isn 1, onw g.seq 1, ⟨#[]⟩, ⟨#[]⟩, false⟩
def newConnφ (isn seq : Nat) : Nat → Option Spec
  | 7 => some fun _ v _ => v = .int .i64 (onw isn 1)
  | 10 => some fun _ v _ => v = .int .i64 (onw seq 1)
  | _ => none
theorem newConn_ok (mac : ByteArray) (ip dst : Nat) (g : Sg) (isn : Nat) (hi : isn < 4294967296) (hs : g.seq < 4294967296) (w : World) :
    Calls Try.prog 72 #[.string mac, .int .i64 ip, .int .i64 dst, .agg g.cells, .int .i64 isn] w fun e w' => e = .returned (.agg (newCn mac ip dst g isn).cells) ∧ Below w.heap.size w w' := by
  go_enter Try.func72, Try.ntmps72
  go_wp2
  have HSZ1 : (w.alloc (.cells #[.int .i64 g.src, .int .i64 g.dst, .int .i64 g.seq, .int .i64 g.ack, .int .i64 g.flags, .int .i64 g.space, .string g.data] 55)).heap.size = w.heap.size + 1 := by simp
  have hblk : (w.alloc (.cells #[.int .i64 g.src, .int .i64 g.dst, .int .i64 g.seq, .int .i64 g.ack, .int .i64 g.flags, .int .i64 g.space, .string g.data] 55)).heap[w.heap.size]? = some (.cells #[.int .i64 g.src, .int .i64 g.dst, .int .i64 g.seq, .int .i64 g.ack, .int .i64 g.flags, .int .i64 g.space, .string g.data] 55 (0, 0)) := heap_alloc_new _ _
  have hB0 : Below w.heap.size w (w.alloc (.cells #[.int .i64 g.src, .int .i64 g.dst, .int .i64 g.seq, .int .i64 g.ack, .int .i64 g.flags, .int .i64 g.space, .string g.data] 55)) := (Below.refl _ _).alloc (Nat.le_refl _) _
  generalize w.alloc (.cells #[.int .i64 g.src, .int .i64 g.dst, .int .i64 g.seq, .int .i64 g.ack, .int .i64 g.flags, .int .i64 g.space, .string g.data] 55) = w0 at HSZ1 hblk hB0 ⊢
  have hlt : w.heap.size < w0.heap.size := by omega
  have hsz : w0.heap.size = w.heap.size + 1 := HSZ1
  rw [← hsz]
  clear hsz HSZ1
  have hblk0 := hblk
  have hlt0 := hlt
  have hB00 := hB0
  clear hblk hlt hB0
  generalize hw0 : World.alloc w0 (.cells #[.string ⟨#[]⟩, .int .i64 0, .int .i64 0, .int .i64 0, .int .i64 0, .int .i64 0, .int .i64 0, .int .i64 0, .string ⟨#[]⟩, .string ⟨#[]⟩, .bool false] 48) = w1
  have hblk : w1.heap[World.heap w0 |>.size]? = some (.cells #[.string ⟨#[]⟩, .int .i64 0, .int .i64 0, .int .i64 0, .int .i64 0, .int .i64 0, .int .i64 0, .int .i64 0, .string ⟨#[]⟩, .string ⟨#[]⟩, .bool false] 48 (0, 0)) := by rw [← hw0]; exact heap_alloc_new _ _
  have hlt : (World.heap w0).size < w1.heap.size := (Array.getElem?_eq_some_iff.1 hblk).1
  have hB0 : Below (World.heap w0).size w0 w1 := by rw [← hw0]; exact (Below.refl _ _).alloc (Nat.le_refl _) _
  clear hw0
  have hcell : ∀ W, Below w1.heap.size w1 W → W.cell? ⟨w.heap.size, 0, none⟩ = some (.int .i64 g.src) ∧ W.cell? ⟨w.heap.size, 2, none⟩ = some (.int .i64 g.seq) := fun W hW => by
    have h := ((Below.trans hB0 (Below.mono hW hB0.size)).block _ hlt0).trans hblk0
    have h1 := blk_cell h 0
    have h2 := blk_cell h 2
    simp at h1 h2
    exact ⟨h1, h2⟩
  clear hblk0
  refine wp_region_lex 12 (by kernel_rfl) (by kernel_rfl) (JB w1) LeB (newConnφ isn g.seq) ?_ JB.mono ?_ ?_
  · intro j sp x v W W' hj hL h
    unfold newConnφ at hj
    split at hj <;> first | (cases hj; exact h) | cases hj
  · exact (Below.refl _ _).drew
  simp only [List.take_succ_cons, List.take_zero, List.drop_succ_cons, List.drop_zero, pairs, List.zipIdx_cons, List.zipIdx_nil, List.map_cons, List.map_nil, Nat.zero_add, Nat.reduceAdd]
  (repeat (first | (refine lex_pure rfl rfl (fun K hK => ?_); go_simp; refine hK _ ?_; clear hK K; try simp (disch := omega) only [IntWalk.i64_in, IntWalk.u8_in, Int.add_sub_cancel, Int.tmod_eq_emod_of_nonneg, Int.tdiv_eq_ediv_of_nonneg]) | (refine lex_load rfl rfl _ (fun m W hJ hF => (by have cc := hcell W hJ; go_simp; rfl)) ?_; try simp (disch := omega) only [IntWalk.i64_in, IntWalk.u8_in, Int.add_sub_cancel, Int.tmod_eq_emod_of_nonneg, Int.tdiv_eq_ediv_of_nonneg]) | (refine lex_sadd rfl rfl rfl rfl rfl (by first | omega | (simp only [ByteArray.size_append]; omega)) ?_; go_simp)))
  refine lex_eff' (sp := fun _ v _ => v = .int .i64 (onw isn 1)) rfl rfl (by intro _ _ _ _ h; exact h) (fun m W hJ hF => ?_) (fun v x hh => ?_) rfl
  · refine gives_call Try.call119 ((onward_ok isn 1 hi (by omega) W).mono ?_)
    rintro e w' ⟨rfl, rfl⟩
    exact ⟨_, rfl, hJ, LeB.of (Below.refl _ _), rfl⟩
  obtain ⟨_, _, -, rfl, -⟩ := hh
  (repeat (first | (refine lex_pure rfl rfl (fun K hK => ?_); go_simp; refine hK _ ?_; clear hK K; try simp (disch := omega) only [IntWalk.i64_in, IntWalk.u8_in, Int.add_sub_cancel, Int.tmod_eq_emod_of_nonneg, Int.tdiv_eq_ediv_of_nonneg]) | (refine lex_load rfl rfl _ (fun m W hJ hF => (by have cc := hcell W hJ; go_simp; rfl)) ?_; try simp (disch := omega) only [IntWalk.i64_in, IntWalk.u8_in, Int.add_sub_cancel, Int.tmod_eq_emod_of_nonneg, Int.tdiv_eq_ediv_of_nonneg]) | (refine lex_sadd rfl rfl rfl rfl rfl (by first | omega | (simp only [ByteArray.size_append]; omega)) ?_; go_simp)))
  refine lex_eff' (sp := fun _ v _ => v = .int .i64 (onw g.seq 1)) rfl rfl (by intro _ _ _ _ h; exact h) (fun m W hJ hF => ?_) (fun v x hh => ?_) rfl
  · refine gives_call Try.call119 ((onward_ok g.seq 1 hs (by omega) W).mono ?_)
    rintro e w' ⟨rfl, rfl⟩
    exact ⟨_, rfl, hJ, LeB.of (Below.refl _ _), rfl⟩
  obtain ⟨_, _, -, rfl, -⟩ := hh
  (repeat (first | (refine lex_pure rfl rfl (fun K hK => ?_); go_simp; refine hK _ ?_; clear hK K; try simp (disch := omega) only [IntWalk.i64_in, IntWalk.u8_in, Int.add_sub_cancel, Int.tmod_eq_emod_of_nonneg, Int.tdiv_eq_ediv_of_nonneg]) | (refine lex_load rfl rfl _ (fun m W hJ hF => (by have cc := hcell W hJ; go_simp; rfl)) ?_; try simp (disch := omega) only [IntWalk.i64_in, IntWalk.u8_in, Int.add_sub_cancel, Int.tmod_eq_emod_of_nonneg, Int.tdiv_eq_ediv_of_nonneg]) | (refine lex_sadd rfl rfl rfl rfl rfl (by first | omega | (simp only [ByteArray.size_append]; omega)) ?_; go_simp)))
  refine lex_nil (fun m W hJ hF => ?_)
  have hres := (hJ.block _ hlt).trans hblk
  have hB := Below.trans hB00 (Below.mono (Below.trans hB0 (Below.mono hJ hB0.size)) hB00.size)
  clear hF hcell hJ hblk
  have Hb := Lib.hid hres
  clear hres
  go_wp2_with (refine wpList_store_row rfl _ _ 48 rfl w0.heap.size 48 _ _ rfl rfl Hb.out rfl infoCn rfl ?_)
  refine bodyPost_ret (ret_cell rfl rfl (setRow_heap _ _ _ _ _ _ Hb.out) Try.underlying48 rfl infoCn) rfl ?_
  exact ⟨rfl, below_setRow hB hB00.size _⟩
end Go.Proofs.Ytdenjmdngmmodaa
namespace Go.Proofs.Ytdenjmdngmmodaa
open Go.RowKit
set_option linter.unusedVariables false
set_option linter.unusedSimpArgs false
set_option maxRecDepth 20000
set_option maxHeartbeats 600000

theorem opens_ok (a b s k p : Nat) (d : ByteArray) (w : World) :
    Calls Try.prog 71 #[.agg #[.int .i64 a, .int .i64 b, .int .i64 s, .int .i64 k, .int .i64 2, .int .i64 p, .string d]] w fun e w' => e = .returned (.bool true) ∧ Below w.heap.size w w' := by
  have hb : bits .and .i64 2 23 = 2 := by decide +kernel
  go_enter Try.func71, Try.ntmps71
  go_wp2
  go_ret
  exact ⟨rfl, (Below.refl _ _).alloc (Nat.le_refl _) _⟩
/-- A row loaded within a region of open order. -/
theorem run_exec_load {P : Program} {o : Oper} {a : Act} {w : World} {T : TypeId} {x : Operand} {b : Nat} {cs : Array Value} {E : TypeId} {fr : Nat × Nat} {d : TypeDesc} (ho : o.op = .load T x) (hx : a.eval x = .pointer (some ⟨b, 0, none⟩)) (hb : w.heap[b]? = some (.cells cs E fr)) (hu : P.underlying T = some d) (hd : d.isRow = true) (hi : (P.info? T).map (·.size) = some cs.size) :
    (execOp a.eval o).run P w = .ok (.value (.agg cs)) w := by
  unfold execOp
  simp [ho, hx, run_load_row w b T E cs hb hu hd hi]
def OneSg (B : Nat) (g : Sg) (v : Value) (w : World) : Prop := ∃ b, v = .slice (some ⟨b, 0, none⟩) 1 1 ∧ B ≤ b ∧ w.heap[b]? = some (.cells g.cells 55 (0, 0))
theorem OneSg.below {B : Nat} {g : Sg} {v : Value} {w w' : World} (h : OneSg B g v w) (hb : LeB w w') : OneSg B g v w' := by
  obtain ⟨b, h1, h2, h3⟩ := h
  exact ⟨b, h1, h2, (hb.block b (Array.getElem?_eq_some_iff.1 h3).1).trans h3⟩
theorem OneSg.setRow {B : Nat} {g : Sg} {v : Value} {w : World} (h : OneSg B g v w) {k : Nat} (hk : k < B) (cs : Array Value) : OneSg B g v (w.setRow k cs) := by
  obtain ⟨b, h1, h2, h3⟩ := h
  exact ⟨b, h1, h2, (setRow_other w k b cs (by omega)).trans h3⟩
theorem OneSg.more {B B' : Nat} {g : Sg} {v : Value} {w : World} (h : OneSg B g v w) (hB : B' ≤ B) : OneSg B' g v w := by
  obtain ⟨b, h1, h2, h3⟩ := h
  exact ⟨b, h1, by omega, h3⟩
theorem ret_cell3 {P : Program} {fn : Func} {p u q T E : Nat} {tmps : Array Value} {w : World} {b : Nat} {cs : Array Value} {fr : Nat × Nat} {ds : TypeDesc} {x y : Value} (h : fn.results = #[.cell p T, .tmp u, .tmp q]) (hp : tmps.getD p undef = .pointer (some ⟨b, 0, none⟩)) (hx : tmps.getD u undef = x) (hy : tmps.getD q undef = y) (hb : w.heap[b]? = some (.cells cs E fr)) (hu : P.underlying T = some ds) (hd : ds.isRow = true) (hi : (P.info? T).map (·.size) = some cs.size) :
    (results fn tmps).run P w = .ok (.tuple #[.agg cs, x, y]) w := by
  have hp' : tmps[p]?.getD undef = .pointer (some ⟨b, 0, none⟩) := by rw [← Array.getD_eq_getD_getElem?]; exact hp
  have hx' : tmps[u]?.getD undef = x := by rw [← Array.getD_eq_getD_getElem?]; exact hx
  have hy' : tmps[q]?.getD undef = y := by rw [← Array.getD_eq_getD_getElem?]; exact hy
  simp only [results, h]
  simp [Sem.run_bind, Result.andThen, hp', hx', hy', asAddr, run_loadVar_blk hb hu hd hi]
def openφ (B : Nat) (g : Sg) : Nat → Option Spec
  | 1 => some fun _ v w => OneSg B g v w
  | _ => none
theorem ConnOpen_ok (mac : ByteArray) (ip dst : Nat) (a b s k p : Nat) (d : ByteArray) (isn : Nat) (hm : mac.size = 6) (hip : ip < 4294967296) (hds : dst < 4294967296) (hg : SegOK a b s k 2 p d) (hi : isn < 4294967296) (w : World) :
    Calls Try.prog 23 #[.string mac, .int .i64 ip, .int .i64 dst, .agg #[.int .i64 a, .int .i64 b, .int .i64 s, .int .i64 k, .int .i64 2, .int .i64 p, .string d], .int .i64 isn] w fun e w' => ∃ v, e = .returned (.tuple #[.agg (newCn mac ip dst ⟨a, b, s, k, 2, p, d⟩ isn).cells, v, .int .i64 0]) ∧
      OneSg w.heap.size ⟨80, a, isn, onw s 1, 18, 1000, ⟨#[]⟩⟩ v w' ∧ Below w.heap.size w w' := by
  have h1 := mac_true hm
  have hms : (mac.size : Int) ≤ 65536 := by omega
  have HK := Lib.hid (And.intro hg (And.intro hip (And.intro hds hi)))
  clear hg hip hds hi hm
  go_enter Try.func23, Try.ntmps23
  go_wp2_with fail
  generalize hw0 : World.alloc w (.cells #[.int .i64 a, .int .i64 b, .int .i64 s, .int .i64 k, .int .i64 2, .int .i64 p, .string d] 55) = wa
  have hblk : wa.heap[World.heap w |>.size]? = some (.cells #[.int .i64 a, .int .i64 b, .int .i64 s, .int .i64 k, .int .i64 2, .int .i64 p, .string d] 55 (0, 0)) := by rw [← hw0]; exact heap_alloc_new _ _
  have hlt : (World.heap w).size < wa.heap.size := (Array.getElem?_eq_some_iff.1 hblk).1
  have hB0 : Below (World.heap w).size w wa := by rw [← hw0]; exact (Below.refl _ _).alloc (Nat.le_refl _) _
  have hsz : (World.heap wa).size = (World.heap w).size + 1 := by rw [← hw0]; simp
  clear hw0
  rw [← hsz]
  have F1 := And.intro hblk (And.intro hlt hB0)
  clear hblk hlt hB0 hsz
  generalize hw0 : World.alloc wa (.cells #[.string ⟨#[]⟩, .int .i64 0, .int .i64 0, .int .i64 0, .int .i64 0, .int .i64 0, .int .i64 0, .int .i64 0, .string ⟨#[]⟩, .string ⟨#[]⟩, .bool false] 48) = wb
  have hblk : wb.heap[World.heap wa |>.size]? = some (.cells #[.string ⟨#[]⟩, .int .i64 0, .int .i64 0, .int .i64 0, .int .i64 0, .int .i64 0, .int .i64 0, .int .i64 0, .string ⟨#[]⟩, .string ⟨#[]⟩, .bool false] 48 (0, 0)) := by rw [← hw0]; exact heap_alloc_new _ _
  have hlt : (World.heap wa).size < wb.heap.size := (Array.getElem?_eq_some_iff.1 hblk).1
  have hB0 : Below (World.heap wa).size wa wb := by rw [← hw0]; exact (Below.refl _ _).alloc (Nat.le_refl _) _
  clear hw0
  have F2 := Lib.hid (And.intro hblk hlt)
  have L1 : LeB w wb := LeB.tr F1.2.2 hB0
  have hs1 := (hB0.block _ F1.2.1).trans F1.1
  have hl1 := Nat.lt_of_lt_of_le F1.2.1 hB0.size
  have hle := F1.2.2.size
  clear F1 hblk hlt hB0
  have c0 := blk_cell hs1 0
  have c1 := blk_cell hs1 1
  have c2 := blk_cell hs1 2
  have c3 := blk_cell hs1 3
  have c4 := blk_cell hs1 4
  have c5 := blk_cell hs1 5
  have c6 := blk_cell hs1 6
  simp at c0 c1 c2 c3 c4 c5 c6
  have F1 := Lib.hid (And.intro hs1 (And.intro hl1 (And.intro L1 hle)))
  clear hs1 hl1 L1 hle
  refine (macOK_ok mac _).mono ?_
  rintro e w1 ⟨rfl, rfl⟩
  rw [h1]
  go_wp2_with fail
  refine (isAddress_ok ip HK.out.2.1 _).mono ?_
  rintro e w1 ⟨rfl, rfl⟩
  go_wp2_with fail
  refine (isAddress_ok dst HK.out.2.2.1 _).mono ?_
  rintro e w1 ⟨rfl, rfl⟩
  go_wp2_with fail
  refine (segmentOK_true a b s k 2 p d HK.out.1 _).mono ?_
  rintro e w1 ⟨rfl, hB1⟩
  go_wp2_with fail
  refine (isAddress_ok isn HK.out.2.2.2 _).mono ?_
  rintro e w2 ⟨rfl, rfl⟩
  have hs1 := (hB1.block _ F1.out.2.1).trans F1.out.1
  clear c0 c1 c2 c3 c4 c5 c6
  have c0 := blk_cell hs1 0
  have c1 := blk_cell hs1 1
  have c2 := blk_cell hs1 2
  have c3 := blk_cell hs1 3
  have c4 := blk_cell hs1 4
  have c5 := blk_cell hs1 5
  have c6 := blk_cell hs1 6
  simp at c0 c1 c2 c3 c4 c5 c6
  go_wp2_with fail
  refine (opens_ok a b s k p d _).mono ?_
  rintro e w2 ⟨rfl, hB2⟩
  have hs2 := (hB2.block _ (Nat.lt_of_lt_of_le F1.out.2.1 hB1.size)).trans hs1
  clear c0 c1 c2 c3 c4 c5 c6 hs1
  have c0 := blk_cell hs2 0
  have c1 := blk_cell hs2 1
  have c2 := blk_cell hs2 2
  have c3 := blk_cell hs2 3
  have c4 := blk_cell hs2 4
  have c5 := blk_cell hs2 5
  have c6 := blk_cell hs2 6
  simp at c0 c1 c2 c3 c4 c5 c6
  have HS := Lib.hid hs2
  clear hs2
  go_wp2_with fail
  refine (newConn_ok mac ip dst ⟨a, b, s, k, 2, p, d⟩ isn HK.out.2.2.2 HK.out.1.seq _).mono ?_
  rintro e w3 ⟨rfl, hB3⟩
  have L3 : LeB wb w3 := LeB.tr hB1 (LeB.tr hB2 hB3)
  clear hB1 hB2 hB3 c0 c1 c2 c3 c4 c5 c6 HS
  go_wp2_with fail
  generalize hcc : newCn mac ip dst ⟨a, b, s, k, 2, p, d⟩ isn = cc
  generalize hw0 : World.alloc w3 (.cells cc.cells 48) = w4
  have hblk : w4.heap[World.heap w3 |>.size]? = some (.cells cc.cells 48 (0, 0)) := by rw [← hw0]; exact heap_alloc_new _ _
  have hlt : (World.heap w3).size < w4.heap.size := (Array.getElem?_eq_some_iff.1 hblk).1
  have hB0 : Below (World.heap w3).size w3 w4 := by rw [← hw0]; exact (Below.refl _ _).alloc (Nat.le_refl _) _
  clear hw0
  have hD := (LeB.tr L3 hB0).block _ F2.out.2
  have hD := hD.trans F2.out.1
  have hDl := Nat.lt_of_lt_of_le F2.out.2 (LeB.tr L3 hB0).size
  have L4 : LeB w w4 := LeB.tr F1.out.2.2.1 (LeB.tr L3 hB0)
  clear hB0 L3
  refine wp_region_lex 2 (by kernel_rfl) (by kernel_rfl) (JB w4) LeB (openφ w4.heap.size ⟨80, cc.port, cc.una, cc.want, 18, 1000, ⟨#[]⟩⟩) ?_ JB.mono ?_ ?_
  · intro j sp x v W W' hj hL h
    unfold openφ at hj
    split at hj <;> first | (cases hj; exact h.below hL) | cases hj
  · exact (Below.refl _ _).drew
  simp only [List.take_succ_cons, List.take_zero, List.drop_succ_cons, List.drop_zero, pairs, List.zipIdx_cons, List.zipIdx_nil, List.map_cons, List.map_nil, Nat.zero_add, Nat.reduceAdd]
  refine lex_load rfl rfl (.agg cc.cells) (fun m W hJ hF => run_exec_load rfl rfl ((hJ.block _ hlt).trans hblk) Try.underlying48 rfl infoCn) ?_
  refine lex_eff' (sp := fun _ v w => OneSg w4.heap.size ⟨80, cc.port, cc.una, cc.want, 18, 1000, ⟨#[]⟩⟩ v w) rfl rfl (by intro _ _ _ _ h; exact h) (fun m W hJ hF => ?_) (fun v x hh => ?_) rfl
  · refine gives_call Try.call73 ((opened_ok cc w3.heap.size W ((hJ.block _ hlt).trans hblk)).mono ?_)
    rintro e w' ⟨bb, rfl, h2, h3, h4⟩
    exact ⟨_, rfl, hJ.step h4, h4, bb, rfl, Nat.le_trans hJ.size h2, h3⟩
  refine lex_nil (fun m W hJ hF => ?_)
  have hv := hF 1 rfl _ _ _ (by simp [upd]; exact ⟨rfl, rfl⟩) rfl
  have hDW := (hJ.block _ hDl).trans hD
  have L5 : LeB w W := LeB.tr L4 hJ
  clear hF hh hJ hblk hlt hD
  have Hb := Lib.hid hDW
  have HV := Lib.hid hv
  clear hDW hv
  go_wp2_with (refine wpList_store_row rfl _ _ 48 rfl wa.heap.size 48 _ _ rfl rfl Hb.out rfl infoCn rfl ?_)
  subst hcc
  refine bodyPost_ret (ret_cell3 (x := v) (y := .int .i64 0) rfl rfl rfl rfl (setRow_heap _ _ _ _ _ _ Hb.out) Try.underlying48 rfl infoCn) rfl ?_
  exact ⟨v, rfl, (HV.out.setRow (k := wa.heap.size) (by omega) _).more L4.size, below_setRow L5 F1.out.2.2.2 _⟩
end Go.Proofs.Ytdenjmdngmmodaa
