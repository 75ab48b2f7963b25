/- The law of frames. -/
import Derived.Test.YtdenjmdngmmodaaFnF
namespace Go.Proofs.Ytdenjmdngmmodaa
open Go.RowKit
set_option linter.unusedVariables false
set_option linter.unusedSimpArgs false
set_option maxRecDepth 20000
set_option maxHeartbeats 4000000

theorem take_app {α : Type} {a b : List α} {n : Nat} (h : a.length = n) : (a ++ b).take n = a := by subst h; simp
theorem drop_app {α : Type} {a b : List α} {n : Nat} (h : a.length = n) : (a ++ b).drop n = b := by subst h; simp
theorem rdFrame_frameB (d s : ByteArray) (k : Nat) (b : ByteArray) (hd : d.size = 6) (hs : s.size = 6) (hk : k = 2048 ∨ k = 2054) (hb : b.size ≤ 400) :
    rdFrame (frameB d s k b) = (⟨sb d, sb s, k, sb b⟩, 0) := by
  have h1 : (sb d).length = 6 := by rw [sb_len]; exact hd
  have h2 : (sb s).length = 6 := by rw [sb_len]; exact hs
  have h3 := beN_len k 2
  have hl : (frameB d s k b).length = 14 + (sb b).length := by simp [frameB, sb_append, h1, h2, h3]; omega
  have hb' : (sb b).length ≤ 400 := by rw [sb_len]; exact hb
  have hf : frOf (frameB d s k b) = ⟨sb d, sb s, k, sb b⟩ := by
    have e : frameB d s k b = sb d ++ (sb s ++ (beN k 2 ++ sb b)) := by simp [frameB, sb_append]
    have e2 : (frameB d s k b).drop 6 = sb s ++ (beN k 2 ++ sb b) := by rw [e, drop_app h1]
    have e3 : (frameB d s k b).drop 12 = beN k 2 ++ sb b := by rw [show 12 = 6 + 6 from rfl, ← List.drop_drop, e2, drop_app h2]
    have e4 : (frameB d s k b).drop 14 = sb b := by rw [show 14 = 12 + 2 from rfl, ← List.drop_drop, e3, drop_app h3]
    unfold frOf
    rw [e2, e3, e4, hl, List.drop_zero, e, take_app h1, take_app h2, take_app h3, numL_beN]
    congr 1
    · omega
    · exact List.take_of_length_le (by omega)
  rw [rdFrame, hl, if_neg (by omega), hf, if_pos hk]
theorem rdArp_arpB (op : Nat) (sm dm : ByteArray) (si di : Nat) (h : ArpOK op sm dm si di) :
    rdArp (arpB op sm dm si di) = (⟨op, sb sm, sb dm, si, di⟩, 0) := by
  obtain ⟨o1, o2, h1, h2, h3, h4⟩ := h
  have g1 : (sb sm).length = 6 := by rw [sb_len]; exact h1
  have g2 : (sb dm).length = 6 := by rw [sb_len]; exact h2
  have g3 := beN_len si 4
  have g4 := beN_len di 4
  have g0 := beN_len op 1
  have hl : (arpB op sm dm si di).length = 28 := by simp [arpB, g0, g1, g2, g3, g4]
  have d7 : (arpB op sm dm si di).drop 7 = beN op 1 ++ (sb sm ++ (beN si 4 ++ (sb dm ++ beN di 4))) := rfl
  have d8 : (arpB op sm dm si di).drop 8 = sb sm ++ (beN si 4 ++ (sb dm ++ beN di 4)) := by rw [show 8 = 7 + 1 from rfl, ← List.drop_drop, d7, drop_app g0]
  have d14 : (arpB op sm dm si di).drop 14 = beN si 4 ++ (sb dm ++ beN di 4) := by rw [show 14 = 8 + 6 from rfl, ← List.drop_drop, d8, drop_app g1]
  have d18 : (arpB op sm dm si di).drop 18 = sb dm ++ beN di 4 := by rw [show 18 = 14 + 4 from rfl, ← List.drop_drop, d14, drop_app g3]
  have d24 : (arpB op sm dm si di).drop 24 = beN di 4 := by rw [show 24 = 18 + 6 from rfl, ← List.drop_drop, d18, drop_app g2]
  have ho : ((arpB op sm dm si di).getD 7 0).toNat = op := by
    obtain rfl | rfl : op = 1 ∨ op = 2 := by omega
    · rfl
    · rfl
  have hf : arOf (arpB op sm dm si di) = ⟨op, sb sm, sb dm, si, di⟩ := by
    unfold arOf
    rw [ho, d8, d18, d14, d24, take_app g1, take_app g2, take_app g3, List.take_of_length_le (by omega), numL_beN, numL_beN]
    congr 1
    · omega
    · omega
  rw [rdArp, hf, if_pos ⟨hl, rfl, o1, o2⟩]
theorem rdArp_short (bs : List UInt8) (h : bs.length ≠ 28) : rdArp bs = (.zero, 3) := by rw [rdArp, if_neg (by omega)]

theorem at_ok2 (A : Option Addr) (c : Nat) (bs : List UInt8) (hl : bs.length ≤ 1099511627776) (hc : bs.length ≤ c) (i n : Int) (hi : 0 ≤ i ∧ i ≤ 1000000) (hn : 0 ≤ n ∧ n ≤ 1000000000) (w : World) (hr : Rd w A (bs.map bV)) :
    Calls Try.prog 17 #[.slice A bs.length c, .int .i64 i, .int .i64 n] w fun e w' => ∃ r : Nat, e = .returned (.int .i64 r) ∧ ((r : Int) < n ∨ r = 0) ∧ Below w.heap.size w w' := by
  obtain ⟨i', rfl⟩ := Int.eq_ofNat_of_zero_le hi.1
  obtain ⟨n', rfl⟩ := Int.eq_ofNat_of_zero_le hn.1
  refine (at_ok A c bs hl hc i' n' (by omega) (by omega) w hr).mono ?_
  rintro e w' ⟨r, h1, h2, h3⟩
  exact ⟨r, h1, by omega, h3⟩
theorem LeB.tr {a b c : World} (h : LeB a b) (k : LeB b c) : LeB a c := Below.trans h (Below.mono k h.size)

theorem FnFrames_ok (A : Option Addr) (c : Nat) (bs : List UInt8) (A2 : Option Addr) (c2 : Nat) (bs2 : List UInt8) (hc : bs.length ≤ c) (hc2 : bs2.length ≤ c2) (w : World) (hr : Rd w A (bs.map bV)) (hr2 : Rd w A2 (bs2.map bV)) :
    Calls Try.prog 3 #[.slice A bs.length c, .slice A2 bs2.length c2] w fun e w' => e = .returned (.bool true) ∧ Below w.heap.size w w' := by
  by_cases h1 : 1048576 < bs.length
  · have g1 : (1048576 : Int) < bs.length := by omega
    go_enter Try.func3, Try.ntmps3
    go_wp2
    go_ret
    exact ⟨rfl, Below.refl _ _⟩
  have g1 : decide ((1048576 : Int) < bs.length) = false := by simp; omega
  by_cases h2 : 1048576 < bs2.length
  · have g2 : (1048576 : Int) < bs2.length := by omega
    go_enter Try.func3, Try.ntmps3
    go_wp2
    go_ret
    exact ⟨rfl, Below.refl _ _⟩
  have g2 : decide ((1048576 : Int) < bs2.length) = false := by simp; omega
  go_enter Try.func3, Try.ntmps3
  go_wp2_with fail
  refine (FrameOf_ok A c bs (by omega) w hr).mono ?_
  rintro e w1 ⟨v, rfl, ⟨m1, m2, kk, t, q1, q2, q3, q4, rfl⟩, hB1⟩
  obtain ⟨k, rfl, hk⟩ : ∃ k : Nat, kk = k ∧ (k = 2048 ∨ k = 2054) := by rcases q3 with rfl | rfl; exact ⟨2048, rfl, Or.inl rfl⟩; exact ⟨2054, rfl, Or.inr rfl⟩
  have HK : FrameOK m1 m2 k t := ⟨q1.size, q2.size, hk, by simp at q4; rcases q4 with rfl | rfl | rfl <;> simp [bstr_size]⟩
  have HF := Lib.hid HK
  clear q1 q2 q3 q4 hk HK
  go_wp2_with fail
  generalize hw0 : World.alloc w1 (.cells #[.string m1, .string m2, .int .i64 k, .string t] 24) = wa
  have hblk : wa.heap[World.heap w1 |>.size]? = some (.cells #[.string m1, .string m2, .int .i64 k, .string t] 24 (0, 0)) := by rw [← hw0]; exact heap_alloc_new _ _
  have hlt : (World.heap w1).size < wa.heap.size := (Array.getElem?_eq_some_iff.1 hblk).1
  have hB0 : Below (World.heap w1).size w1 wa := by rw [← hw0]; exact (Below.refl _ _).alloc (Nat.le_refl _) _
  clear hw0
  have hBa := Below.trans hB1 (hB0.mono hB1.size)
  refine (iFrameBytes_ok m1 m2 k t HF.out wa).mono ?_
  rintro e w2 ⟨v, rfl, hown, hB2⟩
  obtain ⟨A6, c6, rfl, hc6, hr6, hA6⟩ := own_slice hown
  have hb5 := (hB2.block _ hlt).trans hblk
  have hlt5 : w1.heap.size < w2.heap.size := Nat.lt_of_lt_of_le hlt hB2.size
  have hBb := Below.trans hBa (hB2.mono hBa.size)
  clear hblk hlt hB0 hB1 hBa hown hB2
  generalize hg5 : w1.heap.size = g5 at *
  clear hg5 hA6
  have c0 := blk_cell hb5 0
  have c1 := blk_cell hb5 1
  have c2' := blk_cell hb5 2
  have c3 := blk_cell hb5 3
  simp at c0 c1 c2' c3
  have hL : (frameB m1 m2 k t).length = 14 + t.size := by simp [frameB, sb_append, sb_len, beN_len, HF.out.dst, HF.out.src]; omega
  have hL2 := HF.out.body
  have hrd := rdFrame_frameB m1 m2 k t HF.out.dst HF.out.src HF.out.kind HF.out.body
  generalize hbs6 : frameB m1 m2 k t = b6 at *
  have Hb6 := Lib.hid hbs6
  have HL := Lib.hid (And.intro hL hL2)
  clear hbs6 hL hL2
  go_wp2_with fail
  refine (sFrameBytes_ok m1 m2 k t HF.out w2).mono ?_
  rintro e w3 ⟨v, rfl, ⟨A8, c8, rfl, hc8, hr8⟩, hB3⟩
  rw [Hb6.out] at hc8 hr8 ⊢
  have hb5' := (hB3.block _ hlt5).trans hb5
  have hr6' := hr6.below hB3 (Nat.le_refl _)
  have hBc := Below.trans hBb (hB3.mono hBb.size)
  have hlt5' : g5 < w3.heap.size := Nat.lt_of_lt_of_le hlt5 hB3.size
  clear hr6 hb5 hBb hB3 hlt5 c0 c1 c2' c3
  go_wp2_with fail
  refine (ReadFrame_ok A6 c6 b6 (by have := HL.out; omega) hc6 w3 hr6').mono ?_
  rintro e w4 ⟨rfl, hB4⟩
  rw [hrd]
  dsimp only [Fr.v, bstr_sb]
  have F1 := Lib.hid (And.intro hb5' (And.intro hr6' (And.intro hr8 hlt5')))
  clear hb5' hr6' hr8 hlt5' hrd
  go_wp2_with fail
  generalize hw0 : World.alloc w4 (.cells #[.string m1, .string m2, .int .i64 k, .string t] 24) = wb
  have hblk : wb.heap[World.heap w4 |>.size]? = some (.cells #[.string m1, .string m2, .int .i64 k, .string t] 24 (0, 0)) := by rw [← hw0]; exact heap_alloc_new _ _
  have hlt : (World.heap w4).size < wb.heap.size := (Array.getElem?_eq_some_iff.1 hblk).1
  have hB0 : Below (World.heap w4).size w4 wb := by rw [← hw0]; exact (Below.refl _ _).alloc (Nat.le_refl _) _
  clear hw0
  have L1 : LeB w3 wb := LeB.tr hB4 hB0
  have F2 := Lib.hid (And.intro hblk hlt)
  have L0 : LeB w wb := LeB.tr hBc L1
  clear hblk hlt hB0 hB4 hBc
  generalize hg10 : w4.heap.size = g10 at *
  clear hg10
  refine (ArpOf_ok A2 c2 bs2 (by omega) wb (hr2.below L0 (Nat.le_refl _))).mono ?_
  rintro e w5 ⟨v, rfl, ⟨op, sm, dm, si, di, hOK, rfl⟩, hB5⟩
  have HA := Lib.hid hOK
  clear hOK
  go_wp2_with fail
  generalize hw0 : World.alloc w5 (.cells #[.int .i64 op, .string sm, .string dm, .int .i64 si, .int .i64 di] 31) = wc
  have hblk : wc.heap[World.heap w5 |>.size]? = some (.cells #[.int .i64 op, .string sm, .string dm, .int .i64 si, .int .i64 di] 31 (0, 0)) := by rw [← hw0]; exact heap_alloc_new _ _
  have hlt : (World.heap w5).size < wc.heap.size := (Array.getElem?_eq_some_iff.1 hblk).1
  have hB0 : Below (World.heap w5).size w5 wc := by rw [← hw0]; exact (Below.refl _ _).alloc (Nat.le_refl _) _
  clear hw0
  refine (iArpBytes_ok op sm dm si di HA.out wc).mono ?_
  rintro e w6 ⟨v, rfl, hown, hB6⟩
  obtain ⟨A13, c13, rfl, hc13, hr13, -⟩ := own_slice hown
  have M1 : LeB wb w6 := LeB.tr hB5 (LeB.tr hB0 hB6)
  have hb12 := (hB6.block _ hlt).trans hblk
  have hlt12 := Nat.lt_of_lt_of_le hlt hB6.size
  clear hblk hlt hB0 hown hB5 hB6
  generalize hg12 : w5.heap.size = g12 at *
  clear hg12
  have c0 := blk_cell hb12 0
  have c1 := blk_cell hb12 1
  have c2' := blk_cell hb12 2
  have c3 := blk_cell hb12 3
  have c4 := blk_cell hb12 4
  simp at c0 c1 c2' c3 c4
  have hl13 : (arpB op sm dm si di).length = 28 := by simp [arpB, sb_len, beN_len, HA.out.smac, HA.out.dmac]
  have hra := rdArp_arpB op sm dm si di HA.out
  generalize hbs13 : arpB op sm dm si di = b13 at *
  have Hb13 := Lib.hid hbs13
  have HL13 := Lib.hid hl13
  clear hbs13 hl13
  go_wp2_with fail
  refine (sArpBytes_ok op sm dm si di HA.out w6).mono ?_
  rintro e w7 ⟨v, rfl, ⟨A15, c15, rfl, hc15, hr15⟩, hB7⟩
  rw [Hb13.out] at hc15 hr15 ⊢
  have hr13' := hr13.below hB7 (Nat.le_refl _)
  have F3 := Lib.hid (And.intro hb12 hlt12)
  clear c0 c1 c2' c3 c4 hb12 hlt12 hr13
  go_wp2_with fail
  refine (ReadArp_ok A13 c13 b13 (by have := HL13.out; omega) hc13 w7 hr13').mono ?_
  rintro e w8 ⟨rfl, hB8⟩
  rw [hra]
  dsimp only [Ar.v, bstr_sb]
  have F4 := Lib.hid (And.intro hr13' hr15)
  clear hr13' hr15 hra
  go_wp2_with fail
  all_goals
    generalize hw0 : World.alloc w8 (.cells #[.int .i64 op, .string sm, .string dm, .int .i64 si, .int .i64 di] 31) = wd
    have hblk : wd.heap[World.heap w8 |>.size]? = some (.cells #[.int .i64 op, .string sm, .string dm, .int .i64 si, .int .i64 di] 31 (0, 0)) := by rw [← hw0]; exact heap_alloc_new _ _
    have hlt : (World.heap w8).size < wd.heap.size := (Array.getElem?_eq_some_iff.1 hblk).1
    have hB0 : Below (World.heap w8).size w8 wd := by rw [← hw0]; exact (Below.refl _ _).alloc (Nat.le_refl _) _
    clear hw0
    have N1 : LeB w7 wd := LeB.tr hB8 hB0
    have N2 : LeB w6 wd := LeB.tr hB7 N1
    have N3 : LeB wb wd := LeB.tr M1 N2
    have N4 : LeB w wd := LeB.tr L0 N3
    have N5 : LeB w3 wd := LeB.tr L1 N3
    have F5 := Lib.hid (And.intro hblk hlt)
    clear hblk hlt hB0 hB8 hB7
    generalize hg17 : w8.heap.size = g17 at *
    clear hg17
    refine (at_ok2 A2 c2 bs2 (by omega) hc2 _ _ (by omega) (by have := HL.out; omega) wd (hr2.below N4 (Nat.le_refl _))).mono ?_
    rintro e w9 ⟨r, rfl, hr9, hB9⟩
    have hr28 : r < 28 ∧ r ≤ b6.length := by have := HL.out; omega
    have hrc : (r : Int) ≤ c6 := by omega
    have hlr : (b6.take r).length = r := by rw [List.length_take]; omega
    go_wp2_with fail
    refine (hlr ▸ ReadArp_ok A6 c6 (b6.take r) (by omega) (by omega) w9 ((F1.out.2.1.below (LeB.tr N5 hB9) (Nat.le_refl _)).hd r)).mono ?_
    rintro e w10 ⟨rfl, hB10⟩
    rw [rdArp_short _ (by omega)]
    dsimp only [Ar.v, Ar.zero]
    go_wp2_with fail
    generalize hw0 : World.alloc w10 (.cells #[.int .i64 0, .string (bstr []), .string (bstr []), .int .i64 0, .int .i64 0] 31) = we
    have hblk : we.heap[World.heap w10 |>.size]? = some (.cells #[.int .i64 0, .string (bstr []), .string (bstr []), .int .i64 0, .int .i64 0] 31 (0, 0)) := by rw [← hw0]; exact heap_alloc_new _ _
    have hlt : (World.heap w10).size < we.heap.size := (Array.getElem?_eq_some_iff.1 hblk).1
    have hB0 : Below (World.heap w10).size w10 we := by rw [← hw0]; exact (Below.refl _ _).alloc (Nat.le_refl _) _
    clear hw0
    have P1 : LeB wd we := LeB.tr hB9 (LeB.tr hB10 hB0)
    have P2 : LeB w7 we := LeB.tr N1 P1
    have P3 : LeB w3 we := LeB.tr N5 P1
    have r6 := bytes_str A6 b6.length c6 b6 rfl we (F1.out.2.1.below P3 (Nat.le_refl _))
    have r8 := bytes_str A8 b6.length c8 b6 rfl we (F1.out.2.2.1.below P3 (Nat.le_refl _))
    have r13 := bytes_str A13 b13.length c13 b13 rfl we (F4.out.1.below P2 (Nat.le_refl _))
    have r15 := bytes_str A15 b13.length c15 b13 rfl we (F4.out.2.below P2 (Nat.le_refl _))
    have b5 := (P3.block _ F1.out.2.2.2).trans F1.out.1
    have b10 := ((LeB.tr N3 P1).block _ F2.out.2).trans F2.out.1
    have b12 := ((LeB.tr N2 P1).block _ F3.out.2).trans F3.out.1
    have b17 := (P1.block _ F5.out.2).trans F5.out.1
    have x0 := blk_cell b5 0
    have x1 := blk_cell b5 1
    have x2 := blk_cell b5 2
    have x3 := blk_cell b5 3
    have y0 := blk_cell b10 0
    have y1 := blk_cell b10 1
    have y2 := blk_cell b10 2
    have y3 := blk_cell b10 3
    have u0 := blk_cell b12 0
    have u1 := blk_cell b12 1
    have u2 := blk_cell b12 2
    have u3 := blk_cell b12 3
    have u4 := blk_cell b12 4
    have v0 := blk_cell b17 0
    have v1 := blk_cell b17 1
    have v2 := blk_cell b17 2
    have v3 := blk_cell b17 3
    have v4 := blk_cell b17 4
    simp at x0 x1 x2 x3 y0 y1 y2 y3 u0 u1 u2 u3 u4 v0 v1 v2 v3 v4
    have HP := Lib.hid (LeB.tr N4 P1)
    clear b5 b10 b12 b17 hblk hlt hB0 P1 P2 P3 N1 N2 N3 N4 N5 hB9 hB10 L0 L1 M1
    rw [r6]
    go_wp2_with fail
    go_ret
    exact ⟨rfl, HP.out⟩
end Go.Proofs.Ytdenjmdngmmodaa
