/- Connections, the other hand: small calls. | Connections, the other hand: what is acknowledged. | Connections, the other hand: regions that answer a connection and one segment. -/
import Derived.Test.YtdenjmdngmmodaaKc08
import Derived.Deep.Cut
namespace Go.Proofs.Ytdenjmdngmmodaa
open Go.RowKit
set_option linter.unusedVariables false
set_option linter.unusedSimpArgs false
set_option maxRecDepth 200000
set_option maxHeartbeats 4000000

/-- The low 32 bits of any number. -/
theorem and_maxZ (x : Int) : bits .and .i64 x 4294967295 = x % 4294967296 := by
  show IntKind.i64.wrap ((BitVec.ofInt 64 x &&& BitVec.ofInt 64 ((4294967295 : Nat) : Int)).toNat : Int) = _
  rw [BitVec.toNat_and, ofInt_i64 4294967295 (by omega), IntKind.wrap_i64, BitVec.toNat_ofInt, BitVec.toNat_ofNat, show 4294967295 % 2 ^ 64 = 2 ^ 32 - 1 from rfl, Nat.and_two_pow_sub_one_eq_mod]
  omega
theorem and_bhd (a b : Nat) (ha : a < 4294967296) (hb : b < 4294967296) (n : Nat) (hn : bhd a b = n) : bits .and .i64 ((a : Int) - b) 4294967295 = (n : Int) := by
  subst hn
  rw [and_maxZ]
  unfold bhd
  omega
theorem l10Seq_is (x : Int) (y : Nat) (h : bits .and .i64 x 4294967295 = (y : Int)) (w : World) : Calls Try.prog 139 #[.int .i64 x] w fun e w' => e = .returned (.int .i64 y) ∧ w = w' := by
  go_enter Try.func139, Try.ntmps139
  go_wp2
  go_ret
  exact ⟨rfl, rfl⟩
theorem l01Bit_ok (b : Bool) (w : World) : Calls Try.prog 147 #[.bool b] w fun e w' => e = .returned (.int .i64 (b.toNat : Nat)) ∧ w = w' := by
  cases b
  all_goals
    go_enter Try.func147, Try.ntmps147
    go_wp2
    go_ret
    exact ⟨rfl, rfl⟩
def sentC (c : Cn) : Nat := c.out.size + c.fin.toNat + (decide (c.st = 1)).toNat
theorem sentC_OK {c : Cn} (h : CnOK c) : bhd c.nxt c.una = sentC c := by
  unfold sentC
  rcases h.mode with ⟨m1, m2, m3, m4, m5⟩ | ⟨m1, m2, m3, m5⟩ | ⟨m1, m2, m5⟩ | ⟨m1, m2, m3, m5⟩
  · rw [m1, m2, m3, m5]; rfl
  · rw [m1, m2, m3, m5]; rfl
  · rw [m1, m2, m5]; rfl
  · rw [m1, m2, m3, m5]; rfl
theorem l10Sent_ok (c : Cn) (ho : c.out.size ≤ 300) (n : Nat) (hn : sentC c = n) (w : World) : Calls Try.prog 141 #[.agg c.cells] w fun e w' => e = .returned (.int .i64 n) ∧ Below w.heap.size w w' := by
  obtain ⟨mac, ip, port, dst, st, una, nxt, want, inn, out, fin⟩ := c
  dsimp only at ho
  have hoI : (out.size : Int) ≤ 300 := by omega
  have hn' : out.size + fin.toNat + (decide (st = 1)).toNat = n := hn
  have HN := Lib.hid hn'
  clear hn hn' ho
  by_cases h1 : st = 1
  · subst h1
    cases fin
    all_goals
      go_enter Try.func141, Try.ntmps141
      go_wp2_with fail
      go_quiet ((exact qs (l01Bit_ok _ _)))
      go_wp2
      go_ret
      exact ⟨by rw [← HN.out]; simp, below_drewN ((Below.refl _ _).alloc (Nat.le_refl _) _) _⟩
  · have h1I : ((st : Int) == 1) = false := by simp; omega
    have h2 : decide (st = 1) = false := by simp [h1]
    have HN2 := Lib.hid h2
    clear h1 h2
    cases fin
    all_goals
      go_enter Try.func141, Try.ntmps141
      go_wp2_with fail
      go_quiet ((exact qs (l01Bit_ok _ _)))
      go_wp2
      go_ret
      exact ⟨by rw [← HN.out, HN2.out]; simp, below_drewN ((Below.refl _ _).alloc (Nat.le_refl _) _) _⟩
theorem l10Reply_ok (c : Cn) (seq flags : Nat) (data : ByteArray) (w : World) :
    Calls Try.prog 142 #[.agg c.cells, .int .i64 seq, .int .i64 flags, .string data] w fun e w' => e = .returned (.agg (Sg.cells ⟨80, c.port, seq, c.want, flags, 1000, data⟩)) ∧ Below w.heap.size w w' := by
  go_enter Try.func142, Try.ntmps142
  go_upto_region 1 with (fail)
  generalize hw0 : World.alloc w (.cells c.cells 48) = wa
  have hblk : wa.heap[World.heap w |>.size]? = some (.cells c.cells 48 (0, 0)) := by rw [← hw0]; exact heap_alloc_new _ _
  have hlt : (World.heap w).size < wa.heap.size := (Array.getElem?_eq_some_iff.1 hblk).1
  have hB0 : Below (World.heap w).size w wa := by rw [← hw0]; exact (Below.refl _ _).alloc (Nat.le_refl _) _
  have hsz : (World.heap wa).size = (World.heap w).size + 1 := by rw [← hw0]; simp
  clear hw0
  rw [← hsz]
  have X1 := And.intro hblk (And.intro hlt hB0)
  clear hblk hlt hB0 hsz
  generalize hw0 : World.alloc wa (.cells #[.int .i64 0, .int .i64 0, .int .i64 0, .int .i64 0, .int .i64 0, .int .i64 0, .string ⟨#[]⟩] 55) = wb
  have hblk : wb.heap[World.heap wa |>.size]? = some (.cells #[.int .i64 0, .int .i64 0, .int .i64 0, .int .i64 0, .int .i64 0, .int .i64 0, .string ⟨#[]⟩] 55 (0, 0)) := by rw [← hw0]; exact heap_alloc_new _ _
  have hlt : (World.heap wa).size < wb.heap.size := (Array.getElem?_eq_some_iff.1 hblk).1
  have hB0 : Below (World.heap wa).size wa wb := by rw [← hw0]; exact (Below.refl _ _).alloc (Nat.le_refl _) _
  clear hw0
  have hcn := (hB0.block _ X1.2.1).trans X1.1
  have c2 := (blk_cell hcn 2).trans (Cn.g2 c)
  have c7 := (blk_cell hcn 7).trans (Cn.g7 c)
  have HX := Lib.hid (And.intro hblk (And.intro (LeB.tr X1.2.2 hB0) X1.2.2.size))
  clear hcn hblk hlt hB0 X1
  go_wp2_with (refine wpList_store_row rfl _ _ 55 rfl wa.heap.size 55 _ _ rfl rfl HX.out.1 rfl infoSg rfl ?_)
  refine bodyPost_ret (ret_cell rfl rfl (setRow_heap _ _ _ _ _ _ HX.out.1) Try.underlying55 rfl infoSg) rfl ?_
  exact ⟨rfl, below_setRow HX.out.2.1 HX.out.2.2 _⟩
end Go.Proofs.Ytdenjmdngmmodaa
namespace Go.Proofs.Ytdenjmdngmmodaa
open Go.RowKit
set_option linter.unusedVariables false
set_option linter.unusedSimpArgs false
set_option maxRecDepth 200000
set_option maxHeartbeats 4000000

/-- A boxed connection, and the block of the result. -/
structure CnR (w0 w : World) (b : Nat) (c : Cn) (r : Nat) : Prop where
  cn : w.heap[b]? = some (.cells c.cells 48 (0, 0))
  rs : w.heap[r]? = some (.cells cnZero 48 (0, 0))
  bl : Below w0.heap.size w0 w
  hb : w0.heap.size ≤ b
  hr : w0.heap.size ≤ r
  ne : r ≠ b
theorem CnR.below {w0 w W : World} {b r : Nat} {c : Cn} (h : CnR w0 w b c r) (hB : LeB w W) : CnR w0 W b c r :=
  ⟨(hB.block b (Array.getElem?_eq_some_iff.1 h.cn).1).trans h.cn, (hB.block r (Array.getElem?_eq_some_iff.1 h.rs).1).trans h.rs, Below.trans h.bl (Below.mono hB h.bl.size), h.hb, h.hr, h.ne⟩
theorem CnR.store {w0 w : World} {b r : Nat} {c : Cn} (h : CnR w0 w b c r) (c' : Cn) (k : Nat) (u : Value) (hc : c.cells.setIfInBounds k u = c'.cells) : CnR w0 (w.setCell ⟨b, k, none⟩ u) b c' r :=
  ⟨by rw [blk_set h.cn, hc], (Below.heap_setCell w ⟨b, k, none⟩ u r h.ne).trans h.rs, h.bl.setCell h.hb u, h.hb, h.hr, h.ne⟩
theorem CnR.put {w0 w : World} {b r : Nat} {c : Cn} (h : CnR w0 w b c r) (c' : Cn) (k : Nat) (u : Value) (hc : c.cells.setIfInBounds k u = c'.cells) : ∃ w', w.setCell ⟨b, k, none⟩ u = w' ∧ CnR w0 w' b c' r := ⟨_, rfl, h.store c' k u hc⟩
theorem CnR.ccell {w0 w : World} {b r : Nat} {c : Cn} (h : CnR w0 w b c r) (k : Nat) (u : Value) (hk : c.cells[k]? = some u) : w.cell? ⟨b, k, none⟩ = some u := (blk_cell h.cn k).trans hk
theorem CnR.free {w0 w : World} {b r : Nat} {c : Cn} (h : CnR w0 w b c r) (k : Nat) : w.frozen? ⟨b, k, none⟩ = false := blk_free h.cn k
theorem cells_st (c : Cn) (x : Nat) : c.cells.setIfInBounds 4 (.int .i64 x) = Cn.cells { c with st := x } := rfl
theorem cells_una (c : Cn) (x : Nat) : c.cells.setIfInBounds 5 (.int .i64 x) = Cn.cells { c with una := x } := rfl
theorem cells_out (c : Cn) (x : ByteArray) : c.cells.setIfInBounds 9 (.string x) = Cn.cells { c with out := x } := rfl
theorem cells_fin (c : Cn) (x : Bool) : c.cells.setIfInBounds 10 (.bool x) = Cn.cells { c with fin := x } := rfl
theorem l10Acked_ok (c : Cn) (ack : Nat) (hc : CnOK c) (ha : ack < 4294967296) (ca : Cn) (hca : acked c ack = ca) (w : World) :
    Calls Try.prog 143 #[.agg c.cells, .int .i64 ack] w fun e w' => e = .returned (.agg ca.cells) ∧ Below w.heap.size w w' := by
  obtain ⟨far, hfar⟩ : ∃ n, bhd ack c.una = n := ⟨_, rfl⟩
  obtain ⟨sent, hsent⟩ : ∃ n, sentC c = n := ⟨_, rfl⟩
  have hs2 := (sentC_OK hc).trans hsent
  have hf2 : far < 4294967296 := by rw [← hfar]; exact bhd_lt _ _
  have ho := hc.out
  have hsl : sent ≤ 301 := by
    have := hc.mode
    rcases this with m | m | m | m
    · omega
    · omega
    · omega
    · omega
  have hackI : (ack : Int) < 4294967296 := by omega
  have hunaI : (c.una : Int) < 4294967296 := by have := hc.una; omega
  have e1 := and_bhd ack c.una ha hc.una far hfar
  have HK := Lib.hid (And.intro hc (And.intro ha (And.intro hca (And.intro hfar (And.intro hsent hs2)))))
  have HE := Lib.hid e1
  have hoI : (c.out.size : Int) ≤ 300 := by omega
  have hf2I : (far : Int) < 4294967296 := by omega
  have hslI : (sent : Int) ≤ 301 := by omega
  clear hc ha hca hfar hsent hs2 e1 hf2
  go_enter Try.func143, Try.ntmps143
  go_wp2_with fail
  generalize hw0 : World.alloc w (.cells c.cells 48) = wa
  have hblk : wa.heap[World.heap w |>.size]? = some (.cells c.cells 48 (0, 0)) := by rw [← hw0]; exact heap_alloc_new _ _
  have hlt : (World.heap w).size < wa.heap.size := (Array.getElem?_eq_some_iff.1 hblk).1
  have hB0 : Below (World.heap w).size w wa := by rw [← hw0]; exact (Below.refl _ _).alloc (Nat.le_refl _) _
  have hsz : (World.heap wa).size = (World.heap w).size + 1 := by rw [← hw0]; simp
  clear hw0
  rw [← hsz]
  have X1 := And.intro hblk (And.intro hlt hB0)
  clear hblk hlt hB0 hsz
  generalize hw0 : World.alloc wa (.cells #[.string ⟨#[]⟩, .int .i64 0, .int .i64 0, .int .i64 0, .int .i64 0, .int .i64 0, .int .i64 0, .int .i64 0, .string ⟨#[]⟩, .string ⟨#[]⟩, .bool false] 48) = wb
  have hblk : wb.heap[World.heap wa |>.size]? = some (.cells #[.string ⟨#[]⟩, .int .i64 0, .int .i64 0, .int .i64 0, .int .i64 0, .int .i64 0, .int .i64 0, .int .i64 0, .string ⟨#[]⟩, .string ⟨#[]⟩, .bool false] 48 (0, 0)) := by rw [← hw0]; exact heap_alloc_new _ _
  have hlt : (World.heap wa).size < wb.heap.size := (Array.getElem?_eq_some_iff.1 hblk).1
  have hB0 : Below (World.heap wa).size wa wb := by rw [← hw0]; exact (Below.refl _ _).alloc (Nat.le_refl _) _
  clear hw0
  have HX := Lib.hid (CnR.mk (w0 := w) ((hB0.block _ X1.2.1).trans X1.1) hblk (LeB.tr X1.2.2 hB0) (Nat.le_refl _) X1.2.2.size (Nat.ne_of_gt X1.2.1))
  clear X1 hblk hlt hB0
  refine (l10Seq_is _ far HE.out wb).mono ?_
  rintro e w1 ⟨rfl, rfl⟩
  have c0 := blk_cell HX.out.cn 0
  have c1 := blk_cell HX.out.cn 1
  have c2 := blk_cell HX.out.cn 2
  have c3 := blk_cell HX.out.cn 3
  have c4 := blk_cell HX.out.cn 4
  have c5 := blk_cell HX.out.cn 5
  have c6 := blk_cell HX.out.cn 6
  have c7 := blk_cell HX.out.cn 7
  have c8 := blk_cell HX.out.cn 8
  have c9 := blk_cell HX.out.cn 9
  have c10 := blk_cell HX.out.cn 10
  simp at c0 c1 c2 c3 c4 c5 c6 c7 c8 c9 c10
  have cf0 := blk_free HX.out.cn 0
  have cf1 := blk_free HX.out.cn 1
  have cf2 := blk_free HX.out.cn 2
  have cf3 := blk_free HX.out.cn 3
  have cf4 := blk_free HX.out.cn 4
  have cf5 := blk_free HX.out.cn 5
  have cf6 := blk_free HX.out.cn 6
  have cf7 := blk_free HX.out.cn 7
  have cf8 := blk_free HX.out.cn 8
  have cf9 := blk_free HX.out.cn 9
  have cf10 := blk_free HX.out.cn 10
  by_cases hz : far = 0
  · have hzI : (far : Int) = 0 := by omega
    go_wp2_with (refine wpList_store_row rfl _ _ 48 rfl wa.heap.size 48 _ _ rfl rfl HX.out.rs rfl infoCn rfl ?_)
    refine bodyPost_ret (ret_cell rfl rfl (setRow_heap _ _ _ _ _ _ HX.out.rs) Try.underlying48 rfl infoCn) rfl ?_
    have h : ca = c := by rw [← HK.out.2.2.1]; exact acked_same c ack (by rw [HK.out.2.2.2.1]; exact hz)
    exact ⟨by rw [h], below_setRow HX.out.bl HX.out.hr _⟩
  · have hzI : ((far : Int) == 0) = false := by simp; omega
    have hzN : far ≠ 0 := hz
    clear hz
    go_wp2_with fail
    refine (l10Sent_ok c (by omega) sent HK.out.2.2.2.2.1 wb).mono ?_
    rintro e w2 ⟨rfl, hB2⟩
    have HX2 := Lib.hid (HX.out.below hB2)
    clear HX hB2 c0 c1 c2 c3 c4 c5 c6 c7 c8 c9 c10 cf0 cf1 cf2 cf3 cf4 cf5 cf6 cf7 cf8 cf9 cf10
    have c0 := blk_cell HX2.out.cn 0
    have c1 := blk_cell HX2.out.cn 1
    have c2 := blk_cell HX2.out.cn 2
    have c3 := blk_cell HX2.out.cn 3
    have c4 := blk_cell HX2.out.cn 4
    have c5 := blk_cell HX2.out.cn 5
    have c6 := blk_cell HX2.out.cn 6
    have c7 := blk_cell HX2.out.cn 7
    have c8 := blk_cell HX2.out.cn 8
    have c9 := blk_cell HX2.out.cn 9
    have c10 := blk_cell HX2.out.cn 10
    simp at c0 c1 c2 c3 c4 c5 c6 c7 c8 c9 c10
    have cf0 := blk_free HX2.out.cn 0
    have cf1 := blk_free HX2.out.cn 1
    have cf2 := blk_free HX2.out.cn 2
    have cf3 := blk_free HX2.out.cn 3
    have cf4 := blk_free HX2.out.cn 4
    have cf5 := blk_free HX2.out.cn 5
    have cf6 := blk_free HX2.out.cn 6
    have cf7 := blk_free HX2.out.cn 7
    have cf8 := blk_free HX2.out.cn 8
    have cf9 := blk_free HX2.out.cn 9
    have cf10 := blk_free HX2.out.cn 10
    by_cases hs : sent < far
    · have hsI : (sent : Int) < far := by omega
      go_wp2_with (refine wpList_store_row rfl _ _ 48 rfl wa.heap.size 48 _ _ rfl rfl HX2.out.rs rfl infoCn rfl ?_)
      refine bodyPost_ret (ret_cell rfl rfl (setRow_heap _ _ _ _ _ _ HX2.out.rs) Try.underlying48 rfl infoCn) rfl ?_
      have h : ca = c := by rw [← HK.out.2.2.1, acked, if_neg (by rw [HK.out.2.2.2.1, HK.out.2.2.2.2.2]; omega)]
      exact ⟨by rw [h], below_setRow HX2.out.bl HX2.out.hr _⟩
    · have hsI : ¬ (sent : Int) < far := by omega
      have hgd : 1 ≤ bhd ack c.una ∧ bhd ack c.una ≤ bhd c.nxt c.una := by rw [HK.out.2.2.2.1, HK.out.2.2.2.2.2]; omega
      have HG := Lib.hid (And.intro hgd hs)
      have hsN : decide (sent < far) = false := by simp; omega
      clear hgd hs
      by_cases h1 : c.st = 1
      · have h1I : (c.st : Int) = 1 := by omega
        have H1 := Lib.hid h1
        clear h1
        go_upto_region 7 with (fail)
        obtain ⟨x0, hx0, Y0⟩ := HX2.out.put { c with st := 2 } 4 (.int .i64 2) (cells_st c 2)
        obtain ⟨x1, hx1, Y1⟩ := Y0.put { c with st := 2, una := ack } 5 (.int .i64 ack) (cells_una { c with st := 2 } ack)
        rw [hx0, hx1]
        clear c0 cf0 c1 cf1 c2 cf2 c3 cf3 c4 cf4 c5 cf5 c6 cf6 c7 cf7 c8 cf8 c9 cf9 c10 cf10 hx0 hx1
        have c0 := blk_cell Y1.cn 0
        have c1 := blk_cell Y1.cn 1
        have c2 := blk_cell Y1.cn 2
        have c3 := blk_cell Y1.cn 3
        have c4 := blk_cell Y1.cn 4
        have c5 := blk_cell Y1.cn 5
        have c6 := blk_cell Y1.cn 6
        have c7 := blk_cell Y1.cn 7
        have c8 := blk_cell Y1.cn 8
        have c9 := blk_cell Y1.cn 9
        have c10 := blk_cell Y1.cn 10
        simp at c0 c1 c2 c3 c4 c5 c6 c7 c8 c9 c10
        have HZ := Lib.hid Y1
        clear Y0 Y1
        go_wp2_with (refine wpList_store_row rfl _ _ 48 rfl wa.heap.size 48 _ _ rfl rfl HZ.out.rs rfl infoCn rfl ?_)
        refine bodyPost_ret (ret_cell rfl rfl (setRow_heap _ _ _ _ _ _ HZ.out.rs) Try.underlying48 rfl infoCn) rfl ?_
        have h : ca = { c with una := ack, st := 2 } := by rw [← HK.out.2.2.1, acked, if_pos HG.out.1, if_pos H1.out]
        exact ⟨by rw [h] <;> rfl, below_setRow HZ.out.bl HZ.out.hr _⟩
      · have h1I : ((c.st : Int) == 1) = false := by simp; omega
        by_cases h2 : c.out.size < far
        · have h2I : (c.out.size : Int) < far := by omega
          have h2N : decide (c.out.size < far) = true := by simp; omega
          have h3 : c.st = 3 := by
            have hm := HK.out.1.mode
            have hq := HK.out.2.2.2.2.2
            have hg := HG.out
            rcases hm with m | m | m | m
            · exact absurd m.1 h1
            · omega
            · exact m.1
            · omega
          have h3I : (c.st : Int) = 3 := by omega
          have H1 := Lib.hid (And.intro h1 h2)
          clear h1 h2 h3 h1I
          go_upto_region 15 with (fail)
          obtain ⟨x0, hx0, Y0⟩ := HX2.out.put { c with fin := false } 10 (.bool false) (cells_fin c false)
          obtain ⟨x1, hx1, Y1⟩ := Y0.put { c with fin := false, st := 4 } 4 (.int .i64 4) (cells_st { c with fin := false } 4)
          obtain ⟨x2, hx2, Y2⟩ := Y1.put { c with fin := false, st := 4, out := ⟨#[]⟩ } 9 (.string ⟨#[]⟩) (cells_out { c with fin := false, st := 4 } ⟨#[]⟩)
          obtain ⟨x3, hx3, Y3⟩ := Y2.put { c with fin := false, st := 4, out := ⟨#[]⟩, una := ack } 5 (.int .i64 ack) (cells_una { c with fin := false, st := 4, out := ⟨#[]⟩ } ack)
          rw [hx0, hx1, hx2, hx3]
          clear c0 cf0 c1 cf1 c2 cf2 c3 cf3 c4 cf4 c5 cf5 c6 cf6 c7 cf7 c8 cf8 c9 cf9 c10 cf10 hx0 hx1 hx2 hx3
          have c0 := blk_cell Y3.cn 0
          have c1 := blk_cell Y3.cn 1
          have c2 := blk_cell Y3.cn 2
          have c3 := blk_cell Y3.cn 3
          have c4 := blk_cell Y3.cn 4
          have c5 := blk_cell Y3.cn 5
          have c6 := blk_cell Y3.cn 6
          have c7 := blk_cell Y3.cn 7
          have c8 := blk_cell Y3.cn 8
          have c9 := blk_cell Y3.cn 9
          have c10 := blk_cell Y3.cn 10
          simp at c0 c1 c2 c3 c4 c5 c6 c7 c8 c9 c10
          have HZ := Lib.hid Y3
          clear Y0 Y1 Y2 Y3
          go_wp2_with (refine wpList_store_row rfl _ _ 48 rfl wa.heap.size 48 _ _ rfl rfl HZ.out.rs rfl infoCn rfl ?_)
          refine bodyPost_ret (ret_cell rfl rfl (setRow_heap _ _ _ _ _ _ HZ.out.rs) Try.underlying48 rfl infoCn) rfl ?_
          have h : ca = { c with una := ack, out := ⟨#[]⟩, st := 4, fin := false } := by rw [← HK.out.2.2.1, acked, if_pos HG.out.1, if_neg H1.out.1, if_pos (by rw [HK.out.2.2.2.1]; exact H1.out.2)]
          exact ⟨by rw [h] <;> rfl, below_setRow HZ.out.bl HZ.out.hr _⟩
        · have h2I : ¬ (c.out.size : Int) < far := by omega
          have h2N : decide (c.out.size < far) = false := by simp; omega
          have h2J : (far : Int) ≤ c.out.size := by omega
          have H1 := Lib.hid (And.intro h1 h2)
          clear h1 h2
          go_upto_region 15 with (fail)
          obtain ⟨x0, hx0, Y0⟩ := HX2.out.put { c with out := c.out.extract far c.out.size } 9 (.string (c.out.extract far c.out.size)) (cells_out c _)
          obtain ⟨x1, hx1, Y1⟩ := Y0.put { c with out := c.out.extract far c.out.size, una := ack } 5 (.int .i64 ack) (cells_una { c with out := c.out.extract far c.out.size } ack)
          rw [hx0, hx1]
          clear c0 cf0 c1 cf1 c2 cf2 c3 cf3 c4 cf4 c5 cf5 c6 cf6 c7 cf7 c8 cf8 c9 cf9 c10 cf10 hx0 hx1
          have c0 := blk_cell Y1.cn 0
          have c1 := blk_cell Y1.cn 1
          have c2 := blk_cell Y1.cn 2
          have c3 := blk_cell Y1.cn 3
          have c4 := blk_cell Y1.cn 4
          have c5 := blk_cell Y1.cn 5
          have c6 := blk_cell Y1.cn 6
          have c7 := blk_cell Y1.cn 7
          have c8 := blk_cell Y1.cn 8
          have c9 := blk_cell Y1.cn 9
          have c10 := blk_cell Y1.cn 10
          simp at c0 c1 c2 c3 c4 c5 c6 c7 c8 c9 c10
          have HZ := Lib.hid Y1
          clear Y0 Y1
          go_wp2_with (refine wpList_store_row rfl _ _ 48 rfl wa.heap.size 48 _ _ rfl rfl HZ.out.rs rfl infoCn rfl ?_)
          refine bodyPost_ret (ret_cell rfl rfl (setRow_heap _ _ _ _ _ _ HZ.out.rs) Try.underlying48 rfl infoCn) rfl ?_
          have h : ca = { c with una := ack, out := c.out.extract far c.out.size } := by rw [← HK.out.2.2.1, acked, if_pos HG.out.1, if_neg H1.out.1, if_neg (by rw [HK.out.2.2.2.1]; exact H1.out.2), HK.out.2.2.2.1]
          exact ⟨by rw [h] <;> rfl, below_setRow HZ.out.bl HZ.out.hr _⟩
end Go.Proofs.Ytdenjmdngmmodaa
namespace Go.Proofs.Ytdenjmdngmmodaa
open Go.RowKit
set_option linter.unusedVariables false
set_option linter.unusedSimpArgs false
set_option maxRecDepth 200000
set_option maxHeartbeats 4000000

def LeQ (rb : Nat) (N : Array Value) (w w' : World) : Prop := w.heap.size ≤ w'.heap.size ∧ (∀ k, k < w.heap.size → k ≠ rb → w'.heap[k]? = w.heap[k]?) ∧ (w.heap[rb]? = some (.cells N 48 (0, 0)) → w'.heap[rb]? = some (.cells N 48 (0, 0)))
def JQ (w0 : World) (rb : Nat) (N : Array Value) (_ : Nat) (w : World) : Prop := w0.grownBy w (some rb) ∧ (w.heap[rb]? = some (.cells cnZero 48 (0, 0)) ∨ w.heap[rb]? = some (.cells N 48 (0, 0)))
theorem JQ.mono {w0 : World} {rb : Nat} {N : Array Value} (m : Nat) (w : World) (h : JQ w0 rb N (m + 1) w) : JQ w0 rb N m w := h
theorem JQ.step {w0 w w' : World} {rb m : Nat} {N : Array Value} (h : JQ w0 rb N (m + 1) w) (hb : Below w.heap.size w w') : JQ w0 rb N m w' := by
  refine ⟨grown_trans h.1 (grownBy_of_below hb _), ?_⟩
  rcases h.2 with e | e
  · exact .inl ((hb.block rb (Array.getElem?_eq_some_iff.1 e).1).trans e)
  · exact .inr ((hb.block rb (Array.getElem?_eq_some_iff.1 e).1).trans e)
theorem LeQ.of {rb : Nat} {N : Array Value} {w w' : World} (h : Below w.heap.size w w') : LeQ rb N w w' := ⟨h.size, fun k hk _ => h.block k hk, fun e => (h.block rb (Array.getElem?_eq_some_iff.1 e).1).trans e⟩
def OneSp (B rb : Nat) (g : Sg) : Spec := fun _ v w => ∃ b, v = .slice (some ⟨b, 0, none⟩) 1 1 ∧ B ≤ b ∧ b ≠ rb ∧ w.heap[b]? = some (.cells g.cells 55 (0, 0))
def StoQ (rb : Nat) (N : Array Value) : Spec := fun _ _ w => w.heap[rb]? = some (.cells N 48 (0, 0))
def csφ (B rb : Nat) (N : Array Value) (g : Sg) : Nat → Option Spec
  | 4 => some fun _ v _ => v = .agg g.cells
  | 5 => some (OneSp B rb g)
  | 6 => some (StoQ rb N)
  | _ => none
theorem csφ_st {B rb : Nat} {N : Array Value} {g : Sg} : ∀ j sp x v w w', csφ B rb N g j = some sp → LeQ rb N w w' → sp x v w → sp x v w' := by
  intro j sp x v w w' hj hL h
  unfold csφ at hj
  split at hj
  · cases hj; exact h
  · cases hj
    obtain ⟨b, h1, h2, h3, h4⟩ := h
    exact ⟨b, h1, h2, h3, (hL.2.1 b (Array.getElem?_eq_some_iff.1 h4).1 h3).trans h4⟩
  · cases hj
    exact hL.2.2 h
  · cases hj
section
variable {ops : Array Oper} {φ : Nat → Option Spec} {B : List Nat} {w0 : World} {rb : Nat} {N : Array Value}
theorem lexQ_store {i : Nat} {o : Oper} {r : List (Nat × Oper)} {fin : Act → Facts → Prop} {F : Facts} {a : Act} {x y : Operand} (hg : o.guard = none) (hφ : φ i = some (StoQ rb N))
    (ho : o.op = .store 48 x y) (hx : a.eval x = .pointer (some ⟨rb, 0, none⟩)) (hy : a.eval y = .agg N) (hd : o.dst = none) (hN : N.size = 11) (hN1 : N.toList.all (·.oneCell') = true)
    (h2 : ∀ v, lexR Try.prog ops (JQ w0 rb N) (LeQ rb N) φ B r fin (upd F i (argsOf a o, v)) a) : lexR Try.prog ops (JQ w0 rb N) (LeQ rb N) φ B ((i, o) :: r) fin F a := by
  refine lex_eff hg hφ (fun m W hJ hf => ?_) (fun v hP => ?_)
  · have key : ∀ cur, W.heap[rb]? = some (.cells cur 48 (0, 0)) → cur.size = 11 → gives Try.prog o a W (fun v w' => JQ w0 rb N m w' ∧ LeQ rb N W w' ∧ StoQ rb N (argsOf a o) v w') := fun cur hc hs => by
      have hnew := setRow_heap W rb cur N 48 (0, 0) hc
      refine gives_store x y 48 ho rb 48 cur N hx hy hc (by rw [hs, hN]) (by rw [hN]; exact infoCn) hN1 ⟨⟨?_, .inr hnew⟩, ⟨by simp [World.setRow], fun k hk hkr => setRow_other W rb k N hkr, fun _ => hnew⟩, hnew⟩
      have h := hJ.1
      exact ⟨h.os, h.tape, h.output, by simpa [World.setRow] using h.size, fun k hk hne => (setRow_other W rb k N (fun e => hne (by rw [e]))).trans (h.block k hk hne)⟩
    rcases hJ.2 with h3 | h3
    · exact key _ h3 rfl
    · exact key _ h3 hN
  · have e : a.put o.dst v = a := by rw [hd]; rfl
    rw [e]
    exact h2 v
end
/-- A boxed connection, a boxed segment, and the block of the result. -/
structure CtR (w0 w : World) (b : Nat) (c : Cn) (gs : Nat) (g : Sg) (r : Nat) : Prop where
  cn : w.heap[b]? = some (.cells c.cells 48 (0, 0))
  sg : w.heap[gs]? = some (.cells g.cells 55 (0, 0))
  rs : w.heap[r]? = some (.cells cnZero 48 (0, 0))
  bl : Below w0.heap.size w0 w
  hb : w0.heap.size ≤ b
  hr : w0.heap.size ≤ r
  ne : r ≠ b
  ns : gs ≠ b
  nr : gs ≠ r
theorem CtR.below {w0 w W : World} {b r gs : Nat} {c : Cn} {g : Sg} (h : CtR w0 w b c gs g r) (hB : LeB w W) : CtR w0 W b c gs g r :=
  ⟨(hB.block b (Array.getElem?_eq_some_iff.1 h.cn).1).trans h.cn, (hB.block gs (Array.getElem?_eq_some_iff.1 h.sg).1).trans h.sg, (hB.block r (Array.getElem?_eq_some_iff.1 h.rs).1).trans h.rs, Below.trans h.bl (Below.mono hB h.bl.size), h.hb, h.hr, h.ne, h.ns, h.nr⟩
theorem CtR.drewN {w0 w : World} {b r gs : Nat} {c : Cn} {g : Sg} (h : CtR w0 w b c gs g r) (n : Nat) : CtR w0 (w.drewN n) b c gs g r := ⟨h.cn, h.sg, h.rs, below_drewN h.bl n, h.hb, h.hr, h.ne, h.ns, h.nr⟩
theorem CtR.store {w0 w : World} {b r gs : Nat} {c : Cn} {g : Sg} (h : CtR w0 w b c gs g r) (c' : Cn) (k : Nat) (u : Value) (hc : c.cells.setIfInBounds k u = c'.cells) : CtR w0 (w.setCell ⟨b, k, none⟩ u) b c' gs g r :=
  ⟨by rw [blk_set h.cn, hc], (Below.heap_setCell w ⟨b, k, none⟩ u gs h.ns).trans h.sg, (Below.heap_setCell w ⟨b, k, none⟩ u r h.ne).trans h.rs, h.bl.setCell h.hb u, h.hb, h.hr, h.ne, h.ns, h.nr⟩
theorem CtR.put {w0 w : World} {b r gs : Nat} {c : Cn} {g : Sg} (h : CtR w0 w b c gs g r) (c' : Cn) (k : Nat) (u : Value) (hc : c.cells.setIfInBounds k u = c'.cells) : ∃ w', w.setCell ⟨b, k, none⟩ u = w' ∧ CtR w0 w' b c' gs g r ∧ w.heap.size = w'.heap.size := ⟨_, rfl, h.store c' k u hc, by simp [World.setCell]⟩
theorem CtR.storeRow {w0 w : World} {b r gs : Nat} {c : Cn} {g : Sg} (h : CtR w0 w b c gs g r) (c' : Cn) : CtR w0 (w.setRow b c'.cells) b c' gs g r :=
  ⟨setRow_heap _ _ _ _ _ _ h.cn, (setRow_other w b gs _ h.ns).trans h.sg, (setRow_other w b r _ h.ne).trans h.rs, below_setRow h.bl h.hb _, h.hb, h.hr, h.ne, h.ns, h.nr⟩
theorem CtR.ccell {w0 w : World} {b r gs : Nat} {c : Cn} {g : Sg} (h : CtR w0 w b c gs g r) (k : Nat) (u : Value) (hk : c.cells[k]? = some u) : w.cell? ⟨b, k, none⟩ = some u := (blk_cell h.cn k).trans hk
theorem CtR.gcell {w0 w : World} {b r gs : Nat} {c : Cn} {g : Sg} (h : CtR w0 w b c gs g r) (k : Nat) (u : Value) (hk : g.cells[k]? = some u) : w.cell? ⟨gs, k, none⟩ = some u := (blk_cell h.sg k).trans hk
/-- What l10Take answers. -/
def CsRet (w : World) (r : Cn × List Sg) (e : Ending) (w' : World) : Prop := ∃ v, e = .returned (.tuple #[.agg r.1.cells, v]) ∧ SgL w.heap.size r.2 v w' ∧ Below w.heap.size w w'
end Go.Proofs.Ytdenjmdngmmodaa
