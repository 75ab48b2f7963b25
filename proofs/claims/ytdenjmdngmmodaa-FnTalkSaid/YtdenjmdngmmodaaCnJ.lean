/- Connections: every segment is taken. -/
import Derived.Test.YtdenjmdngmmodaaCnH
import Derived.Test.YtdenjmdngmmodaaCnI
namespace Go.Proofs.Ytdenjmdngmmodaa
open Go.RowKit
set_option linter.unusedVariables false
set_option linter.unusedSimpArgs false
set_option maxRecDepth 200000
set_option maxHeartbeats 600000

theorem take_ok (c : Cn) (g : Sg) (b : Nat) (w : World) (hc : CnOK c) (hg : SegOK g.src g.dst g.seq g.ack g.flags g.space g.data) (hb : w.heap[b]? = some (.cells c.cells 48 (0, 0))) :
    Calls Try.prog 77 #[.pointer (some ⟨b, 0, none⟩), .agg g.cells] w (TkRet w b (takeC c g)) := by
  have hlt := (Array.getElem?_eq_some_iff.1 hb).1
  have c0 := blk_cell hb 0
  have c1 := blk_cell hb 1
  have c2 := blk_cell hb 2
  have c3 := blk_cell hb 3
  have c4 := blk_cell hb 4
  have c5 := blk_cell hb 5
  have c6 := blk_cell hb 6
  have c7 := blk_cell hb 7
  have c8 := blk_cell hb 8
  have c9 := blk_cell hb 9
  have c10 := blk_cell hb 10
  simp at c0 c1 c2 c3 c4 c5 c6 c7 c8 c9 c10
  have cf0 := blk_free hb 0
  have cf1 := blk_free hb 1
  have cf2 := blk_free hb 2
  have cf3 := blk_free hb 3
  have cf4 := blk_free hb 4
  have cf5 := blk_free hb 5
  have cf6 := blk_free hb 6
  have cf7 := blk_free hb 7
  have cf8 := blk_free hb 8
  have cf9 := blk_free hb 9
  have cf10 := blk_free hb 10
  have B4 : (bits .and .i64 (g.flags : Int) 4 = 0 ∧ Nat.land g.flags 4 = 0) ∨ (bits .and .i64 (g.flags : Int) 4 = 4 ∧ Nat.land g.flags 4 = 4) := bits_and g.flags hg.flags 4 (by simp)
  have B2 : (bits .and .i64 (g.flags : Int) 2 = 0 ∧ Nat.land g.flags 2 = 0) ∨ (bits .and .i64 (g.flags : Int) 2 = 2 ∧ Nat.land g.flags 2 = 2) := bits_and g.flags hg.flags 2 (by simp)
  have B16 : (bits .and .i64 (g.flags : Int) 16 = 0 ∧ Nat.land g.flags 16 = 0) ∨ (bits .and .i64 (g.flags : Int) 16 = 16 ∧ Nat.land g.flags 16 = 16) := bits_and g.flags hg.flags 16 (by simp)
  have B1 : (bits .and .i64 (g.flags : Int) 1 = 0 ∧ Nat.land g.flags 1 = 0) ∨ (bits .and .i64 (g.flags : Int) 1 = 1 ∧ Nat.land g.flags 1 = 1) := bits_and g.flags hg.flags 1 (by simp)
  have HK := Lib.hid (And.intro hb (And.intro hc hg))
  clear hb hc hg
  have L0 : LeB w (w.alloc (.cells g.cells 55)) := (Below.refl _ _).alloc (Nat.le_refl _) _
  have HL := Lib.hid L0
  clear L0
  by_cases h4 : c.st = 4
  · clear B4 B2 B16 B1
    have h4I : (c.st : Int) = 4 := by omega
    go_enter Try.func77, Try.ntmps77
    go_wp2_with fail
    go_ret
    exact tk_same HK.out.1 HL.out (by unfold takeC; rw [if_pos h4])
  have h4I : ((c.st : Int) == 4) = false := by simp; omega
  have H4 := Lib.hid h4
  clear h4
  rcases B4 with ⟨b4, n4⟩ | ⟨b4, n4⟩
  rotate_left
  · clear B2 B16 B1
    have N4 := Lib.hid n4
    clear n4
    by_cases hs : g.seq = c.want
    · have hsI : (g.seq : Int) = c.want := by omega
      have HS := Lib.hid hs
      clear hs
      go_enter Try.func77, Try.ntmps77
      go_wp2_with fail
      go_quiet (fail)
      go_wp2_with fail
      go_ret
      refine ⟨_, rfl, ?_, ?_, grown_own (grown_own (grown_own (grown_own (grown_own (grown_drewN (grownBy_of_below HL.out _) _) _ _) _ _) _ _) _ _) _ _⟩
      · unfold takeC
        rw [if_neg H4.out, if_pos (by rw [N4.out]; decide)]
        exact SgL.nil _ _
      · rw [blk_set (blk_set (blk_set (blk_set (blk_set (blk_drewN ((HL.out.block _ hlt).trans HK.out.1) _) _ _) _ _) _ _) _ _) _ _]
        unfold takeC
        rw [if_neg H4.out, if_pos (by rw [N4.out]; decide), if_pos HS.out]
        simp
    · have hsI : ((g.seq : Int) == c.want) = false := by simp; omega
      have HS := Lib.hid hs
      clear hs
      go_enter Try.func77, Try.ntmps77
      go_wp2_with fail
      go_quiet (fail)
      go_wp2_with fail
      go_ret
      exact tk_same HK.out.1 (below_drewN HL.out _) (by unfold takeC; rw [if_neg H4.out, if_pos (by rw [N4.out]; decide), if_neg HS.out])
  have N4 := Lib.hid n4
  clear n4
  rcases B2 with ⟨b2, n2⟩ | ⟨b2, n2⟩
  rotate_left
  · clear B16 B1
    have N2 := Lib.hid n2
    clear n2
    by_cases hs : c.st = 1 ∧ c.want = onw g.seq 1
    · obtain ⟨hs1, hs2⟩ := hs
      have hs1I : (c.st : Int) = 1 := by omega
      have HS := Lib.hid (And.intro hs1 hs2)
      clear hs1 hs2
      go_enter Try.func77, Try.ntmps77
      go_wp2_with fail
      go_quiet ((exact qs (onward_is g.seq 1 c.want HK.out.2.2.seq (by omega) HS.out.2.symm _)))
      go_wp2_with fail
      refine (opened_ok c b _ ((below_drewN HL.out _ |>.block _ hlt).trans HK.out.1)).mono ?_
      rintro e w1 ⟨bb, rfl, h1, h2, h3⟩
      have L1 : LeB w w1 := LeB.tr (below_drewN HL.out _) h3
      clear h3
      go_wp2_with fail
      go_ret
      unfold takeC
      rw [if_neg H4.out, if_neg (by rw [N4.out]; decide), if_pos (by rw [N2.out]; decide), if_pos HS.out]
      exact ⟨_, rfl, (OneSg.toL ⟨bb, rfl, Nat.le_trans HL.out.size h1, h2⟩), (L1.block _ hlt).trans HK.out.1, grownBy_of_below L1 _⟩
    · obtain ⟨t, ht⟩ : ∃ t, onw g.seq 1 = t := ⟨_, rfl⟩
      have HT := Lib.hid (And.intro ht hs)
      have hcase : c.st = 1 ∧ ((c.want : Int) == t) = false ∨ ((c.st : Int) == 1) = false := by
        by_cases h1 : c.st = 1
        · exact .inl ⟨h1, by simp; intro h; exact hs ⟨h1, by omega⟩⟩
        · exact .inr (by simp; omega)
      clear ht hs
      rcases hcase with ⟨h1, h2⟩ | h1
      · have h1I : (c.st : Int) = 1 := by omega
        clear h1
        go_enter Try.func77, Try.ntmps77
        go_wp2_with fail
        go_quiet ((exact qs (onward_is g.seq 1 t HK.out.2.2.seq (by omega) HT.out.1 _)))
        go_wp2_with fail
        refine (tell_ok c b c.nxt 16 ⟨#[]⟩ _ ((below_drewN HL.out _ |>.block _ hlt).trans HK.out.1)).mono ?_
        rintro e w1 ⟨rfl, h3⟩
        have L1 : LeB w w1 := LeB.tr (below_drewN HL.out _) h3
        clear h3
        go_wp2_with fail
        go_ret
        unfold takeC
        rw [if_neg H4.out, if_neg (by rw [N4.out]; decide), if_pos (by rw [N2.out]; decide), if_neg (by rw [HT.out.1]; exact fun h => HT.out.2 (HT.out.1 ▸ h))]
        exact ⟨_, rfl, OneSg.toL ⟨w1.heap.size, rfl, L1.size, heap_alloc_new _ _⟩, ((L1.alloc L1.size _).block _ hlt).trans HK.out.1, grownBy_of_below (L1.alloc L1.size _) _⟩
      · go_enter Try.func77, Try.ntmps77
        go_wp2_with fail
        go_quiet (fail)
        go_wp2_with fail
        refine (tell_ok c b c.nxt 16 ⟨#[]⟩ _ ((below_drewN HL.out _ |>.block _ hlt).trans HK.out.1)).mono ?_
        rintro e w1 ⟨rfl, h3⟩
        have L1 : LeB w w1 := LeB.tr (below_drewN HL.out _) h3
        clear h3
        go_wp2_with fail
        go_ret
        unfold takeC
        rw [if_neg H4.out, if_neg (by rw [N4.out]; decide), if_pos (by rw [N2.out]; decide), if_neg (by rw [HT.out.1]; exact fun h => HT.out.2 (HT.out.1 ▸ h))]
        exact ⟨_, rfl, OneSg.toL ⟨w1.heap.size, rfl, L1.size, heap_alloc_new _ _⟩, ((L1.alloc L1.size _).block _ hlt).trans HK.out.1, grownBy_of_below (L1.alloc L1.size _) _⟩
  have N2 := Lib.hid n2
  clear n2
  rcases B16 with ⟨b16, n16⟩ | ⟨b16, n16⟩
  · clear B1
    have N16 := Lib.hid n16
    clear n16
    go_enter Try.func77, Try.ntmps77
    go_wp2_with fail
    go_ret
    exact tk_same HK.out.1 HL.out (by unfold takeC; rw [if_neg H4.out, if_neg (by rw [N4.out]; decide), if_neg (by rw [N2.out]; decide), if_pos N16.out])
  rcases B1 with ⟨b1, n1⟩ | ⟨b1, n1⟩
  · exact take_m0 c g b w HK.out.2.1 HK.out.2.2 HK.out.1 H4.out b4 N4.out b2 N2.out b16 n16 b1 n1
  · exact take_m1 c g b w HK.out.2.1 HK.out.2.2 HK.out.1 H4.out b4 N4.out b2 N2.out b16 n16 b1 n1 _ rfl
end Go.Proofs.Ytdenjmdngmmodaa
