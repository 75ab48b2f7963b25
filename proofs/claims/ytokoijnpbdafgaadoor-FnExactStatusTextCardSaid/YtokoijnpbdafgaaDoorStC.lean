/- Status: impl's search for a session (of), and the text of a status. -/
import Derived.Test.YtokoijnpbdafgaaDoorStB
namespace Go.Proofs.YtokoijnpbdafgaaDoor
open Go.RowKit
set_option linter.unusedVariables false
set_option linter.unusedSimpArgs false
set_option maxRecDepth 200000
set_option maxHeartbeats 4000000

theorem of_pred (x1 x2 : Nat) (mac : ByteArray) (ip : Int) (w : World) (h1 : w.cell? ⟨x1, 0, none⟩ = some (.string mac)) (h2 : w.cell? ⟨x2, 0, none⟩ = some (.int .i64 ip)) :
    PredSession 43 #[.pointer (some ⟨x1, 0, none⟩), .pointer (some ⟨x2, 0, none⟩)] (qMac mac ip) w := by
  intro W f hW
  have k1 := (hW.cell (World.block_lt_of_cell? w _ h1)).trans h1
  have k2 := (hW.cell (World.block_lt_of_cell? w _ h2)).trans h2
  have H := Lib.hid (And.intro k1 k2)
  clear h1 h2 hW k1 k2
  show Calls Tryd.prog 43 #[.agg f.cells, .pointer (some ⟨x1, 0, none⟩), .pointer (some ⟨x2, 0, none⟩)] W _
  obtain ⟨b, hb⟩ : ∃ b, qMac mac ip f = b := ⟨_, rfl⟩
  rw [hb]
  obtain ⟨m1, rfl⟩ | ⟨m1, m2⟩ := qMac_cases mac ip f b hb
  all_goals
    clear hb
    go_enter Tryd.func43, Tryd.ntmps43
    go_upto_region 1 with (fail)
    generalize hw0 : World.alloc W (.cells f.cells 33) = wa
    have hblk : wa.heap[World.heap W |>.size]? = some (.cells f.cells 33 (0, 0)) := by rw [← hw0]; exact heap_alloc_new _ _
    have hlt : (World.heap W).size < wa.heap.size := (Array.getElem?_eq_some_iff.1 hblk).1
    have hB0 : Below (World.heap W).size W wa := by rw [← hw0]; exact (Below.refl _ _).alloc (Nat.le_refl _) _
    clear hw0
    have e1 := (hB0.cell (World.block_lt_of_cell? W _ H.out.1)).trans H.out.1
    have e2 := (hB0.cell (World.block_lt_of_cell? W _ H.out.2)).trans H.out.2
    have p2 := blk_cell hblk 2
    have p3 := blk_cell hblk 3
    simp at p2 p3
    have HX := Lib.hid hB0
    clear hblk hB0 hlt
    go_wp2_with fail
    go_ret
    exact ⟨rfl, HX.out⟩
theorem of_ok (gb : Nat) (l : List ExSession) (A1 : Option Addr) (c1 : Nat) (hl : l.length ≤ 1048576) (hc : l.length ≤ c1) (mac : ByteArray) (ip : Int) (w : World) (hg : w.cell? ⟨gb, 1, none⟩ = some (.slice A1 l.length c1)) (hr : Rd w A1 (rowC ExSession.row l)) :
    Calls Tryd.prog 19 #[.pointer (some ⟨gb, 0, none⟩), .string mac, .int .i64 ip] w fun e w' => e = .returned (.int .i64 (idxG (qMac mac ip) l)) ∧ LeB w w' := by
  obtain ⟨r, hR⟩ : ∃ r, idxG (qMac mac ip) l = r := ⟨_, rfl⟩
  rw [hR]
  have HR := Lib.hid hr
  have HI := Lib.hid hR
  clear hr hR
  go_enter Tryd.func19, Tryd.ntmps19
  go_upto_region 1 with (fail)
  obtain ⟨wa, hwa, T⟩ := two_boxes w #[.string mac] #[.int .i64 ip] 9 3
  rw [hwa]
  clear hwa
  have g1 := (T.le.cell (World.block_lt_of_cell? w _ hg)).trans hg
  have HT := Lib.hid T
  clear T hg
  go_wp2_with fail
  refine (IndexFuncSession_ok 43 _ (qMac mac ip) A1 c1 l (by omega) hc wa (HR.out.below HT.out.le (Nat.le_refl _)) (of_pred _ _ mac ip wa (blk_cell HT.out.hp 0) (blk_cell HT.out.ho 0)) Tryd.call43).mono ?_
  rintro e w1 ⟨rfl, hB1⟩
  have HB := Lib.hid (LeB.tr HT.out.le hB1)
  clear hB1 g1
  rw [HI.out]
  go_wp2_with fail
  go_ret
  exact ⟨rfl, HB.out⟩
end Go.Proofs.YtokoijnpbdafgaaDoor
