/- Flows: the time comes, an owner goes, one is opened, as called (both hands). -/
import Derived.Test.YtdenjmdngmmodaaFlM
import Derived.Test.YtdenjmdngmmodaaFlN
namespace Go.Proofs.Ytdenjmdngmmodaa
open Go.RowKit
set_option linter.unusedVariables false
set_option linter.unusedSimpArgs false
set_option maxRecDepth 200000
set_option maxHeartbeats 4000000

theorem FlowOf_ok (A : Option Addr) (c : Nat) (bs : List UInt8) (hl : bs.length ≤ 1099511627776) (w : World) (hr : Rd w A (bs.map bV)) :
    Calls Try.prog 38 #[.slice A bs.length c] w fun e w' => ∃ v, e = .returned v ∧ FlV v ∧ Below w.heap.size w w' := by
  go_enter Try.func38, Try.ntmps38
  go_wp2_with fail
  generalize hw0 : World.alloc w (.cells #[.int .i64 0, .string ⟨#[]⟩, .int .i64 0, .int .i64 0, .int .i64 0, .int .i64 0, .int .i64 0, .int .i64 0, .int .i64 0] 73) = wa
  have hblk : wa.heap[World.heap w |>.size]? = some (.cells #[.int .i64 0, .string ⟨#[]⟩, .int .i64 0, .int .i64 0, .int .i64 0, .int .i64 0, .int .i64 0, .int .i64 0, .int .i64 0] 73 (0, 0)) := by rw [← hw0]; exact heap_alloc_new _ _
  have hlt : (World.heap w).size < wa.heap.size := (Array.getElem?_eq_some_iff.1 hblk).1
  have hB0 : Below (World.heap w).size w wa := by rw [← hw0]; exact (Below.refl _ _).alloc (Nat.le_refl _) _
  clear hw0
  have HA := Lib.hid (And.intro hblk (And.intro hlt hB0))
  have hr2 := hr.below hB0 (Nat.le_refl _)
  clear hblk hlt hB0 hr
  refine (l00Source_ok A c bs hl wa hr2).mono ?_
  rintro e w1 ⟨rfl, hs, hB1⟩
  have H1 := Lib.hid hB1
  clear hB1 hr2
  go_wp2_with fail
  refine (flow_ok wa.heap.size 0 w1 hs (by omega)).mono ?_
  rintro e w2 ⟨v, rfl, ⟨f, rfl, hd, hne⟩, hs2, hg⟩
  have L1 : Below w.heap.size w w1 := LeB.tr HA.out.2.2 H1.out
  have L2 : Below w.heap.size w w2 := Below.grown L1 hg L1.size (fun k e => by cases e; exact HA.out.2.2.size)
  have hb2 := (hg.block w.heap.size (Nat.lt_of_lt_of_le HA.out.2.1 H1.out.size) (by intro e; injection e with e; have := HA.out.2.1; omega)).trans ((H1.out.block _ HA.out.2.1).trans HA.out.1)
  have HZ := Lib.hid (And.intro hb2 (And.intro hd (And.intro hne L2)))
  clear hs hs2 hg hd hne L1 L2 hb2
  go_wp2_with (refine wpList_store_row rfl _ _ 73 rfl w.heap.size 73 _ _ rfl rfl HZ.out.1 rfl infoFl rfl ?_)
  refine bodyPost_ret (ret_cell rfl rfl (setRow_heap _ _ _ _ _ _ HZ.out.1) Try.underlying73 rfl infoFl) rfl ?_
  exact ⟨_, rfl, ⟨f, rfl, HZ.out.2.1, HZ.out.2.2.1⟩, below_setRow HZ.out.2.2.2 (Nat.le_refl _) _⟩
theorem expire_pred (x : Nat) (t : Int) (w : World) (h : w.cell? ⟨x, 0, none⟩ = some (.int .i64 t)) : PredF 135 #[.pointer (some ⟨x, 0, none⟩)] (fun f => decide ((f.til : Int) ≤ t)) w := by
  intro W f hW
  have H := Lib.hid ((hW.cell (World.block_lt_of_cell? w _ h)).trans h)
  clear h hW
  show Calls Try.prog 135 #[.agg f.cells, .pointer (some ⟨x, 0, none⟩)] W _
  go_enter Try.func135, Try.ntmps135
  go_upto_region 1 with (fail)
  generalize hw0 : World.alloc W (.cells f.cells 73) = wa
  have hblk : wa.heap[World.heap W |>.size]? = some (.cells f.cells 73 (0, 0)) := by rw [← hw0]; exact heap_alloc_new _ _
  have hlt : (World.heap W).size < wa.heap.size := (Array.getElem?_eq_some_iff.1 hblk).1
  have hB0 : Below (World.heap W).size W wa := by rw [← hw0]; exact (Below.refl _ _).alloc (Nat.le_refl _) _
  clear hw0
  have e1 : wa.cell? ⟨x, 0, none⟩ = some (.int .i64 t) := (hB0.cell (World.block_lt_of_cell? W _ H.out)).trans H.out
  have HX := Lib.hid hB0
  have c0 := blk_cell hblk 0
  have c1 := blk_cell hblk 1
  have c2 := blk_cell hblk 2
  have c3 := blk_cell hblk 3
  have c4 := blk_cell hblk 4
  have c5 := blk_cell hblk 5
  have c6 := blk_cell hblk 6
  have c7 := blk_cell hblk 7
  have c8 := blk_cell hblk 8
  simp at c0 c1 c2 c3 c4 c5 c6 c7 c8
  clear hblk hB0 hlt
  go_wp2_with fail
  go_ret
  exact ⟨rfl, HX.out⟩
theorem drop_pred (x o : Nat) (w : World) (h : w.cell? ⟨x, 0, none⟩ = some (.int .i64 o)) : PredF 136 #[.pointer (some ⟨x, 0, none⟩)] (fun f => (f.own : Int) == (o : Int)) w := by
  intro W f hW
  have H := Lib.hid ((hW.cell (World.block_lt_of_cell? w _ h)).trans h)
  clear h hW
  show Calls Try.prog 136 #[.agg f.cells, .pointer (some ⟨x, 0, none⟩)] W _
  go_enter Try.func136, Try.ntmps136
  go_upto_region 1 with (fail)
  generalize hw0 : World.alloc W (.cells f.cells 73) = wa
  have hblk : wa.heap[World.heap W |>.size]? = some (.cells f.cells 73 (0, 0)) := by rw [← hw0]; exact heap_alloc_new _ _
  have hlt : (World.heap W).size < wa.heap.size := (Array.getElem?_eq_some_iff.1 hblk).1
  have hB0 : Below (World.heap W).size W wa := by rw [← hw0]; exact (Below.refl _ _).alloc (Nat.le_refl _) _
  clear hw0
  have e1 : wa.cell? ⟨x, 0, none⟩ = some (.int .i64 o) := (hB0.cell (World.block_lt_of_cell? W _ H.out)).trans H.out
  have HX := Lib.hid hB0
  have c0 := blk_cell hblk 0
  have c1 := blk_cell hblk 1
  have c2 := blk_cell hblk 2
  have c3 := blk_cell hblk 3
  have c4 := blk_cell hblk 4
  have c5 := blk_cell hblk 5
  have c6 := blk_cell hblk 6
  have c7 := blk_cell hblk 7
  have c8 := blk_cell hblk 8
  simp at c0 c1 c2 c3 c4 c5 c6 c7 c8
  clear hblk hB0 hlt
  go_wp2_with fail
  go_ret
  exact ⟨rfl, HX.out⟩
theorem flowsExpire_ok (A : Option Addr) (c : Nat) (l : List Fl) (hl : l.length ≤ 1000) (t : Int) (w : World) (hr : Rd w A (rowC flc l)) :
    Calls Try.prog 100 #[.slice A l.length c, .int .i64 t] w fun e w' => ∃ v, e = .returned v ∧ w'.ownsRow w.heap.size 73 9 v (l.filter fun f => !decide ((f.til : Int) ≤ t)).length (rowC flc (l.filter fun f => !decide ((f.til : Int) ≤ t))) ∧ LeB w w' := by
  have HK := Lib.hid hr
  clear hr
  go_enter Try.func100, Try.ntmps100
  go_upto_region 1 with (fail)
  generalize hw0 : World.alloc w (.cells #[.int .i64 t] 3) = wa
  have hblk : wa.heap[World.heap w |>.size]? = some (.cells #[.int .i64 t] 3 (0, 0)) := by rw [← hw0]; exact heap_alloc_new _ _
  have hlt : (World.heap w).size < wa.heap.size := (Array.getElem?_eq_some_iff.1 hblk).1
  have hB0 : Below (World.heap w).size w wa := by rw [← hw0]; exact (Below.refl _ _).alloc (Nat.le_refl _) _
  clear hw0
  have HX := Lib.hid (And.intro (blk_cell hblk 0) hB0)
  clear hblk hB0 hlt
  go_wp2_with fail
  refine (Clone_ok A c l (by omega) wa (HK.out.below HX.out.2 (Nat.le_refl _))).mono ?_
  rintro e w1 ⟨v, rfl, hown, hB1⟩
  obtain ⟨A1, c1, rfl, hc1, -, -⟩ := own_slice hown
  have H1 := Lib.hid (And.intro hown hB1)
  clear hown hB1
  go_wp2_with fail
  refine (DeleteFunc_ok 135 _ _ H1.out.1 H1.out.2 hc1 hl (expire_pred _ t wa HX.out.1) Try.call135).mono ?_
  rintro e w2 ⟨v2, rfl, hown2, hB2⟩
  have H2 := Lib.hid (And.intro (own_base hown2 HX.out.2.size) (LeB.tr HX.out.2 hB2))
  clear hown2 hB2
  go_wp2_with fail
  go_ret
  exact ⟨_, rfl, H2.out.1, H2.out.2⟩
theorem flowsDrop_ok (A : Option Addr) (c : Nat) (l : List Fl) (hl : l.length ≤ 1000) (o : Nat) (w : World) (hr : Rd w A (rowC flc l)) :
    Calls Try.prog 101 #[.slice A l.length c, .int .i64 o] w fun e w' => ∃ v, e = .returned v ∧ w'.ownsRow w.heap.size 73 9 v (l.filter fun f => !((f.own : Int) == (o : Int))).length (rowC flc (l.filter fun f => !((f.own : Int) == (o : Int)))) ∧ LeB w w' := by
  have HK := Lib.hid hr
  clear hr
  go_enter Try.func101, Try.ntmps101
  go_upto_region 1 with (fail)
  generalize hw0 : World.alloc w (.cells #[.int .i64 o] 3) = wa
  have hblk : wa.heap[World.heap w |>.size]? = some (.cells #[.int .i64 o] 3 (0, 0)) := by rw [← hw0]; exact heap_alloc_new _ _
  have hlt : (World.heap w).size < wa.heap.size := (Array.getElem?_eq_some_iff.1 hblk).1
  have hB0 : Below (World.heap w).size w wa := by rw [← hw0]; exact (Below.refl _ _).alloc (Nat.le_refl _) _
  clear hw0
  have HX := Lib.hid (And.intro (blk_cell hblk 0) hB0)
  clear hblk hB0 hlt
  go_wp2_with fail
  refine (Clone_ok A c l (by omega) wa (HK.out.below HX.out.2 (Nat.le_refl _))).mono ?_
  rintro e w1 ⟨v, rfl, hown, hB1⟩
  obtain ⟨A1, c1, rfl, hc1, -, -⟩ := own_slice hown
  have H1 := Lib.hid (And.intro hown hB1)
  clear hown hB1
  go_wp2_with fail
  refine (DeleteFunc_ok 136 _ _ H1.out.1 H1.out.2 hc1 hl (drop_pred _ o wa HX.out.1) Try.call136).mono ?_
  rintro e w2 ⟨v2, rfl, hown2, hB2⟩
  have H2 := Lib.hid (And.intro (own_base hown2 HX.out.2.size) (LeB.tr HX.out.2 hB2))
  clear hown2 hB2
  go_wp2_with fail
  go_ret
  exact ⟨_, rfl, H2.out.1, H2.out.2⟩
theorem FlowsExpire_ok (A : Option Addr) (c : Nat) (l : List Fl) (hok : FlsOK l) (hc : l.length ≤ c) (t : Int) (w : World) (hr : Rd w A (rowC flc l)) :
    Calls Try.prog 42 #[.slice A l.length c, .int .i64 t] w fun e w' => ∃ v, e = .returned (.tuple #[v, .int .i64 0]) ∧ w'.ownsRow w.heap.size 73 9 v (l.filter fun f => !decide ((f.til : Int) ≤ t)).length (rowC flc (l.filter fun f => !decide ((f.til : Int) ≤ t))) ∧ LeB w w' := by
  have hll : l.length ≤ 8 := hok.len
  have HK := Lib.hid (And.intro hok hr)
  clear hok hr
  go_enter Try.func42, Try.ntmps42
  go_wp2_with fail
  refine (flowsFault_ok A c l HK.out.1 hc w HK.out.2).mono ?_
  rintro e w1 ⟨rfl, hB1⟩
  have H1 := Lib.hid hB1
  clear hB1
  go_wp2_with fail
  refine (flowsExpire_ok A c l (by omega) t w1 (HK.out.2.below H1.out (Nat.le_refl _))).mono ?_
  rintro e w2 ⟨v, rfl, hown, hB2⟩
  have H2 := Lib.hid (And.intro (own_base hown H1.out.size) (LeB.tr H1.out hB2))
  clear hown hB2
  go_wp2_with fail
  refine bodyPost_ret (v := .tuple #[v, .int .i64 0]) (by simp [results, go_sem]) rfl ⟨v, rfl, H2.out.1, H2.out.2⟩
theorem FlowsDrop_ok (A : Option Addr) (c : Nat) (l : List Fl) (hok : FlsOK l) (hc : l.length ≤ c) (o : Nat) (ho : o ≤ 10000) (w : World) (hr : Rd w A (rowC flc l)) :
    Calls Try.prog 43 #[.slice A l.length c, .int .i64 o] w fun e w' => ∃ v, e = .returned (.tuple #[v, .int .i64 0]) ∧ w'.ownsRow w.heap.size 73 9 v (l.filter fun f => !((f.own : Int) == (o : Int))).length (rowC flc (l.filter fun f => !((f.own : Int) == (o : Int)))) ∧ LeB w w' := by
  have hll : l.length ≤ 8 := hok.len
  have e1 : decide ((0 : Int) ≤ o ∧ (o : Int) ≤ 10000) = true := decide_eq_true (by omega)
  have HK := Lib.hid (And.intro hok hr)
  clear hok hr
  go_enter Try.func43, Try.ntmps43
  go_wp2_with fail
  refine (flowsFault_ok A c l HK.out.1 hc w HK.out.2).mono ?_
  rintro e w1 ⟨rfl, hB1⟩
  have H1 := Lib.hid hB1
  clear hB1
  go_wp2_with fail
  refine (within_ok _ _ _ _).mono ?_
  rintro e w1' ⟨rfl, rfl⟩
  rw [e1]
  go_wp2_with fail
  refine (flowsDrop_ok A c l (by omega) o w1 (HK.out.2.below H1.out (Nat.le_refl _))).mono ?_
  rintro e w2 ⟨v, rfl, hown, hB2⟩
  have H2 := Lib.hid (And.intro (own_base hown H1.out.size) (LeB.tr H1.out hB2))
  clear hown hB2
  go_wp2_with fail
  refine bodyPost_ret (v := .tuple #[v, .int .i64 0]) (by simp [results, go_sem]) rfl ⟨v, rfl, H2.out.1, H2.out.2⟩
end Go.Proofs.Ytdenjmdngmmodaa
