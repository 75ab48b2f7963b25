/- Exact laws: guests copied, and held against one another. -/
import Derived.Test.YtokoijnpbdafgaaDoorExG
namespace Go.Proofs.YtokoijnpbdafgaaDoor
open Go.RowKit
set_option linter.unusedVariables false
set_option linter.unusedSimpArgs false
set_option maxRecDepth 200000
set_option maxHeartbeats 4000000

theorem infoGuests : (Tryd.prog.info? 28).map (·.size) = some 5 := by kernel_rfl
def zGuests : Array Value := #[.slice none 0 0, .slice none 0 0, .slice none 0 0, .slice none 0 0, .int .i64 0]
theorem three_boxes (w : World) (P Z : Array Value) (TP TZ : TypeId) : ∃ W, ((w.alloc (.cells P TP)).alloc (.cells Z TZ)).alloc (.cells Z TZ) = W ∧ Two w W w.heap.size P TP (w.heap.size + 1 + 1) Z TZ ∧ Two w W (w.heap.size + 1) Z TZ (w.heap.size + 1 + 1) Z TZ := by
  have s1 : (w.alloc (.cells P TP)).heap.size = w.heap.size + 1 := by simp
  have s2 : ((w.alloc (.cells P TP)).alloc (.cells Z TZ)).heap.size = w.heap.size + 1 + 1 := by simp
  have a0 := heap_alloc_new w (.cells P TP)
  have a1 := heap_alloc_new (w.alloc (.cells P TP)) (.cells Z TZ)
  have a2 := heap_alloc_new ((w.alloc (.cells P TP)).alloc (.cells Z TZ)) (.cells Z TZ)
  rw [s1] at a1
  rw [s2] at a2
  have b1 := (heap_alloc_old ((w.alloc (.cells P TP)).alloc (.cells Z TZ)) (.cells Z TZ) (by simp : w.heap.size + 1 < _)).trans a1
  have b0 := (heap_alloc_old ((w.alloc (.cells P TP)).alloc (.cells Z TZ)) (.cells Z TZ) (by simp; omega : w.heap.size < _)).trans ((heap_alloc_old (w.alloc (.cells P TP)) (.cells Z TZ) (by simp : w.heap.size < _)).trans a0)
  have hl : LeB w (((w.alloc (.cells P TP)).alloc (.cells Z TZ)).alloc (.cells Z TZ)) := (((Below.refl _ _).alloc (Nat.le_refl _) _).alloc (by simp) _).alloc (by simp; omega) _
  exact ⟨_, rfl, ⟨b0, a2, by omega, by omega, hl⟩, ⟨b1, a2, by omega, by omega, hl⟩⟩

theorem toGuests_ok (g : ExGuests) (A0 A1 A2 A3 : Option Addr) (c0 c1 c2 c3 : Nat) (hs : g.Small) (w : World) (hg : g.In w A0 A1 A2 A3 c0 c1 c2 c3) :
    Calls Tryd.prog 10 #[.agg (g.cells A0 A1 A2 A3 c0 c1 c2 c3)] w fun e w' => ∃ b0 b1 b2 b3 : Nat, e = .returned (.agg (g.cells (some ⟨b0, 0, none⟩) (some ⟨b1, 0, none⟩) (some ⟨b2, 0, none⟩) (some ⟨b3, 0, none⟩) g.users.length g.sessions.length g.fails.length g.records.length)) ∧ g.In w' (some ⟨b0, 0, none⟩) (some ⟨b1, 0, none⟩) (some ⟨b2, 0, none⟩) (some ⟨b3, 0, none⟩) g.users.length g.sessions.length g.fails.length g.records.length ∧ LeB w w' := by
  have HK := Lib.hid (And.intro hs hg)
  clear hs hg
  go_enter Tryd.func10, Tryd.ntmps10
  go_upto_region 2 with (fail)
  obtain ⟨wa, hwa, T1, T2⟩ := three_boxes w (g.cells A0 A1 A2 A3 c0 c1 c2 c3) zGuests 44 28
  rw [zGuests] at hwa T1 T2
  rw [hwa]
  clear hwa
  have X1 := Lib.hid T1
  have X2 := Lib.hid T2
  have q0 := blk_cell T1.hp 0
  have q1 := blk_cell T1.hp 1
  have q2 := blk_cell T1.hp 2
  have q3 := blk_cell T1.hp 3
  simp at q0 q1 q2 q3
  clear T1 T2
  go_wp2_with fail
  refine (toUserS_ok A0 c0 g.users HK.out.2.l0 HK.out.1.l0 _ (HK.out.2.r0.below X1.out.le (Nat.le_refl _))).mono ?_
  rintro e w0 ⟨b0, rfl, ho, hB1⟩
  clear q0 q1 q2 q3
  have T1 := X1.out.below hB1
  have T2 := X2.out.below hB1
  have O0 := Lib.hid (And.intro (Rd.of_own ho) (Nat.lt_of_lt_of_le (Array.getElem?_eq_some_iff.1 X1.out.ho).1 (own_ge ho)))
  have B0 := Lib.hid hB1
  clear ho hB1 X1 X2
  have X1 := Lib.hid T1
  have X2 := Lib.hid T2
  have o0 := blk_cell T1.ho 0
  have o1 := blk_cell T1.ho 1
  have o2 := blk_cell T1.ho 2
  have o3 := blk_cell T1.ho 3
  simp at o0 o1 o2 o3
  have of0 := blk_free T1.ho 0
  have of1 := blk_free T1.ho 1
  have of2 := blk_free T1.ho 2
  have of3 := blk_free T1.ho 3
  clear T1 T2
  go_upto_region 3 with (fail)
  clear o0 o1 o2 o3 of0 of1 of2 of3
  have T1 := X1.out.put 0 (.slice (some ⟨b0, 0, none⟩) g.users.length g.users.length)
  have T2 := X2.out.put 0 (.slice (some ⟨b0, 0, none⟩) g.users.length g.users.length)
  have P0 := Lib.hid (put_grown w0 (w.heap.size + 1 + 1) 0 (.slice (some ⟨b0, 0, none⟩) g.users.length g.users.length))
  simp only [arr5_0] at T1 T2
  generalize w0.setCell ⟨w.heap.size + 1 + 1, 0, none⟩ (.slice (some ⟨b0, 0, none⟩) g.users.length g.users.length) = v0 at T1 T2 P0 ⊢
  clear X1 X2
  have X1 := Lib.hid T1
  have X2 := Lib.hid T2
  have q0 := blk_cell T1.hp 0
  have q1 := blk_cell T1.hp 1
  have q2 := blk_cell T1.hp 2
  have q3 := blk_cell T1.hp 3
  simp at q0 q1 q2 q3
  clear T1 T2
  go_wp2_with fail
  refine (toSessionS_ok A1 c1 g.sessions HK.out.2.l1 HK.out.1.l1 _ (HK.out.2.r1.below X1.out.le (Nat.le_refl _))).mono ?_
  rintro e w1 ⟨b1, rfl, ho, hB1⟩
  clear q0 q1 q2 q3
  have T1 := X1.out.below hB1
  have T2 := X2.out.below hB1
  have O1 := Lib.hid (And.intro (Rd.of_own ho) (Nat.lt_of_lt_of_le (Array.getElem?_eq_some_iff.1 X1.out.ho).1 (own_ge ho)))
  have B1 := Lib.hid hB1
  clear ho hB1 X1 X2
  have X1 := Lib.hid T1
  have X2 := Lib.hid T2
  have o0 := blk_cell T1.ho 0
  have o1 := blk_cell T1.ho 1
  have o2 := blk_cell T1.ho 2
  have o3 := blk_cell T1.ho 3
  simp at o0 o1 o2 o3
  have of0 := blk_free T1.ho 0
  have of1 := blk_free T1.ho 1
  have of2 := blk_free T1.ho 2
  have of3 := blk_free T1.ho 3
  clear T1 T2
  go_upto_region 4 with (fail)
  clear o0 o1 o2 o3 of0 of1 of2 of3
  have T1 := X1.out.put 1 (.slice (some ⟨b1, 0, none⟩) g.sessions.length g.sessions.length)
  have T2 := X2.out.put 1 (.slice (some ⟨b1, 0, none⟩) g.sessions.length g.sessions.length)
  have P1 := Lib.hid (put_grown w1 (w.heap.size + 1 + 1) 1 (.slice (some ⟨b1, 0, none⟩) g.sessions.length g.sessions.length))
  simp only [arr5_1] at T1 T2
  generalize w1.setCell ⟨w.heap.size + 1 + 1, 1, none⟩ (.slice (some ⟨b1, 0, none⟩) g.sessions.length g.sessions.length) = v1 at T1 T2 P1 ⊢
  clear X1 X2
  have X1 := Lib.hid T1
  have X2 := Lib.hid T2
  have q0 := blk_cell T1.hp 0
  have q1 := blk_cell T1.hp 1
  have q2 := blk_cell T1.hp 2
  have q3 := blk_cell T1.hp 3
  simp at q0 q1 q2 q3
  clear T1 T2
  go_wp2_with fail
  refine (toFailS_ok A2 c2 g.fails HK.out.2.l2 HK.out.1.l2 _ (HK.out.2.r2.below X1.out.le (Nat.le_refl _))).mono ?_
  rintro e w2 ⟨b2, rfl, ho, hB1⟩
  clear q0 q1 q2 q3
  have T1 := X1.out.below hB1
  have T2 := X2.out.below hB1
  have O2 := Lib.hid (And.intro (Rd.of_own ho) (Nat.lt_of_lt_of_le (Array.getElem?_eq_some_iff.1 X1.out.ho).1 (own_ge ho)))
  have B2 := Lib.hid hB1
  clear ho hB1 X1 X2
  have X1 := Lib.hid T1
  have X2 := Lib.hid T2
  have o0 := blk_cell T1.ho 0
  have o1 := blk_cell T1.ho 1
  have o2 := blk_cell T1.ho 2
  have o3 := blk_cell T1.ho 3
  simp at o0 o1 o2 o3
  have of0 := blk_free T1.ho 0
  have of1 := blk_free T1.ho 1
  have of2 := blk_free T1.ho 2
  have of3 := blk_free T1.ho 3
  clear T1 T2
  go_upto_region 5 with (fail)
  clear o0 o1 o2 o3 of0 of1 of2 of3
  have T1 := X1.out.put 2 (.slice (some ⟨b2, 0, none⟩) g.fails.length g.fails.length)
  have T2 := X2.out.put 2 (.slice (some ⟨b2, 0, none⟩) g.fails.length g.fails.length)
  have P2 := Lib.hid (put_grown w2 (w.heap.size + 1 + 1) 2 (.slice (some ⟨b2, 0, none⟩) g.fails.length g.fails.length))
  simp only [arr5_2] at T1 T2
  generalize w2.setCell ⟨w.heap.size + 1 + 1, 2, none⟩ (.slice (some ⟨b2, 0, none⟩) g.fails.length g.fails.length) = v2 at T1 T2 P2 ⊢
  clear X1 X2
  have X1 := Lib.hid T1
  have X2 := Lib.hid T2
  have q0 := blk_cell T1.hp 0
  have q1 := blk_cell T1.hp 1
  have q2 := blk_cell T1.hp 2
  have q3 := blk_cell T1.hp 3
  simp at q0 q1 q2 q3
  clear T1 T2
  go_wp2_with fail
  refine (toRecordS_ok A3 c3 g.records HK.out.2.l3 HK.out.1.l3 _ (HK.out.2.r3.below X1.out.le (Nat.le_refl _))).mono ?_
  rintro e w3 ⟨b3, rfl, ho, hB1⟩
  clear q0 q1 q2 q3
  have T1 := X1.out.below hB1
  have T2 := X2.out.below hB1
  have O3 := Lib.hid (And.intro (Rd.of_own ho) (Nat.lt_of_lt_of_le (Array.getElem?_eq_some_iff.1 X1.out.ho).1 (own_ge ho)))
  have B3 := Lib.hid hB1
  clear ho hB1 X1 X2
  have X1 := Lib.hid T1
  have X2 := Lib.hid T2
  have o0 := blk_cell T1.ho 0
  have o1 := blk_cell T1.ho 1
  have o2 := blk_cell T1.ho 2
  have o3 := blk_cell T1.ho 3
  simp at o0 o1 o2 o3
  have of0 := blk_free T1.ho 0
  have of1 := blk_free T1.ho 1
  have of2 := blk_free T1.ho 2
  have of3 := blk_free T1.ho 3
  clear T1 T2
  go_upto_region 6 with (fail)
  clear o0 o1 o2 o3 of0 of1 of2 of3
  have T1 := X1.out.put 3 (.slice (some ⟨b3, 0, none⟩) g.records.length g.records.length)
  have T2 := X2.out.put 3 (.slice (some ⟨b3, 0, none⟩) g.records.length g.records.length)
  have P3 := Lib.hid (put_grown w3 (w.heap.size + 1 + 1) 3 (.slice (some ⟨b3, 0, none⟩) g.records.length g.records.length))
  simp only [arr5_3] at T1 T2
  generalize w3.setCell ⟨w.heap.size + 1 + 1, 3, none⟩ (.slice (some ⟨b3, 0, none⟩) g.records.length g.records.length) = v3 at T1 T2 P3 ⊢
  clear X1 X2
  have X1 := Lib.hid T1
  have X2 := Lib.hid T2
  have q0 := blk_cell T1.hp 0
  have q1 := blk_cell T1.hp 1
  have q2 := blk_cell T1.hp 2
  have q3 := blk_cell T1.hp 3
  have q4 := blk_cell T1.hp 4
  simp at q0 q1 q2 q3 q4
  have o0 := blk_cell T1.ho 0
  have o1 := blk_cell T1.ho 1
  have o2 := blk_cell T1.ho 2
  have o3 := blk_cell T1.ho 3
  have o4 := blk_cell T1.ho 4
  simp at o0 o1 o2 o3 o4
  have of0 := blk_free T1.ho 0
  have of1 := blk_free T1.ho 1
  have of2 := blk_free T1.ho 2
  have of3 := blk_free T1.ho 3
  have of4 := blk_free T1.ho 4
  clear T1 T2
  go_upto_region 7 with (fail)
  clear q0 q1 q2 q3 q4 o0 o1 o2 o3 o4 of0 of1 of2 of3 of4
  have T2 := X2.out.put 4 (.int .i64 g.next)
  have P4 := Lib.hid (put_grown v3 (w.heap.size + 1 + 1) 4 (.int .i64 g.next))
  simp only [arr5_4] at T2
  generalize v3.setCell ⟨w.heap.size + 1 + 1, 4, none⟩ (.int .i64 g.next) = v4 at T2 P4 ⊢
  clear X1 X2
  have X2 := Lib.hid T2
  have o0 := blk_cell T2.ho 0
  have o1 := blk_cell T2.ho 1
  have o2 := blk_cell T2.ho 2
  have o3 := blk_cell T2.ho 3
  have o4 := blk_cell T2.ho 4
  simp at o0 o1 o2 o3 o4
  clear T2
  go_wp2_with (refine wpList_store_row rfl _ _ 28 rfl (w.heap.size + 1) 28 zGuests (g.cells (some ⟨b0, 0, none⟩) (some ⟨b1, 0, none⟩) (some ⟨b2, 0, none⟩) (some ⟨b3, 0, none⟩) g.users.length g.sessions.length g.fails.length g.records.length) rfl rfl X2.out.hp rfl infoGuests rfl ?_)
  refine bodyPost_ret (ret_cell rfl rfl (setRow_heap _ _ _ _ _ _ X2.out.hp) Tryd.underlying28 rfl infoGuests) rfl ?_
  have g3 : w3.grownBy v4 (some (w.heap.size + 1 + 1)) := World.grownBy.trans P3.out P4.out
  have g2 : w2.grownBy v4 (some (w.heap.size + 1 + 1)) := World.grownBy.trans P2.out (World.grownBy.trans (grownBy_of_below B3.out _) g3)
  have g1 : w1.grownBy v4 (some (w.heap.size + 1 + 1)) := World.grownBy.trans P1.out (World.grownBy.trans (grownBy_of_below B2.out _) g2)
  have g0 : w0.grownBy v4 (some (w.heap.size + 1 + 1)) := World.grownBy.trans P0.out (World.grownBy.trans (grownBy_of_below B1.out _) g1)
  have fin : ∀ (wk : World) (bk : Nat) (vs : List Value), Rd wk (some ⟨bk, 0, none⟩) vs → w.heap.size + 1 + 1 < bk → wk.grownBy v4 (some (w.heap.size + 1 + 1)) → Rd (v4.setRow (w.heap.size + 1) (g.cells (some ⟨b0, 0, none⟩) (some ⟨b1, 0, none⟩) (some ⟨b2, 0, none⟩) (some ⟨b3, 0, none⟩) g.users.length g.sessions.length g.fails.length g.records.length)) (some ⟨bk, 0, none⟩) vs := fun wk bk vs hr hb hg =>
    (hr.grown hg (fun ad e q => by cases e; injection q with q; simp only at q; omega)).keep fun ad e => by cases e; exact setRow_other _ _ _ _ (by simp only; omega)
  exact ⟨b0, b1, b2, b3, rfl, ⟨Nat.le_refl _, Nat.le_refl _, Nat.le_refl _, Nat.le_refl _, fin _ _ _ O0.out.1 O0.out.2 g0, fin _ _ _ O1.out.1 O1.out.2 g1, fin _ _ _ O2.out.1 O2.out.2 g2, fin _ _ _ O3.out.1 O3.out.2 g3⟩, below_setRow X2.out.le (by omega) _⟩
theorem two_boxes (w : World) (P Q : Array Value) (TP TQ : TypeId) : ∃ W, (w.alloc (.cells P TP)).alloc (.cells Q TQ) = W ∧ Two w W w.heap.size P TP (w.heap.size + 1) Q TQ := by
  have s1 : (w.alloc (.cells P TP)).heap.size = w.heap.size + 1 := by simp
  have a0 := heap_alloc_new w (.cells P TP)
  have a1 := heap_alloc_new (w.alloc (.cells P TP)) (.cells Q TQ)
  rw [s1] at a1
  have b0 := (heap_alloc_old (w.alloc (.cells P TP)) (.cells Q TQ) (by simp : w.heap.size < _)).trans a0
  exact ⟨_, rfl, ⟨b0, a1, by omega, by omega, ((Below.refl _ _).alloc (Nat.le_refl _) _).alloc (by simp) _⟩⟩
/-- Two of the same are held equal. -/
theorem eqGuests_ok (g : ExGuests) (A0 A1 A2 A3 B0 B1 B2 B3 : Option Addr) (c0 c1 c2 c3 d0 d1 d2 d3 : Nat) (hs : g.Small) (w : World) (hg : g.In w A0 A1 A2 A3 c0 c1 c2 c3) (hg2 : g.In w B0 B1 B2 B3 d0 d1 d2 d3) :
    Calls Tryd.prog 11 #[.agg (g.cells A0 A1 A2 A3 c0 c1 c2 c3), .agg (g.cells B0 B1 B2 B3 d0 d1 d2 d3)] w fun e w' => e = .returned (.bool true) ∧ LeB w w' := by
  have HK := Lib.hid (And.intro hs (And.intro hg hg2))
  clear hs hg hg2
  go_enter Tryd.func11, Tryd.ntmps11
  go_upto_region 1 with (fail)
  obtain ⟨wa, hwa, T1⟩ := two_boxes w (g.cells A0 A1 A2 A3 c0 c1 c2 c3) (g.cells B0 B1 B2 B3 d0 d1 d2 d3) 28 28
  rw [hwa]
  clear hwa
  have X1 := Lib.hid T1
  have q0 := blk_cell T1.hp 0
  have q1 := blk_cell T1.hp 1
  have q2 := blk_cell T1.hp 2
  have q3 := blk_cell T1.hp 3
  simp at q0 q1 q2 q3
  have o0 := blk_cell T1.ho 0
  have o1 := blk_cell T1.ho 1
  have o2 := blk_cell T1.ho 2
  have o3 := blk_cell T1.ho 3
  simp at o0 o1 o2 o3
  clear T1
  go_wp2_with fail
  refine (eqUserS_ok g.users A0 B0 c0 d0 HK.out.2.1.l0 HK.out.2.2.l0 _ (HK.out.2.1.r0.below X1.out.le (Nat.le_refl _)) (HK.out.2.2.r0.below X1.out.le (Nat.le_refl _)) (by have := HK.out.1.l0; omega)).mono ?_
  rintro e w0 ⟨rfl, hB1⟩
  clear q0 q1 q2 q3 o0 o1 o2 o3
  have T1 := X1.out.below hB1
  clear hB1 X1
  have X1 := Lib.hid T1
  have q0 := blk_cell T1.hp 0
  have q1 := blk_cell T1.hp 1
  have q2 := blk_cell T1.hp 2
  have q3 := blk_cell T1.hp 3
  simp at q0 q1 q2 q3
  have o0 := blk_cell T1.ho 0
  have o1 := blk_cell T1.ho 1
  have o2 := blk_cell T1.ho 2
  have o3 := blk_cell T1.ho 3
  simp at o0 o1 o2 o3
  clear T1
  go_wp2_with fail
  refine (eqSessionS_ok g.sessions A1 B1 c1 d1 HK.out.2.1.l1 HK.out.2.2.l1 _ (HK.out.2.1.r1.below X1.out.le (Nat.le_refl _)) (HK.out.2.2.r1.below X1.out.le (Nat.le_refl _)) (by have := HK.out.1.l1; omega)).mono ?_
  rintro e w1 ⟨rfl, hB1⟩
  clear q0 q1 q2 q3 o0 o1 o2 o3
  have T1 := X1.out.below hB1
  clear hB1 X1
  have X1 := Lib.hid T1
  have q0 := blk_cell T1.hp 0
  have q1 := blk_cell T1.hp 1
  have q2 := blk_cell T1.hp 2
  have q3 := blk_cell T1.hp 3
  simp at q0 q1 q2 q3
  have o0 := blk_cell T1.ho 0
  have o1 := blk_cell T1.ho 1
  have o2 := blk_cell T1.ho 2
  have o3 := blk_cell T1.ho 3
  simp at o0 o1 o2 o3
  clear T1
  go_wp2_with fail
  refine (eqFailS_ok g.fails A2 B2 c2 d2 HK.out.2.1.l2 HK.out.2.2.l2 _ (HK.out.2.1.r2.below X1.out.le (Nat.le_refl _)) (HK.out.2.2.r2.below X1.out.le (Nat.le_refl _)) (by have := HK.out.1.l2; omega)).mono ?_
  rintro e w2 ⟨rfl, hB1⟩
  clear q0 q1 q2 q3 o0 o1 o2 o3
  have T1 := X1.out.below hB1
  clear hB1 X1
  have X1 := Lib.hid T1
  have q0 := blk_cell T1.hp 0
  have q1 := blk_cell T1.hp 1
  have q2 := blk_cell T1.hp 2
  have q3 := blk_cell T1.hp 3
  simp at q0 q1 q2 q3
  have o0 := blk_cell T1.ho 0
  have o1 := blk_cell T1.ho 1
  have o2 := blk_cell T1.ho 2
  have o3 := blk_cell T1.ho 3
  simp at o0 o1 o2 o3
  clear T1
  go_wp2_with fail
  refine (eqRecordS_ok g.records A3 B3 c3 d3 HK.out.2.1.l3 HK.out.2.2.l3 _ (HK.out.2.1.r3.below X1.out.le (Nat.le_refl _)) (HK.out.2.2.r3.below X1.out.le (Nat.le_refl _)) (by have := HK.out.1.l3; omega)).mono ?_
  rintro e w3 ⟨rfl, hB1⟩
  clear q0 q1 q2 q3 o0 o1 o2 o3
  have T1 := X1.out.below hB1
  clear hB1 X1
  have X1 := Lib.hid T1
  have q0 := blk_cell T1.hp 0
  have q1 := blk_cell T1.hp 1
  have q2 := blk_cell T1.hp 2
  have q3 := blk_cell T1.hp 3
  have q4 := blk_cell T1.hp 4
  simp at q0 q1 q2 q3 q4
  have o0 := blk_cell T1.ho 0
  have o1 := blk_cell T1.ho 1
  have o2 := blk_cell T1.ho 2
  have o3 := blk_cell T1.ho 3
  have o4 := blk_cell T1.ho 4
  simp at o0 o1 o2 o3 o4
  clear T1
  go_wp2_with fail
  go_ret
  exact ⟨rfl, X1.out.le⟩
end Go.Proofs.YtokoijnpbdafgaaDoor
