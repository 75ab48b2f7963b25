/- Status: what tests of numbers answer, and which sessions may be shown (impl's and spec's). -/
import Derived.Test.YtokoijnpbdafgaaDoorExH
import Derived.Test.YtokoijnpbdafgaaDoorIxSession
import Derived.Test.YtokoijnpbdafgaaDoorDg
namespace Go.Proofs.YtokoijnpbdafgaaDoor
open Go.RowKit
set_option linter.unusedVariables false
set_option linter.unusedSimpArgs false
set_option maxRecDepth 200000
set_option maxHeartbeats 4000000

def wB (a lo hi : Int) : Bool := decide (lo ≤ a) && decide (a ≤ hi)
theorem wB_true {a lo hi : Int} : wB a lo hi = true ↔ lo ≤ a ∧ a ≤ hi := by simp [wB]
theorem within_b (a lo hi : Int) (b : Bool) (hb : wB a lo hi = b) (w : World) : Calls Tryd.prog 38 #[.int .i64 a, .int .i64 lo, .int .i64 hi] w fun e w' => e = .returned (.bool b) ∧ w = w' := by
  subst hb
  by_cases h1 : lo ≤ a
  · by_cases h2 : a ≤ hi
    · rw [show wB a lo hi = true from by simp [wB, h1, h2]]
      go_enter Tryd.func38, Tryd.ntmps38
      go_wp2
      go_ret
      simp
    · rw [show wB a lo hi = false from by simp [wB, h2]]
      have h3 : decide (a ≤ hi) = false := decide_eq_false h2
      go_enter Tryd.func38, Tryd.ntmps38
      go_wp2
      go_ret
      simp
  · rw [show wB a lo hi = false from by simp [wB, h1]]
    have h3 : decide (lo ≤ a) = false := decide_eq_false h1
    go_enter Tryd.func38, Tryd.ntmps38
    go_wp2
    go_ret
    simp
theorem l01In_b (a lo hi : Int) (b : Bool) (hb : wB a lo hi = b) (w : World) : Calls Tryd.prog 17 #[.int .i64 a, .int .i64 lo, .int .i64 hi] w fun e w' => e = .returned (.bool b) ∧ w = w' := by
  subst hb
  by_cases h1 : lo ≤ a
  · by_cases h2 : a ≤ hi
    · rw [show wB a lo hi = true from by simp [wB, h1, h2]]
      go_enter Tryd.func17, Tryd.ntmps17
      go_wp2
      go_ret
      simp
    · rw [show wB a lo hi = false from by simp [wB, h2]]
      have h3 : decide (a ≤ hi) = false := decide_eq_false h2
      go_enter Tryd.func17, Tryd.ntmps17
      go_wp2
      go_ret
      simp
  · rw [show wB a lo hi = false from by simp [wB, h1]]
    have h3 : decide (lo ≤ a) = false := decide_eq_false h1
    go_enter Tryd.func17, Tryd.ntmps17
    go_wp2
    go_ret
    simp
theorem isTime_b (a : Int) (b : Bool) (hb : wB a 0 100000 = b) (w : World) : Calls Tryd.prog 15 #[.int .i64 a] w fun e w' => e = .returned (.bool b) ∧ w = w' := by
  go_enter Tryd.func15, Tryd.ntmps15
  go_wp2_with fail
  refine (within_b a 0 100000 b hb _).mono ?_
  rintro e w1 ⟨rfl, rfl⟩
  go_wp2_with fail
  go_ret
  exact ⟨rfl, rfl⟩
theorem qs {P : Program} {f : FuncId} {args : Array Value} {w : World} {n : Nat} {v : Value}
    (h : Calls P f args (w.drewN n) fun e w' => e = .returned v ∧ w.drewN n = w') : Calls P f args (w.drewN n) fun e w'' => e = .returned v ∧ ∃ m, w'' = w.drewN m :=
  h.mono fun _ _ ⟨he, hm⟩ => ⟨he, n, hm.symm⟩
theorem q0 {P : Program} {f : FuncId} {args : Array Value} {w : World} {v : Value}
    (h : Calls P f args w fun e w' => e = .returned v ∧ w = w') : Calls P f args w fun e w'' => e = .returned v ∧ ∃ m, w'' = w.drewN m :=
  h.mono fun _ _ ⟨he, hm⟩ => ⟨he, 0, by rw [← hm, World.drewN_zero]⟩

/-- A session may be shown. -/
def shB (nu : Nat) (x : ExSession) : Bool := wB x.user 0 (nu - 1) && wB x.id 0 10000 && wB x.quota 0 1000000 && wB x.used 0 x.quota && wB x.until_ 0 101000
theorem five (b1 b2 b3 b4 b5 : Bool) : b1 = false ∨ (b1 = true ∧ b2 = false) ∨ (b1 = true ∧ b2 = true ∧ b3 = false) ∨ (b1 = true ∧ b2 = true ∧ b3 = true ∧ b4 = false) ∨ (b1 = true ∧ b2 = true ∧ b3 = true ∧ b4 = true ∧ b5 = false) ∨ (b1 = true ∧ b2 = true ∧ b3 = true ∧ b4 = true ∧ b5 = true) := by
  cases b1 <;> cases b2 <;> cases b3 <;> cases b4 <;> cases b5 <;> simp
theorem shownOK_ok (x : ExSession) (nu : Nat) (hn : nu ≤ 1099511627776) (gb : Nat) (A0 : Option Addr) (c0 : Nat) (w : World) (hg : w.cell? ⟨gb, 0, none⟩ = some (.slice A0 nu c0)) :
    Calls Tryd.prog 14 #[.pointer (some ⟨gb, 0, none⟩), .agg x.cells] w fun e w' => e = .returned (.bool (shB nu x)) ∧ LeB w w' := by
  have hnI : (nu : Int) ≤ 1099511627776 := by omega
  obtain ⟨b, hb⟩ : ∃ b, shB nu x = b := ⟨_, rfl⟩
  rw [hb]
  have HB := Lib.hid hb
  clear hb
  have h5 := five (wB x.user 0 (nu - 1)) (wB x.id 0 10000) (wB x.quota 0 1000000) (wB x.used 0 x.quota) (wB x.until_ 0 101000)
  rcases h5 with h1 | ⟨h1, h2⟩ | ⟨h1, h2, h3⟩ | ⟨h1, h2, h3, h4⟩ | ⟨h1, h2, h3, h4, h5⟩ | ⟨h1, h2, h3, h4, h5⟩
  · have hv : b = false := by have := HB.out; unfold shB at this; simp [h1] at this; exact this
    subst hv
    have W1 := Lib.hid h1
    clear h1
    go_enter Tryd.func14, Tryd.ntmps14
    go_upto_region 1 with (fail)
    generalize hw0 : World.alloc w (.cells x.cells 33) = wa
    have hblk : wa.heap[World.heap w |>.size]? = some (.cells x.cells 33 (0, 0)) := by rw [← hw0]; exact heap_alloc_new _ _
    have hlt : (World.heap w).size < wa.heap.size := (Array.getElem?_eq_some_iff.1 hblk).1
    have hB0 : Below (World.heap w).size w wa := by rw [← hw0]; exact (Below.refl _ _).alloc (Nat.le_refl _) _
    clear hw0
    have hg1 := (hB0.cell (World.block_lt_of_cell? w _ hg)).trans hg
    have HX := Lib.hid hB0
    have p0 := blk_cell hblk 0
    have p1 := blk_cell hblk 1
    have p2 := blk_cell hblk 2
    have p3 := blk_cell hblk 3
    have p4 := blk_cell hblk 4
    have p5 := blk_cell hblk 5
    have p6 := blk_cell hblk 6
    have p7 := blk_cell hblk 7
    have p8 := blk_cell hblk 8
    have p9 := blk_cell hblk 9
    simp at p0 p1 p2 p3 p4 p5 p6 p7 p8 p9
    clear hblk hlt hB0 hg
    go_quiet ((first | (with_reducible exact qs (within_b _ _ _ _ W1.out _))))
    go_wp2_with (first | fail)
    go_ret
    exact ⟨rfl, below_drewN HX.out _⟩
  · have hv : b = false := by have := HB.out; unfold shB at this; simp [h1, h2] at this; exact this
    subst hv
    have W1 := Lib.hid h1
    have W2 := Lib.hid h2
    clear h1 h2
    go_enter Tryd.func14, Tryd.ntmps14
    go_upto_region 1 with (fail)
    generalize hw0 : World.alloc w (.cells x.cells 33) = wa
    have hblk : wa.heap[World.heap w |>.size]? = some (.cells x.cells 33 (0, 0)) := by rw [← hw0]; exact heap_alloc_new _ _
    have hlt : (World.heap w).size < wa.heap.size := (Array.getElem?_eq_some_iff.1 hblk).1
    have hB0 : Below (World.heap w).size w wa := by rw [← hw0]; exact (Below.refl _ _).alloc (Nat.le_refl _) _
    clear hw0
    have hg1 := (hB0.cell (World.block_lt_of_cell? w _ hg)).trans hg
    have HX := Lib.hid hB0
    have p0 := blk_cell hblk 0
    have p1 := blk_cell hblk 1
    have p2 := blk_cell hblk 2
    have p3 := blk_cell hblk 3
    have p4 := blk_cell hblk 4
    have p5 := blk_cell hblk 5
    have p6 := blk_cell hblk 6
    have p7 := blk_cell hblk 7
    have p8 := blk_cell hblk 8
    have p9 := blk_cell hblk 9
    simp at p0 p1 p2 p3 p4 p5 p6 p7 p8 p9
    clear hblk hlt hB0 hg
    go_quiet ((first | (with_reducible exact qs (within_b _ _ _ _ W1.out _)) | (with_reducible exact qs (within_b _ _ _ _ W2.out _))))
    go_wp2_with (first | fail)
    go_ret
    exact ⟨rfl, below_drewN HX.out _⟩
  · have hv : b = false := by have := HB.out; unfold shB at this; simp [h1, h2, h3] at this; exact this
    subst hv
    have W1 := Lib.hid h1
    have W2 := Lib.hid h2
    have W3 := Lib.hid h3
    clear h1 h2 h3
    go_enter Tryd.func14, Tryd.ntmps14
    go_upto_region 1 with (fail)
    generalize hw0 : World.alloc w (.cells x.cells 33) = wa
    have hblk : wa.heap[World.heap w |>.size]? = some (.cells x.cells 33 (0, 0)) := by rw [← hw0]; exact heap_alloc_new _ _
    have hlt : (World.heap w).size < wa.heap.size := (Array.getElem?_eq_some_iff.1 hblk).1
    have hB0 : Below (World.heap w).size w wa := by rw [← hw0]; exact (Below.refl _ _).alloc (Nat.le_refl _) _
    clear hw0
    have hg1 := (hB0.cell (World.block_lt_of_cell? w _ hg)).trans hg
    have HX := Lib.hid hB0
    have p0 := blk_cell hblk 0
    have p1 := blk_cell hblk 1
    have p2 := blk_cell hblk 2
    have p3 := blk_cell hblk 3
    have p4 := blk_cell hblk 4
    have p5 := blk_cell hblk 5
    have p6 := blk_cell hblk 6
    have p7 := blk_cell hblk 7
    have p8 := blk_cell hblk 8
    have p9 := blk_cell hblk 9
    simp at p0 p1 p2 p3 p4 p5 p6 p7 p8 p9
    clear hblk hlt hB0 hg
    go_quiet ((first | (with_reducible exact qs (within_b _ _ _ _ W1.out _)) | (with_reducible exact qs (within_b _ _ _ _ W2.out _)) | (with_reducible exact qs (within_b _ _ _ _ W3.out _))))
    go_wp2_with (first | fail)
    go_ret
    exact ⟨rfl, below_drewN HX.out _⟩
  · have hv : b = false := by have := HB.out; unfold shB at this; simp [h1, h2, h3, h4] at this; exact this
    subst hv
    have W1 := Lib.hid h1
    have W2 := Lib.hid h2
    have W3 := Lib.hid h3
    have W4 := Lib.hid h4
    clear h1 h2 h3 h4
    go_enter Tryd.func14, Tryd.ntmps14
    go_upto_region 1 with (fail)
    generalize hw0 : World.alloc w (.cells x.cells 33) = wa
    have hblk : wa.heap[World.heap w |>.size]? = some (.cells x.cells 33 (0, 0)) := by rw [← hw0]; exact heap_alloc_new _ _
    have hlt : (World.heap w).size < wa.heap.size := (Array.getElem?_eq_some_iff.1 hblk).1
    have hB0 : Below (World.heap w).size w wa := by rw [← hw0]; exact (Below.refl _ _).alloc (Nat.le_refl _) _
    clear hw0
    have hg1 := (hB0.cell (World.block_lt_of_cell? w _ hg)).trans hg
    have HX := Lib.hid hB0
    have p0 := blk_cell hblk 0
    have p1 := blk_cell hblk 1
    have p2 := blk_cell hblk 2
    have p3 := blk_cell hblk 3
    have p4 := blk_cell hblk 4
    have p5 := blk_cell hblk 5
    have p6 := blk_cell hblk 6
    have p7 := blk_cell hblk 7
    have p8 := blk_cell hblk 8
    have p9 := blk_cell hblk 9
    simp at p0 p1 p2 p3 p4 p5 p6 p7 p8 p9
    clear hblk hlt hB0 hg
    go_quiet ((first | (with_reducible exact qs (within_b _ _ _ _ W1.out _)) | (with_reducible exact qs (within_b _ _ _ _ W2.out _)) | (with_reducible exact qs (within_b _ _ _ _ W3.out _))))
    go_wp2_with (first | ((with_reducible refine (within_b _ _ _ _ W4.out _).mono ?_); rintro e w1 ⟨rfl, rfl⟩))
    go_ret
    exact ⟨rfl, below_drewN HX.out _⟩
  · have hv : b = false := by have := HB.out; unfold shB at this; simp [h1, h2, h3, h4, h5] at this; exact this
    subst hv
    have W1 := Lib.hid h1
    have W2 := Lib.hid h2
    have W3 := Lib.hid h3
    have W4 := Lib.hid h4
    have W5 := Lib.hid h5
    clear h1 h2 h3 h4 h5
    go_enter Tryd.func14, Tryd.ntmps14
    go_upto_region 1 with (fail)
    generalize hw0 : World.alloc w (.cells x.cells 33) = wa
    have hblk : wa.heap[World.heap w |>.size]? = some (.cells x.cells 33 (0, 0)) := by rw [← hw0]; exact heap_alloc_new _ _
    have hlt : (World.heap w).size < wa.heap.size := (Array.getElem?_eq_some_iff.1 hblk).1
    have hB0 : Below (World.heap w).size w wa := by rw [← hw0]; exact (Below.refl _ _).alloc (Nat.le_refl _) _
    clear hw0
    have hg1 := (hB0.cell (World.block_lt_of_cell? w _ hg)).trans hg
    have HX := Lib.hid hB0
    have p0 := blk_cell hblk 0
    have p1 := blk_cell hblk 1
    have p2 := blk_cell hblk 2
    have p3 := blk_cell hblk 3
    have p4 := blk_cell hblk 4
    have p5 := blk_cell hblk 5
    have p6 := blk_cell hblk 6
    have p7 := blk_cell hblk 7
    have p8 := blk_cell hblk 8
    have p9 := blk_cell hblk 9
    simp at p0 p1 p2 p3 p4 p5 p6 p7 p8 p9
    clear hblk hlt hB0 hg
    go_quiet ((first | (with_reducible exact qs (within_b _ _ _ _ W1.out _)) | (with_reducible exact qs (within_b _ _ _ _ W2.out _)) | (with_reducible exact qs (within_b _ _ _ _ W3.out _))))
    go_wp2_with (first | ((with_reducible refine (within_b _ _ _ _ W4.out _).mono ?_); rintro e w1 ⟨rfl, rfl⟩) | ((with_reducible refine (within_b _ _ _ _ W5.out _).mono ?_); rintro e w1 ⟨rfl, rfl⟩))
    go_ret
    exact ⟨rfl, below_drewN HX.out _⟩
  · have hv : b = true := by have := HB.out; unfold shB at this; simp [h1, h2, h3, h4, h5] at this; exact this
    subst hv
    have W1 := Lib.hid h1
    have W2 := Lib.hid h2
    have W3 := Lib.hid h3
    have W4 := Lib.hid h4
    have W5 := Lib.hid h5
    clear h1 h2 h3 h4 h5
    go_enter Tryd.func14, Tryd.ntmps14
    go_upto_region 1 with (fail)
    generalize hw0 : World.alloc w (.cells x.cells 33) = wa
    have hblk : wa.heap[World.heap w |>.size]? = some (.cells x.cells 33 (0, 0)) := by rw [← hw0]; exact heap_alloc_new _ _
    have hlt : (World.heap w).size < wa.heap.size := (Array.getElem?_eq_some_iff.1 hblk).1
    have hB0 : Below (World.heap w).size w wa := by rw [← hw0]; exact (Below.refl _ _).alloc (Nat.le_refl _) _
    clear hw0
    have hg1 := (hB0.cell (World.block_lt_of_cell? w _ hg)).trans hg
    have HX := Lib.hid hB0
    have p0 := blk_cell hblk 0
    have p1 := blk_cell hblk 1
    have p2 := blk_cell hblk 2
    have p3 := blk_cell hblk 3
    have p4 := blk_cell hblk 4
    have p5 := blk_cell hblk 5
    have p6 := blk_cell hblk 6
    have p7 := blk_cell hblk 7
    have p8 := blk_cell hblk 8
    have p9 := blk_cell hblk 9
    simp at p0 p1 p2 p3 p4 p5 p6 p7 p8 p9
    clear hblk hlt hB0 hg
    go_quiet ((first | (with_reducible exact qs (within_b _ _ _ _ W1.out _)) | (with_reducible exact qs (within_b _ _ _ _ W2.out _)) | (with_reducible exact qs (within_b _ _ _ _ W3.out _))))
    go_wp2_with (first | ((with_reducible refine (within_b _ _ _ _ W4.out _).mono ?_); rintro e w1 ⟨rfl, rfl⟩) | ((with_reducible refine (within_b _ _ _ _ W5.out _).mono ?_); rintro e w1 ⟨rfl, rfl⟩))
    go_ret
    exact ⟨rfl, below_drewN HX.out _⟩
end Go.Proofs.YtokoijnpbdafgaaDoor
