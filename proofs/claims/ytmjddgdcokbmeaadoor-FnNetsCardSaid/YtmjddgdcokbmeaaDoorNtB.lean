/- Nets: which addresses a drawn net has (both hands); spec's test of a net. -/
import Derived.Test.YtmjddgdcokbmeaaDoorNt
import Derived.Deep.Cut
namespace Go.Proofs.YtmjddgdcokbmeaaDoor
open Go.RowKit
set_option linter.unusedVariables false
set_option linter.unusedSimpArgs false
set_option maxRecDepth 200000
set_option maxHeartbeats 4000000

theorem has_ok (x : Nt) (hx : x ∈ N6) (ip : Nat) (hip : ip < 4294967296) (b : Bool) (hb : hasB x ip = b) (w : World) : Calls Tryd.prog 68 #[.agg x.cells, .int .i64 ip] w fun e w' => e = .returned (.bool b) ∧ LeB w w' := by
  have hI : (ip : Int) < 4294967296 := by omega
  rcases n6 hx with rfl | rfl | rfl | rfl | rfl | rfl
  · have hv : ((10 : Int) == (ip : Int) / 16777216) = b := by
      rw [← hb]
      unfold hasB
      rw [Bool.eq_iff_iff]
      simp only [beq_iff_eq]
      show (10 : Int) = (ip : Int) / 16777216 ↔ 167772160 / 16777216 = ip / 16777216
      omega
    have HB := Lib.hid hv
    clear hx hb hip hI
    go_enter Tryd.func68, Tryd.ntmps68
    go_upto_region 1 with (fail)
    generalize hw0 : World.alloc w (.cells #[.int .i64 167772160, .int .i64 8] 54) = wa
    have hblk : wa.heap[World.heap w |>.size]? = some (.cells #[.int .i64 167772160, .int .i64 8] 54 (0, 0)) := by rw [← hw0]; exact heap_alloc_new _ _
    have hlt : (World.heap w).size < wa.heap.size := (Array.getElem?_eq_some_iff.1 hblk).1
    have hB0 : Below (World.heap w).size w wa := by rw [← hw0]; exact (Below.refl _ _).alloc (Nat.le_refl _) _
    clear hw0
    have c0 := blk_cell hblk 0
    have c1 := blk_cell hblk 1
    simp at c0 c1
    have HX := Lib.hid hB0
    clear hblk hlt hB0
    go_quiet (fail)
    go_wp2_with fail
    go_ret
    exact ⟨rfl, below_drewN HX.out _⟩
  · have hv : ((167772162 : Int) == (ip : Int)) = b := by
      rw [← hb]
      unfold hasB
      rw [Bool.eq_iff_iff]
      simp only [beq_iff_eq]
      show (167772162 : Int) = (ip : Int) ↔ 167772162 / 1 = ip / 1
      omega
    have HB := Lib.hid hv
    clear hx hb hip hI
    go_enter Tryd.func68, Tryd.ntmps68
    go_upto_region 1 with (fail)
    generalize hw0 : World.alloc w (.cells #[.int .i64 167772162, .int .i64 32] 54) = wa
    have hblk : wa.heap[World.heap w |>.size]? = some (.cells #[.int .i64 167772162, .int .i64 32] 54 (0, 0)) := by rw [← hw0]; exact heap_alloc_new _ _
    have hlt : (World.heap w).size < wa.heap.size := (Array.getElem?_eq_some_iff.1 hblk).1
    have hB0 : Below (World.heap w).size w wa := by rw [← hw0]; exact (Below.refl _ _).alloc (Nat.le_refl _) _
    clear hw0
    have c0 := blk_cell hblk 0
    have c1 := blk_cell hblk 1
    simp at c0 c1
    have HX := Lib.hid hB0
    clear hblk hlt hB0
    go_quiet (fail)
    go_wp2_with fail
    go_ret
    exact ⟨rfl, below_drewN HX.out _⟩
  · have hv : ((0 : Int) == (ip : Int) / 4294967296) = b := by
      rw [← hb]
      unfold hasB
      rw [Bool.eq_iff_iff]
      simp only [beq_iff_eq]
      show (0 : Int) = (ip : Int) / 4294967296 ↔ 0 / 4294967296 = ip / 4294967296
      omega
    have HB := Lib.hid hv
    clear hx hb hip hI
    go_enter Tryd.func68, Tryd.ntmps68
    go_upto_region 1 with (fail)
    generalize hw0 : World.alloc w (.cells #[.int .i64 0, .int .i64 0] 54) = wa
    have hblk : wa.heap[World.heap w |>.size]? = some (.cells #[.int .i64 0, .int .i64 0] 54 (0, 0)) := by rw [← hw0]; exact heap_alloc_new _ _
    have hlt : (World.heap w).size < wa.heap.size := (Array.getElem?_eq_some_iff.1 hblk).1
    have hB0 : Below (World.heap w).size w wa := by rw [← hw0]; exact (Below.refl _ _).alloc (Nat.le_refl _) _
    clear hw0
    have c0 := blk_cell hblk 0
    have c1 := blk_cell hblk 1
    simp at c0 c1
    have HX := Lib.hid hB0
    clear hblk hlt hB0
    go_quiet (fail)
    go_wp2_with fail
    go_ret
    exact ⟨rfl, below_drewN HX.out _⟩
  · have hv : ((1285 : Int) == (ip : Int) / 65536) = b := by
      rw [← hb]
      unfold hasB
      rw [Bool.eq_iff_iff]
      simp only [beq_iff_eq]
      show (1285 : Int) = (ip : Int) / 65536 ↔ 84213760 / 65536 = ip / 65536
      omega
    have HB := Lib.hid hv
    clear hx hb hip hI
    go_enter Tryd.func68, Tryd.ntmps68
    go_upto_region 1 with (fail)
    generalize hw0 : World.alloc w (.cells #[.int .i64 84213760, .int .i64 16] 54) = wa
    have hblk : wa.heap[World.heap w |>.size]? = some (.cells #[.int .i64 84213760, .int .i64 16] 54 (0, 0)) := by rw [← hw0]; exact heap_alloc_new _ _
    have hlt : (World.heap w).size < wa.heap.size := (Array.getElem?_eq_some_iff.1 hblk).1
    have hB0 : Below (World.heap w).size w wa := by rw [← hw0]; exact (Below.refl _ _).alloc (Nat.le_refl _) _
    clear hw0
    have c0 := blk_cell hblk 0
    have c1 := blk_cell hblk 1
    simp at c0 c1
    have HX := Lib.hid hB0
    clear hblk hlt hB0
    go_quiet (fail)
    go_wp2_with fail
    go_ret
    exact ⟨rfl, below_drewN HX.out _⟩
  · have hv : ((21053761 : Int) == (ip : Int) / 4) = b := by
      rw [← hb]
      unfold hasB
      rw [Bool.eq_iff_iff]
      simp only [beq_iff_eq]
      show (21053761 : Int) = (ip : Int) / 4 ↔ 84215044 / 4 = ip / 4
      omega
    have HB := Lib.hid hv
    clear hx hb hip hI
    go_enter Tryd.func68, Tryd.ntmps68
    go_upto_region 1 with (fail)
    generalize hw0 : World.alloc w (.cells #[.int .i64 84215044, .int .i64 30] 54) = wa
    have hblk : wa.heap[World.heap w |>.size]? = some (.cells #[.int .i64 84215044, .int .i64 30] 54 (0, 0)) := by rw [← hw0]; exact heap_alloc_new _ _
    have hlt : (World.heap w).size < wa.heap.size := (Array.getElem?_eq_some_iff.1 hblk).1
    have hB0 : Below (World.heap w).size w wa := by rw [← hw0]; exact (Below.refl _ _).alloc (Nat.le_refl _) _
    clear hw0
    have c0 := blk_cell hblk 0
    have c1 := blk_cell hblk 1
    simp at c0 c1
    have HX := Lib.hid hB0
    clear hblk hlt hB0
    go_quiet (fail)
    go_wp2_with fail
    go_ret
    exact ⟨rfl, below_drewN HX.out _⟩
  · have hv : ((1 : Int) == (ip : Int) / 2147483648) = b := by
      rw [← hb]
      unfold hasB
      rw [Bool.eq_iff_iff]
      simp only [beq_iff_eq]
      show (1 : Int) = (ip : Int) / 2147483648 ↔ 2147483648 / 2147483648 = ip / 2147483648
      omega
    have HB := Lib.hid hv
    clear hx hb hip hI
    go_enter Tryd.func68, Tryd.ntmps68
    go_upto_region 1 with (fail)
    generalize hw0 : World.alloc w (.cells #[.int .i64 2147483648, .int .i64 1] 54) = wa
    have hblk : wa.heap[World.heap w |>.size]? = some (.cells #[.int .i64 2147483648, .int .i64 1] 54 (0, 0)) := by rw [← hw0]; exact heap_alloc_new _ _
    have hlt : (World.heap w).size < wa.heap.size := (Array.getElem?_eq_some_iff.1 hblk).1
    have hB0 : Below (World.heap w).size w wa := by rw [← hw0]; exact (Below.refl _ _).alloc (Nat.le_refl _) _
    clear hw0
    have c0 := blk_cell hblk 0
    have c1 := blk_cell hblk 1
    simp at c0 c1
    have HX := Lib.hid hB0
    clear hblk hlt hB0
    go_quiet (fail)
    go_wp2_with fail
    go_ret
    exact ⟨rfl, below_drewN HX.out _⟩
theorem sHas_ok (x : Nt) (hx : x ∈ N6) (ip : Nat) (hip : ip < 4294967296) (b : Bool) (hb : hasB x ip = b) (w : World) : Calls Tryd.prog 100 #[.agg x.cells, .int .i64 ip] w fun e w' => e = .returned (.bool b) ∧ LeB w w' := by
  have hI : (ip : Int) < 4294967296 := by omega
  rcases n6 hx with rfl | rfl | rfl | rfl | rfl | rfl
  · have hv : ((10 : Int) == (ip : Int) / 16777216) = b := by
      rw [← hb]
      unfold hasB
      rw [Bool.eq_iff_iff]
      simp only [beq_iff_eq]
      show (10 : Int) = (ip : Int) / 16777216 ↔ 167772160 / 16777216 = ip / 16777216
      omega
    have HB := Lib.hid hv
    clear hx hb hip hI
    go_enter Tryd.func100, Tryd.ntmps100
    go_upto_region 1 with (fail)
    generalize hw0 : World.alloc w (.cells #[.int .i64 167772160, .int .i64 8] 54) = wa
    have hblk : wa.heap[World.heap w |>.size]? = some (.cells #[.int .i64 167772160, .int .i64 8] 54 (0, 0)) := by rw [← hw0]; exact heap_alloc_new _ _
    have hlt : (World.heap w).size < wa.heap.size := (Array.getElem?_eq_some_iff.1 hblk).1
    have hB0 : Below (World.heap w).size w wa := by rw [← hw0]; exact (Below.refl _ _).alloc (Nat.le_refl _) _
    clear hw0
    have c0 := blk_cell hblk 0
    have c1 := blk_cell hblk 1
    simp at c0 c1
    have HX := Lib.hid hB0
    clear hblk hlt hB0
    go_wp2_with fail
    go_ret
    exact ⟨rfl, HX.out⟩
  · have hv : ((167772162 : Int) == (ip : Int)) = b := by
      rw [← hb]
      unfold hasB
      rw [Bool.eq_iff_iff]
      simp only [beq_iff_eq]
      show (167772162 : Int) = (ip : Int) ↔ 167772162 / 1 = ip / 1
      omega
    have HB := Lib.hid hv
    clear hx hb hip hI
    go_enter Tryd.func100, Tryd.ntmps100
    go_upto_region 1 with (fail)
    generalize hw0 : World.alloc w (.cells #[.int .i64 167772162, .int .i64 32] 54) = wa
    have hblk : wa.heap[World.heap w |>.size]? = some (.cells #[.int .i64 167772162, .int .i64 32] 54 (0, 0)) := by rw [← hw0]; exact heap_alloc_new _ _
    have hlt : (World.heap w).size < wa.heap.size := (Array.getElem?_eq_some_iff.1 hblk).1
    have hB0 : Below (World.heap w).size w wa := by rw [← hw0]; exact (Below.refl _ _).alloc (Nat.le_refl _) _
    clear hw0
    have c0 := blk_cell hblk 0
    have c1 := blk_cell hblk 1
    simp at c0 c1
    have HX := Lib.hid hB0
    clear hblk hlt hB0
    go_wp2_with fail
    go_ret
    exact ⟨rfl, HX.out⟩
  · have hv : ((0 : Int) == (ip : Int) / 4294967296) = b := by
      rw [← hb]
      unfold hasB
      rw [Bool.eq_iff_iff]
      simp only [beq_iff_eq]
      show (0 : Int) = (ip : Int) / 4294967296 ↔ 0 / 4294967296 = ip / 4294967296
      omega
    have HB := Lib.hid hv
    clear hx hb hip hI
    go_enter Tryd.func100, Tryd.ntmps100
    go_upto_region 1 with (fail)
    generalize hw0 : World.alloc w (.cells #[.int .i64 0, .int .i64 0] 54) = wa
    have hblk : wa.heap[World.heap w |>.size]? = some (.cells #[.int .i64 0, .int .i64 0] 54 (0, 0)) := by rw [← hw0]; exact heap_alloc_new _ _
    have hlt : (World.heap w).size < wa.heap.size := (Array.getElem?_eq_some_iff.1 hblk).1
    have hB0 : Below (World.heap w).size w wa := by rw [← hw0]; exact (Below.refl _ _).alloc (Nat.le_refl _) _
    clear hw0
    have c0 := blk_cell hblk 0
    have c1 := blk_cell hblk 1
    simp at c0 c1
    have HX := Lib.hid hB0
    clear hblk hlt hB0
    go_wp2_with fail
    go_ret
    exact ⟨rfl, HX.out⟩
  · have hv : ((1285 : Int) == (ip : Int) / 65536) = b := by
      rw [← hb]
      unfold hasB
      rw [Bool.eq_iff_iff]
      simp only [beq_iff_eq]
      show (1285 : Int) = (ip : Int) / 65536 ↔ 84213760 / 65536 = ip / 65536
      omega
    have HB := Lib.hid hv
    clear hx hb hip hI
    go_enter Tryd.func100, Tryd.ntmps100
    go_upto_region 1 with (fail)
    generalize hw0 : World.alloc w (.cells #[.int .i64 84213760, .int .i64 16] 54) = wa
    have hblk : wa.heap[World.heap w |>.size]? = some (.cells #[.int .i64 84213760, .int .i64 16] 54 (0, 0)) := by rw [← hw0]; exact heap_alloc_new _ _
    have hlt : (World.heap w).size < wa.heap.size := (Array.getElem?_eq_some_iff.1 hblk).1
    have hB0 : Below (World.heap w).size w wa := by rw [← hw0]; exact (Below.refl _ _).alloc (Nat.le_refl _) _
    clear hw0
    have c0 := blk_cell hblk 0
    have c1 := blk_cell hblk 1
    simp at c0 c1
    have HX := Lib.hid hB0
    clear hblk hlt hB0
    go_wp2_with fail
    go_ret
    exact ⟨rfl, HX.out⟩
  · have hv : ((21053761 : Int) == (ip : Int) / 4) = b := by
      rw [← hb]
      unfold hasB
      rw [Bool.eq_iff_iff]
      simp only [beq_iff_eq]
      show (21053761 : Int) = (ip : Int) / 4 ↔ 84215044 / 4 = ip / 4
      omega
    have HB := Lib.hid hv
    clear hx hb hip hI
    go_enter Tryd.func100, Tryd.ntmps100
    go_upto_region 1 with (fail)
    generalize hw0 : World.alloc w (.cells #[.int .i64 84215044, .int .i64 30] 54) = wa
    have hblk : wa.heap[World.heap w |>.size]? = some (.cells #[.int .i64 84215044, .int .i64 30] 54 (0, 0)) := by rw [← hw0]; exact heap_alloc_new _ _
    have hlt : (World.heap w).size < wa.heap.size := (Array.getElem?_eq_some_iff.1 hblk).1
    have hB0 : Below (World.heap w).size w wa := by rw [← hw0]; exact (Below.refl _ _).alloc (Nat.le_refl _) _
    clear hw0
    have c0 := blk_cell hblk 0
    have c1 := blk_cell hblk 1
    simp at c0 c1
    have HX := Lib.hid hB0
    clear hblk hlt hB0
    go_wp2_with fail
    go_ret
    exact ⟨rfl, HX.out⟩
  · have hv : ((1 : Int) == (ip : Int) / 2147483648) = b := by
      rw [← hb]
      unfold hasB
      rw [Bool.eq_iff_iff]
      simp only [beq_iff_eq]
      show (1 : Int) = (ip : Int) / 2147483648 ↔ 2147483648 / 2147483648 = ip / 2147483648
      omega
    have HB := Lib.hid hv
    clear hx hb hip hI
    go_enter Tryd.func100, Tryd.ntmps100
    go_upto_region 1 with (fail)
    generalize hw0 : World.alloc w (.cells #[.int .i64 2147483648, .int .i64 1] 54) = wa
    have hblk : wa.heap[World.heap w |>.size]? = some (.cells #[.int .i64 2147483648, .int .i64 1] 54 (0, 0)) := by rw [← hw0]; exact heap_alloc_new _ _
    have hlt : (World.heap w).size < wa.heap.size := (Array.getElem?_eq_some_iff.1 hblk).1
    have hB0 : Below (World.heap w).size w wa := by rw [← hw0]; exact (Below.refl _ _).alloc (Nat.le_refl _) _
    clear hw0
    have c0 := blk_cell hblk 0
    have c1 := blk_cell hblk 1
    simp at c0 c1
    have HX := Lib.hid hB0
    clear hblk hlt hB0
    go_wp2_with fail
    go_ret
    exact ⟨rfl, HX.out⟩
theorem sNetOK_ok (x : Nt) (hx : x ∈ N6) (w : World) : Calls Tryd.prog 99 #[.agg x.cells] w fun e w' => e = .returned (.bool true) ∧ LeB w w' := by
  rcases n6 hx with rfl | rfl | rfl | rfl | rfl | rfl
  · have hb : bits .and .i64 167772160 16777215 = 0 := by kernel_rfl
    clear hx
    go_enter Tryd.func99, Tryd.ntmps99
    go_upto_region 1 with (fail)
    generalize hw0 : World.alloc w (.cells #[.int .i64 167772160, .int .i64 8] 54) = wa
    have hblk : wa.heap[World.heap w |>.size]? = some (.cells #[.int .i64 167772160, .int .i64 8] 54 (0, 0)) := by rw [← hw0]; exact heap_alloc_new _ _
    have hlt : (World.heap w).size < wa.heap.size := (Array.getElem?_eq_some_iff.1 hblk).1
    have hB0 : Below (World.heap w).size w wa := by rw [← hw0]; exact (Below.refl _ _).alloc (Nat.le_refl _) _
    clear hw0
    have c0 := blk_cell hblk 0
    have c1 := blk_cell hblk 1
    simp at c0 c1
    have HX := Lib.hid hB0
    clear hblk hlt hB0
    go_wp2_with fail
    refine (sIp_t 167772160 (by decide) _).mono ?_
    rintro e w1 ⟨rfl, rfl⟩
    go_wp2_with fail
    refine (sIn_t 8 0 32 (by decide) (by decide) _).mono ?_
    rintro e w1 ⟨rfl, rfl⟩
    go_wp2_with fail
    go_ret
    exact ⟨rfl, HX.out⟩
  · have hb : bits .and .i64 167772162 0 = 0 := by kernel_rfl
    clear hx
    go_enter Tryd.func99, Tryd.ntmps99
    go_upto_region 1 with (fail)
    generalize hw0 : World.alloc w (.cells #[.int .i64 167772162, .int .i64 32] 54) = wa
    have hblk : wa.heap[World.heap w |>.size]? = some (.cells #[.int .i64 167772162, .int .i64 32] 54 (0, 0)) := by rw [← hw0]; exact heap_alloc_new _ _
    have hlt : (World.heap w).size < wa.heap.size := (Array.getElem?_eq_some_iff.1 hblk).1
    have hB0 : Below (World.heap w).size w wa := by rw [← hw0]; exact (Below.refl _ _).alloc (Nat.le_refl _) _
    clear hw0
    have c0 := blk_cell hblk 0
    have c1 := blk_cell hblk 1
    simp at c0 c1
    have HX := Lib.hid hB0
    clear hblk hlt hB0
    go_wp2_with fail
    refine (sIp_t 167772162 (by decide) _).mono ?_
    rintro e w1 ⟨rfl, rfl⟩
    go_wp2_with fail
    refine (sIn_t 32 0 32 (by decide) (by decide) _).mono ?_
    rintro e w1 ⟨rfl, rfl⟩
    go_wp2_with fail
    go_ret
    exact ⟨rfl, HX.out⟩
  · have hb : bits .and .i64 0 4294967295 = 0 := by kernel_rfl
    clear hx
    go_enter Tryd.func99, Tryd.ntmps99
    go_upto_region 1 with (fail)
    generalize hw0 : World.alloc w (.cells #[.int .i64 0, .int .i64 0] 54) = wa
    have hblk : wa.heap[World.heap w |>.size]? = some (.cells #[.int .i64 0, .int .i64 0] 54 (0, 0)) := by rw [← hw0]; exact heap_alloc_new _ _
    have hlt : (World.heap w).size < wa.heap.size := (Array.getElem?_eq_some_iff.1 hblk).1
    have hB0 : Below (World.heap w).size w wa := by rw [← hw0]; exact (Below.refl _ _).alloc (Nat.le_refl _) _
    clear hw0
    have c0 := blk_cell hblk 0
    have c1 := blk_cell hblk 1
    simp at c0 c1
    have HX := Lib.hid hB0
    clear hblk hlt hB0
    go_wp2_with fail
    refine (sIp_t 0 (by decide) _).mono ?_
    rintro e w1 ⟨rfl, rfl⟩
    go_wp2_with fail
    refine (sIn_t 0 0 32 (by decide) (by decide) _).mono ?_
    rintro e w1 ⟨rfl, rfl⟩
    go_wp2_with fail
    go_ret
    exact ⟨rfl, HX.out⟩
  · have hb : bits .and .i64 84213760 65535 = 0 := by kernel_rfl
    clear hx
    go_enter Tryd.func99, Tryd.ntmps99
    go_upto_region 1 with (fail)
    generalize hw0 : World.alloc w (.cells #[.int .i64 84213760, .int .i64 16] 54) = wa
    have hblk : wa.heap[World.heap w |>.size]? = some (.cells #[.int .i64 84213760, .int .i64 16] 54 (0, 0)) := by rw [← hw0]; exact heap_alloc_new _ _
    have hlt : (World.heap w).size < wa.heap.size := (Array.getElem?_eq_some_iff.1 hblk).1
    have hB0 : Below (World.heap w).size w wa := by rw [← hw0]; exact (Below.refl _ _).alloc (Nat.le_refl _) _
    clear hw0
    have c0 := blk_cell hblk 0
    have c1 := blk_cell hblk 1
    simp at c0 c1
    have HX := Lib.hid hB0
    clear hblk hlt hB0
    go_wp2_with fail
    refine (sIp_t 84213760 (by decide) _).mono ?_
    rintro e w1 ⟨rfl, rfl⟩
    go_wp2_with fail
    refine (sIn_t 16 0 32 (by decide) (by decide) _).mono ?_
    rintro e w1 ⟨rfl, rfl⟩
    go_wp2_with fail
    go_ret
    exact ⟨rfl, HX.out⟩
  · have hb : bits .and .i64 84215044 3 = 0 := by kernel_rfl
    clear hx
    go_enter Tryd.func99, Tryd.ntmps99
    go_upto_region 1 with (fail)
    generalize hw0 : World.alloc w (.cells #[.int .i64 84215044, .int .i64 30] 54) = wa
    have hblk : wa.heap[World.heap w |>.size]? = some (.cells #[.int .i64 84215044, .int .i64 30] 54 (0, 0)) := by rw [← hw0]; exact heap_alloc_new _ _
    have hlt : (World.heap w).size < wa.heap.size := (Array.getElem?_eq_some_iff.1 hblk).1
    have hB0 : Below (World.heap w).size w wa := by rw [← hw0]; exact (Below.refl _ _).alloc (Nat.le_refl _) _
    clear hw0
    have c0 := blk_cell hblk 0
    have c1 := blk_cell hblk 1
    simp at c0 c1
    have HX := Lib.hid hB0
    clear hblk hlt hB0
    go_wp2_with fail
    refine (sIp_t 84215044 (by decide) _).mono ?_
    rintro e w1 ⟨rfl, rfl⟩
    go_wp2_with fail
    refine (sIn_t 30 0 32 (by decide) (by decide) _).mono ?_
    rintro e w1 ⟨rfl, rfl⟩
    go_wp2_with fail
    go_ret
    exact ⟨rfl, HX.out⟩
  · have hb : bits .and .i64 2147483648 2147483647 = 0 := by kernel_rfl
    clear hx
    go_enter Tryd.func99, Tryd.ntmps99
    go_upto_region 1 with (fail)
    generalize hw0 : World.alloc w (.cells #[.int .i64 2147483648, .int .i64 1] 54) = wa
    have hblk : wa.heap[World.heap w |>.size]? = some (.cells #[.int .i64 2147483648, .int .i64 1] 54 (0, 0)) := by rw [← hw0]; exact heap_alloc_new _ _
    have hlt : (World.heap w).size < wa.heap.size := (Array.getElem?_eq_some_iff.1 hblk).1
    have hB0 : Below (World.heap w).size w wa := by rw [← hw0]; exact (Below.refl _ _).alloc (Nat.le_refl _) _
    clear hw0
    have c0 := blk_cell hblk 0
    have c1 := blk_cell hblk 1
    simp at c0 c1
    have HX := Lib.hid hB0
    clear hblk hlt hB0
    go_wp2_with fail
    refine (sIp_t 2147483648 (by decide) _).mono ?_
    rintro e w1 ⟨rfl, rfl⟩
    go_wp2_with fail
    refine (sIn_t 1 0 32 (by decide) (by decide) _).mono ?_
    rintro e w1 ⟨rfl, rfl⟩
    go_wp2_with fail
    go_ret
    exact ⟨rfl, HX.out⟩
end Go.Proofs.YtmjddgdcokbmeaaDoor
