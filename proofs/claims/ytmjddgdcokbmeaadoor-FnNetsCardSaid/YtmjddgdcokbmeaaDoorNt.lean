/- Nets: the nets that are drawn, what is right of them, what they have (both hands). -/
import Derived.Test.YtmjddgdcokbmeaaDoorNh
import Derived.Test.YtmjddgdcokbmeaaDoorRlB
import Derived.Test.YtmjddgdcokbmeaaDoorOf
import Derived.Deep.Cut
namespace Go.Proofs.YtmjddgdcokbmeaaDoor
open Go.RowKit
set_option linter.unusedVariables false
set_option linter.unusedSimpArgs false
set_option maxRecDepth 200000
set_option maxHeartbeats 4000000

structure Nt where
  ip : Nat
  bits : Nat
  deriving DecidableEq
@[reducible] def Nt.cells (x : Nt) : Array Value := #[.int .i64 (x.ip : Int), .int .i64 (x.bits : Int)]
def Nt.row (x : Nt) : List Value := x.cells.toList
theorem Nt.row_len (x : Nt) : x.row.length = 2 := rfl
theorem Nt.row_one (x : Nt) : ∀ u ∈ x.row, u.oneCell' = true := by
  intro u hu
  simp [Nt.row] at hu
  rcases hu with rfl | rfl <;> rfl
structure Nt.At (w : World) (a : Addr) (x : Nt) : Prop where
  c0 : w.cell? a = some (.int .i64 (x.ip : Int))
  c1 : w.cell? ⟨a.block, a.off + 1, none⟩ = some (.int .i64 (x.bits : Int))
theorem Nt.At.of {w : World} {A : Option Addr} {l : List Nt} (h : Rd w A (rowC Nt.row l)) (k : Nat) (hk : k < l.length) : ∃ ad, A = some ad ∧ Nt.At w (ad.add (k * 2)) l[k] := by
  obtain ⟨ad, e, q⟩ := row_at Nt.row_len (by omega) h k hk
  refine ⟨ad, e, by have := q 0 _ rfl; unfold Addr.add at this ⊢; simpa using this, ?_⟩
  have h := q 1 _ rfl
  unfold Addr.add at h ⊢
  simpa using h
theorem Nt.At.below {w w' : World} {a : Addr} {x : Nt} (h : Nt.At w a x) (hb : LeB w w') : Nt.At w' a x := by
  have q : ∀ {p : Addr} {u : Value}, w.cell? p = some u → w'.cell? p = some u := fun {p u} hc => (hb.cell (World.block_lt_of_cell? w _ hc)).trans hc
  exact ⟨q h.c0, q h.c1⟩
theorem Nt.info : (Tryd.prog.info? 54).map (·.size) = some 2 := by kernel_rfl
theorem Nt.infob : (Tryd.prog.info? 54).map (fun i => (i.zero, i.size, i.bytes)) = some (some (.agg #[.int .i64 0, .int .i64 0]), 2, 16) := by kernel_rfl
/-- The nets that are drawn. -/
def N6 : List Nt := [⟨167772160, 8⟩, ⟨167772162, 32⟩, ⟨0, 0⟩, ⟨84213760, 16⟩, ⟨84215044, 30⟩, ⟨2147483648, 1⟩]
def hasB (x : Nt) (ip : Nat) : Bool := x.ip / 2 ^ (32 - x.bits) == ip / 2 ^ (32 - x.bits)
theorem n6 {x : Nt} (h : x ∈ N6) : x = ⟨167772160, 8⟩ ∨ x = ⟨167772162, 32⟩ ∨ x = ⟨0, 0⟩ ∨ x = ⟨84213760, 16⟩ ∨ x = ⟨84215044, 30⟩ ∨ x = ⟨2147483648, 1⟩ := by simpa [N6] using h
theorem n6_bd {x : Nt} (h : x ∈ N6) : x.ip < 4294967296 ∧ x.bits ≤ 32 := by
  rcases n6 h with rfl | rfl | rfl | rfl | rfl | rfl <;> decide
theorem NetOK_ok (x : Nt) (hx : x ∈ N6) (w : World) : Calls Tryd.prog 32 #[.agg x.cells] w fun e w' => e = .returned (.bool true) ∧ LeB w w' := by
  rcases n6 hx with rfl | rfl | rfl | rfl | rfl | rfl
  · have hb : bits .and .i64 167772160 16777215 = 0 := by kernel_rfl
    clear hx
    go_enter Tryd.func32, Tryd.ntmps32
    go_upto_region 1 with (fail)
    generalize hw0 : World.alloc w (.cells #[.int .i64 167772160, .int .i64 8] 54) = wa
    have hblk : wa.heap[World.heap w |>.size]? = some (.cells #[.int .i64 167772160, .int .i64 8] 54 (0, 0)) := by rw [← hw0]; exact heap_alloc_new _ _
    have hlt : (World.heap w).size < wa.heap.size := (Array.getElem?_eq_some_iff.1 hblk).1
    have hB0 : Below (World.heap w).size w wa := by rw [← hw0]; exact (Below.refl _ _).alloc (Nat.le_refl _) _
    clear hw0
    have c0 := blk_cell hblk 0
    have c1 := blk_cell hblk 1
    simp at c0 c1
    have HX := Lib.hid hB0
    clear hblk hlt hB0
    go_quiet ((first | exact qsn (fun W => isAddress_t 167772160 (by decide) W) | exact qsn (fun W => within_t 8 0 32 (by decide) (by decide) W)))
    go_wp2_with fail
    go_ret
    exact ⟨rfl, below_drewN HX.out _⟩
  · have hb : bits .and .i64 167772162 0 = 0 := by kernel_rfl
    clear hx
    go_enter Tryd.func32, Tryd.ntmps32
    go_upto_region 1 with (fail)
    generalize hw0 : World.alloc w (.cells #[.int .i64 167772162, .int .i64 32] 54) = wa
    have hblk : wa.heap[World.heap w |>.size]? = some (.cells #[.int .i64 167772162, .int .i64 32] 54 (0, 0)) := by rw [← hw0]; exact heap_alloc_new _ _
    have hlt : (World.heap w).size < wa.heap.size := (Array.getElem?_eq_some_iff.1 hblk).1
    have hB0 : Below (World.heap w).size w wa := by rw [← hw0]; exact (Below.refl _ _).alloc (Nat.le_refl _) _
    clear hw0
    have c0 := blk_cell hblk 0
    have c1 := blk_cell hblk 1
    simp at c0 c1
    have HX := Lib.hid hB0
    clear hblk hlt hB0
    go_quiet ((first | exact qsn (fun W => isAddress_t 167772162 (by decide) W) | exact qsn (fun W => within_t 32 0 32 (by decide) (by decide) W)))
    go_wp2_with fail
    go_ret
    exact ⟨rfl, below_drewN HX.out _⟩
  · have hb : bits .and .i64 0 4294967295 = 0 := by kernel_rfl
    clear hx
    go_enter Tryd.func32, Tryd.ntmps32
    go_upto_region 1 with (fail)
    generalize hw0 : World.alloc w (.cells #[.int .i64 0, .int .i64 0] 54) = wa
    have hblk : wa.heap[World.heap w |>.size]? = some (.cells #[.int .i64 0, .int .i64 0] 54 (0, 0)) := by rw [← hw0]; exact heap_alloc_new _ _
    have hlt : (World.heap w).size < wa.heap.size := (Array.getElem?_eq_some_iff.1 hblk).1
    have hB0 : Below (World.heap w).size w wa := by rw [← hw0]; exact (Below.refl _ _).alloc (Nat.le_refl _) _
    clear hw0
    have c0 := blk_cell hblk 0
    have c1 := blk_cell hblk 1
    simp at c0 c1
    have HX := Lib.hid hB0
    clear hblk hlt hB0
    go_quiet ((first | exact qsn (fun W => isAddress_t 0 (by decide) W) | exact qsn (fun W => within_t 0 0 32 (by decide) (by decide) W)))
    go_wp2_with fail
    go_ret
    exact ⟨rfl, below_drewN HX.out _⟩
  · have hb : bits .and .i64 84213760 65535 = 0 := by kernel_rfl
    clear hx
    go_enter Tryd.func32, Tryd.ntmps32
    go_upto_region 1 with (fail)
    generalize hw0 : World.alloc w (.cells #[.int .i64 84213760, .int .i64 16] 54) = wa
    have hblk : wa.heap[World.heap w |>.size]? = some (.cells #[.int .i64 84213760, .int .i64 16] 54 (0, 0)) := by rw [← hw0]; exact heap_alloc_new _ _
    have hlt : (World.heap w).size < wa.heap.size := (Array.getElem?_eq_some_iff.1 hblk).1
    have hB0 : Below (World.heap w).size w wa := by rw [← hw0]; exact (Below.refl _ _).alloc (Nat.le_refl _) _
    clear hw0
    have c0 := blk_cell hblk 0
    have c1 := blk_cell hblk 1
    simp at c0 c1
    have HX := Lib.hid hB0
    clear hblk hlt hB0
    go_quiet ((first | exact qsn (fun W => isAddress_t 84213760 (by decide) W) | exact qsn (fun W => within_t 16 0 32 (by decide) (by decide) W)))
    go_wp2_with fail
    go_ret
    exact ⟨rfl, below_drewN HX.out _⟩
  · have hb : bits .and .i64 84215044 3 = 0 := by kernel_rfl
    clear hx
    go_enter Tryd.func32, Tryd.ntmps32
    go_upto_region 1 with (fail)
    generalize hw0 : World.alloc w (.cells #[.int .i64 84215044, .int .i64 30] 54) = wa
    have hblk : wa.heap[World.heap w |>.size]? = some (.cells #[.int .i64 84215044, .int .i64 30] 54 (0, 0)) := by rw [← hw0]; exact heap_alloc_new _ _
    have hlt : (World.heap w).size < wa.heap.size := (Array.getElem?_eq_some_iff.1 hblk).1
    have hB0 : Below (World.heap w).size w wa := by rw [← hw0]; exact (Below.refl _ _).alloc (Nat.le_refl _) _
    clear hw0
    have c0 := blk_cell hblk 0
    have c1 := blk_cell hblk 1
    simp at c0 c1
    have HX := Lib.hid hB0
    clear hblk hlt hB0
    go_quiet ((first | exact qsn (fun W => isAddress_t 84215044 (by decide) W) | exact qsn (fun W => within_t 30 0 32 (by decide) (by decide) W)))
    go_wp2_with fail
    go_ret
    exact ⟨rfl, below_drewN HX.out _⟩
  · have hb : bits .and .i64 2147483648 2147483647 = 0 := by kernel_rfl
    clear hx
    go_enter Tryd.func32, Tryd.ntmps32
    go_upto_region 1 with (fail)
    generalize hw0 : World.alloc w (.cells #[.int .i64 2147483648, .int .i64 1] 54) = wa
    have hblk : wa.heap[World.heap w |>.size]? = some (.cells #[.int .i64 2147483648, .int .i64 1] 54 (0, 0)) := by rw [← hw0]; exact heap_alloc_new _ _
    have hlt : (World.heap w).size < wa.heap.size := (Array.getElem?_eq_some_iff.1 hblk).1
    have hB0 : Below (World.heap w).size w wa := by rw [← hw0]; exact (Below.refl _ _).alloc (Nat.le_refl _) _
    clear hw0
    have c0 := blk_cell hblk 0
    have c1 := blk_cell hblk 1
    simp at c0 c1
    have HX := Lib.hid hB0
    clear hblk hlt hB0
    go_quiet ((first | exact qsn (fun W => isAddress_t 2147483648 (by decide) W) | exact qsn (fun W => within_t 1 0 32 (by decide) (by decide) W)))
    go_wp2_with fail
    go_ret
    exact ⟨rfl, below_drewN HX.out _⟩
end Go.Proofs.YtmjddgdcokbmeaaDoor
