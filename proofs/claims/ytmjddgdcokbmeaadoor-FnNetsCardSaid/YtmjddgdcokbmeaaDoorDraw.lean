/- What the source draws: macs, addresses, one of some. -/
import Derived.Test.YtmjddgdcokbmeaaDoorSrc
namespace Go.Proofs.YtmjddgdcokbmeaaDoor
open Go.RowKit
set_option linter.unusedVariables false
set_option linter.unusedSimpArgs false


theorem src_alloc {w : World} {g : Nat} {N : Int} (h : Src w g N) (o : Obj) : Src (w.alloc o) g N := h.below ((Below.refl _ _).alloc (Nat.le_refl _) o) h.lt
theorem src_drew {w : World} {g : Nat} {N : Int} (h : Src w g N) : Src w.drew g N := h.below ((Below.refl _ _).drew) h.lt

set_option maxHeartbeats 1000000 in
theorem chance_ok (g : Nat) (N n : Int) (w : World) (hs : Src w g N) (hN : N ≤ 100000000) (hn : n ≤ 16777216) (hn0 : 0 ≤ n) :
    Calls Tryd.prog 74 #[.pointer (some ⟨g, 0, none⟩), .int .i64 n] w (SrcRet w g (N + 3) fun v => ∃ b, v = .bool b) := by
  go_enter Tryd.func74, Tryd.ntmps74
  go_wp2_with (go_at_call 73; refine (next_ok g N n _ hs hN hn).mono ?_; rintro e w1 ⟨v, rfl, ⟨x, rfl, hx⟩, hs1, hg1⟩)
  go_ret
  exact ⟨_, rfl, ⟨_, rfl⟩, hs1, hg1⟩

/-- One of the drawn macs. -/
def MacS (s : ByteArray) : Prop := ∃ k : Nat, 1 ≤ k ∧ k ≤ 3 ∧ s = bstr [2, 0, 0, 0, 0, UInt8.ofNat k]
def MacV (v : Value) : Prop := ∃ s, MacS s ∧ v = .string s
set_option maxHeartbeats 1000000 in
theorem mac_ok (g : Nat) (N : Int) (w : World) (hs : Src w g N) (hN : N ≤ 100000000) :
    Calls Tryd.prog 58 #[.pointer (some ⟨g, 0, none⟩)] w (SrcRet w g (N + 3) MacV) := by
  go_enter Tryd.func58, Tryd.ntmps58
  go_wp2_with fail
  refine (next_ok g N 3 _ hs hN (by omega)).mono ?_
  rintro e w1 ⟨v, rfl, ⟨x, rfl, hx0, hx1⟩, hs1, hg1⟩
  have hx2 : x ≤ 2 := by omega
  clear hx1
  set_option maxRecDepth 3000 in
  go_wp2
  rw [run_conv_nums _ 22 9 5 Tryd.underlying22 Tryd.underlying5 Tryd.underlying9 _ 1 _ [1 + x] rfl (by have := Rd.block (heap_alloc_new w1 (.cells #[Value.int .u8 (1 + x)] 5)) 0; simpa using this)]
  go_wp2
  go_ret
  exact ⟨_, rfl, ⟨_, ⟨(1 + x).toNat, by omega, by omega, bstr_append [2, 0, 0, 0, 0] [UInt8.ofNat (1 + x).toNat]⟩, rfl⟩, src_alloc hs1 _, World.grownBy.trans hg1 (World.grownBy_alloc _ _ _)⟩

set_option maxHeartbeats 1000000 in
theorem lan_ok (g : Nat) (N : Int) (w : World) (hs : Src w g N) (hN : N ≤ 100000000) :
    Calls Tryd.prog 82 #[.pointer (some ⟨g, 0, none⟩)] w (SrcRet w g (N + 3) fun v => ∃ n : Int, v = .int .i64 n ∧ 167772162 ≤ n ∧ n ≤ 167772164) := by
  go_enter Tryd.func82, Tryd.ntmps82
  go_wp2_with fail
  refine (next_ok g N 3 _ hs hN (by omega)).mono ?_
  rintro e w1 ⟨v, rfl, ⟨x, rfl, hx0, hx1⟩, hs1, hg1⟩
  have hx2 : x ≤ 2 := by omega
  clear hx1
  go_wp2
  go_ret
  exact ⟨_, rfl, ⟨_, rfl, by omega, by omega⟩, hs1, hg1⟩

/-- An element of a new row, drawn. -/
theorem row_cell {w w1 : World} {cs : Array Value} {E : TypeId} {g : Nat} (hg : (w.alloc (.cells cs E)).grownBy w1 (some g)) (hne : g < w.heap.size) (k : Nat) (h : k < cs.size) : w1.cell? ⟨w.heap.size, k, none⟩ = some cs[k] := by
  have h1 := hg.block w.heap.size (by simp) (by simp; omega)
  rw [heap_alloc_new] at h1
  rw [cell_of_row w1 _ k cs E (0, 0) h1]
  simp [h]

set_option maxHeartbeats 1000000 in
theorem wan_ok (g : Nat) (N : Int) (w : World) (hs : Src w g N) (hN : N ≤ 100000000) :
    Calls Tryd.prog 53 #[.pointer (some ⟨g, 0, none⟩)] w (SrcRet w g (N + 3) fun v => ∃ n : Int, v = .int .i64 n ∧ n ∈ [16843009, 84215045, 84215303, 151587081]) := by
  have hlt := hs.lt
  go_enter Tryd.func53, Tryd.ntmps53
  go_wp2_with fail
  refine (next_ok g N 4 _ (src_alloc hs _) hN (by omega)).mono ?_
  rintro e w1 ⟨v, rfl, ⟨x, rfl, hx0, hx1⟩, hs1, hg1⟩
  obtain ⟨k, rfl⟩ := Int.eq_ofNat_of_zero_le hx0
  have hk : k < 4 := by omega
  have hc := row_cell hg1 hlt k hk
  have hk1 : (k : Int) < 4 := by omega
  clear hx1
  go_wp2
  go_ret
  refine ⟨_, rfl, ?_, hs1, World.grownBy.trans (World.grownBy_alloc _ _ _) hg1⟩
  have : k = 0 ∨ k = 1 ∨ k = 2 ∨ k = 3 := by omega
  rcases this with rfl | rfl | rfl | rfl <;> exact ⟨_, rfl, by simp⟩

set_option maxHeartbeats 1000000 in
theorem pick_ok (g : Nat) (N : Int) (w : World) (hs : Src w g N) (hN : N ≤ 100000000) (A : Option Addr) (c : Nat) (ss : List ByteArray) (hss : ss ≠ []) (hl : ss.length ≤ 1000) (hA : ∀ ad, A = some ad → ad.block ≠ g) (hr : Rd w A (ss.map Value.string)) :
    Calls Tryd.prog 103 #[.pointer (some ⟨g, 0, none⟩), .slice A ss.length c] w (SrcRet w g (N + 3) fun v => ∃ s ∈ ss, v = .string s) := by
  have hpos : 0 < ss.length := List.length_pos_iff.2 hss
  have hd : ((ss.length : Int) == 0) = false := by simp; omega
  have Hs := Lib.hid hss
  clear hss
  go_enter Tryd.func103, Tryd.ntmps103
  go_wp2_with fail
  refine (next_ok g N ss.length _ hs hN (by omega)).mono ?_
  rintro e w1 ⟨v, rfl, ⟨x, rfl, hx0, hx1⟩, hs1, hg1⟩
  obtain ⟨k, rfl⟩ := Int.eq_ofNat_of_zero_le hx0
  have hk : k < ss.length := by omega
  obtain ⟨ad, rfl, hc⟩ := (hr.grown hg1 (fun ad e h => hA ad e (by injection h with h; exact h.symm))).at_ (k := k) (by simpa using hk)
  have hc' : w1.cell? (ad.add k) = some (.string ss[k]) := by rw [hc]; simp
  have hk1 : (k : Int) < ss.length := by omega
  clear hx1 hc
  go_wp2
  go_ret
  exact ⟨_, rfl, ⟨_, List.getElem_mem hk, rfl⟩, hs1, hg1⟩
end Go.Proofs.YtmjddgdcokbmeaaDoor
