/- Connections: bytes drawn. -/
import Derived.Test.YtdenjmdngmmodaaCn
namespace Go.Proofs.Ytdenjmdngmmodaa
open Go.RowKit
set_option linter.unusedVariables false
set_option linter.unusedSimpArgs false
set_option maxRecDepth 20000
set_option maxHeartbeats 600000

theorem bytes_ok (g : Nat) (N : Int) (n : Nat) (hn : n ≤ 1000) (w : World) (hs : Src w g N) (hN : N ≤ 1000000) :
    Calls Try.prog 68 #[.pointer (some ⟨g, 0, none⟩), .int .i64 n] w fun e w' => ∃ (v : Value) (bs : List UInt8), e = .returned v ∧ bs.length ≤ n ∧ w'.ownsRow w.heap.size 5 1 v bs.length (bs.map bV) ∧ Src w' g (N + 3 + 3 * n) ∧ w.grownBy w' (some g) := by
  have hlt0 := hs.lt
  have hnI : (n : Int) ≤ 1000 := by omega
  go_enter Try.func68, Try.ntmps68
  go_wp2_with fail
  have hown : (w.alloc (.cells #[] 5)).ownsRow w.heap.size 5 1 (.slice (some ⟨w.heap.size, 0, none⟩) 0 0) ([] : List UInt8).length (([] : List UInt8).map bV) := World.ownsRow_lit w #[] 0 (Nat.le_refl _) (by simp [maxLen]) (by simp)
  have hs0 := src_alloc hs (.cells #[] 5)
  have hg0 : w.grownBy (w.alloc (.cells #[] 5)) (some g) := World.grownBy_alloc _ _ _
  generalize w.alloc (.cells #[] 5) = w0 at hown hs0 hg0 ⊢
  refine (next_ok g N (n + 1) _ hs0 (by omega) (by omega)).mono ?_
  rintro e w1 ⟨v, rfl, ⟨x, rfl, hx0, hx1⟩, hs1, hg1⟩
  obtain ⟨k, rfl⟩ := Int.eq_ofNat_of_zero_le hx0
  have hk : k ≤ n := by omega
  have hown1 := hown.kept hg1 (Or.inr (by intro e; have := (hown.lt g e).1; omega))
  have hG := grown_trans hg0 hg1
  clear hx0 hx1 hown hs0 hg0 hg1
  go_wp2_with fail
  go_loopw [5, 6] (fun v i wr => ∃ (j : Nat) (bs : List UInt8), bs.length + j ≤ n ∧ i = .int .i64 j ∧ wr.ownsRow w.heap.size 5 1 v bs.length (bs.map bV) ∧ Src wr g (N + 3 + 3 * bs.length) ∧ w.grownBy wr (some g)) (fun _ i _ => (intOf i).toNat)
  case atStart => exact ⟨k, [], by simpa using hk, rfl, hown1, by simpa using hs1, hG⟩
  case round =>
    obtain ⟨j, bs, hj, rfl, hown, hs2, hg2⟩ := hrel
    by_cases hj0 : 0 < j
    · have hj1 : (0 : Int) < j := by omega
      have hj2 : (j : Int) ≤ 1000 := by omega
      have HO := Lib.hid hown
      clear hown
      go_wp2_with fail
      refine (next_ok g (N + 3 + 3 * bs.length) 256 _ hs2 (by omega) (by omega)).mono ?_
      rintro e w3 ⟨v, rfl, ⟨x, rfl, hx0, hx1⟩, hs3, hg3⟩
      have hx2 : x ≤ 255 := by omega
      clear hx1
      go_wp2_with (at_builtin; refine Hid.out ?_)
      refine Lib.hid ?_
      have hwr : w.heap.size ≤ wr.heap.size := hg2.size
      have hown4 := HO.out.kept hg3 (by
        cases hv : u5.ownBlock with
        | none => exact Or.inl rfl
        | some b => exact Or.inr (by intro e; cases e; have := (HO.out.lt _ hv).1; omega))
      obtain ⟨y, hy⟩ : ∃ y : UInt8, Value.int .u8 x = bV y := ⟨UInt8.ofNat x.toNat, by simp only [bV, UInt8.toNat_ofNat']; congr 1; omega⟩
      rw [hy]
      have hs4 := src_alloc hs3 (.cells #[bV y] 5)
      have hg4 : w3.grownBy (w3.alloc (.cells #[bV y] 5)) (some g) := World.grownBy_alloc _ _ _
      have hown5 := hown4.alloc (.cells #[bV y] 5)
      have hrd : Rd (w3.alloc (.cells #[bV y] 5)) (some ⟨w3.heap.size, 0, none⟩) ([y].map bV) := by simpa using Rd.block (heap_alloc_new w3 (.cells #[bV y] 5)) 0
      have hGt := grown_trans hg2 (grown_trans hg3 hg4)
      have hsz3 : w.heap.size ≤ (w3.alloc (.cells #[bV y] 5)).heap.size := hGt.size
      generalize w3.alloc (.cells #[bV y] 5) = w4 at hs4 hown5 hrd hGt hsz3 ⊢
      obtain ⟨v6, w6, hrun, hown6, hg6⟩ := append_bytes w4 w.heap.size u5 bs hown5 (some ⟨w3.heap.size, 0, none⟩) 1 [y] hrd (by simp; omega) hsz3
      have hB6 : Below w.heap.size w4 w6 := (Below.refl _ _).grown hg6 hsz3 (fun k e => (hown5.lt k e).1)
      have hs6 := hs4.below hB6 hlt0
      have hG6 : w.grownBy w6 (some g) := ⟨hB6.os.trans hGt.os, hB6.tape.trans hGt.tape, hB6.output.trans hGt.output, Nat.le_trans hGt.size hB6.size, fun i hi hne => (hB6.block i hi).trans (hGt.block i hi hne)⟩
      refine wpList_append_run rfl _ _ _ _ rfl rfl rfl hrun ?_
      clear hrun hown5 hrd hs4 hg4 hs3 hg3 hown4 hg6 hB6 hGt
      go_wp2
      go_roundw
      case rel => exact ⟨j - 1, bs ++ [y], by simp; omega, by congr 1; omega, hown6, by have := hs6.more (show N + 3 + 3 * (bs.length : Int) + 3 ≤ N + 3 + 3 * ((bs ++ [y]).length : Int) by simp; omega); exact this, hG6⟩
      case measure => simp [intOf]; omega
    · obtain rfl : j = 0 := by omega
      have HO := Lib.hid (And.intro hown (And.intro hs2 hg2))
      clear hown hs2 hg2
      go_wp2
      go_ret
      exact ⟨_, bs, rfl, by omega, HO.out.1, HO.out.2.1.more (by omega), HO.out.2.2⟩

theorem BytesOf_ok (A : Option Addr) (c : Nat) (bs : List UInt8) (hl : bs.length ≤ 1099511627776) (n : Nat) (hn : n ≤ 1000) (w : World) (hr : Rd w A (bs.map bV)) :
    Calls Try.prog 22 #[.slice A bs.length c, .int .i64 n] w fun e w' => ∃ (v : Value) (ns : List UInt8), e = .returned v ∧ ns.length ≤ n ∧ w'.ownsRow w.heap.size 5 1 v ns.length (ns.map bV) ∧ Below w.heap.size w w' := by
  go_enter Try.func22, Try.ntmps22
  go_wp2_with fail
  refine (l00Source_ok A c bs hl w hr).mono ?_
  rintro e w1 ⟨rfl, hs, hB1⟩
  go_wp2_with fail
  refine (bytes_ok w.heap.size 0 n hn w1 hs (by omega)).mono ?_
  rintro e w2 ⟨v, ns, rfl, hl2, hown, hs2, hg⟩
  have hB2 : Below w.heap.size w w2 := Below.grown hB1 hg hB1.size (fun k e => by cases e; exact Nat.le_refl _)
  have HO := Lib.hid (own_base hown (B' := w.heap.size) hB1.size)
  clear hown hs2
  go_wp2
  go_ret
  exact ⟨v, ns, rfl, hl2, HO.out, hB2⟩
end Go.Proofs.Ytdenjmdngmmodaa
