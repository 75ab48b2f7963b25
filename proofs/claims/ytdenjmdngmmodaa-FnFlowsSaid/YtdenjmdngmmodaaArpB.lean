/- Questions for macs: drawn, written, read. -/
import Derived.Test.YtdenjmdngmmodaaArp
import Derived.Test.YtdenjmdngmmodaaFrame
namespace Go.Proofs.Ytdenjmdngmmodaa
open Go.RowKit
set_option linter.unusedVariables false
set_option linter.unusedSimpArgs false
set_option maxRecDepth 20000
set_option maxHeartbeats 1000000

theorem grown_setRow {a w : World} {row : Option Nat} (h : a.grownBy w row) {g : Nat} (hp : a.heap.size ≤ g) (cs : Array Value) : a.grownBy (w.setRow g cs) row :=
  ⟨h.os, h.tape, h.output, by simpa [World.setRow] using h.size, fun i hi hne => (setRow_other w g i cs (by omega)).trans (h.block i hi hne)⟩
theorem infoArp : (Try.prog.info? 31).map (·.size) = some 5 := by kernel_rfl
def zArp : Array Value := #[.int .i64 0, .string ⟨#[]⟩, .string ⟨#[]⟩, .int .i64 0, .int .i64 0]
structure ArpOK (op : Nat) (sm dm : ByteArray) (si di : Nat) : Prop where
  op1 : 1 ≤ op
  op2 : op ≤ 2
  smac : sm.size = 6
  dmac : dm.size = 6
  sip : si < 4294967296
  dip : di < 4294967296
def ArpV (v : Value) : Prop := ∃ (op : Nat) (sm dm : ByteArray) (si di : Nat), ArpOK op sm dm si di ∧ v = .agg #[.int .i64 op, .string sm, .string dm, .int .i64 si, .int .i64 di]
theorem MacS.size {s : ByteArray} (h : MacS s) : s.size = 6 := by obtain ⟨k, _, _, rfl⟩ := h; rfl

theorem arp_ok (g : Nat) (N : Int) (w : World) (hs : Src w g N) (hN : N ≤ 1000000) :
    Calls Try.prog 56 #[.pointer (some ⟨g, 0, none⟩)] w (SrcRet w g (N + 15) ArpV) := by
  have hlt0 := hs.lt
  go_enter Try.func56, Try.ntmps56
  go_wp2_with fail
  generalize hw0 : World.alloc w (.cells #[.int .i64 0, .string ⟨#[]⟩, .string ⟨#[]⟩, .int .i64 0, .int .i64 0] 31) = w0
  have hblk : w0.heap[World.heap w |>.size]? = some (.cells #[.int .i64 0, .string ⟨#[]⟩, .string ⟨#[]⟩, .int .i64 0, .int .i64 0] 31 (0, 0)) := by rw [← hw0]; exact heap_alloc_new _ _
  have hlt : (World.heap w).size < w0.heap.size := (Array.getElem?_eq_some_iff.1 hblk).1
  have hB0 : Below (World.heap w).size w w0 := by rw [← hw0]; exact (Below.refl _ _).alloc (Nat.le_refl _) _
  clear hw0
  have hs0 := hs.below hB0 hlt0
  refine (next_ok g N 2 _ hs0 (by omega) (by omega)).mono ?_
  rintro e w1 ⟨v, rfl, ⟨x, rfl, hx0, hx1⟩, hs1, hg1⟩
  have hx2 : x ≤ 1 := by omega
  clear hx1
  go_wp2_with fail
  refine (mac_ok g _ _ hs1 (by omega)).mono ?_
  rintro e w2 ⟨v, rfl, ⟨m1, hm1, rfl⟩, hs2, hg2⟩
  go_wp2_with fail
  refine (mac_ok g _ _ hs2 (by omega)).mono ?_
  rintro e w3 ⟨v, rfl, ⟨m2, hm2, rfl⟩, hs3, hg3⟩
  go_wp2_with fail
  refine (lan_ok g _ _ hs3 (by omega)).mono ?_
  rintro e w4 ⟨v, rfl, ⟨a, rfl, ha0, ha1⟩, hs4, hg4⟩
  go_wp2_with fail
  refine (lan_ok g _ _ hs4 (by omega)).mono ?_
  rintro e w5 ⟨v, rfl, ⟨b, rfl, hb0, hb1⟩, hs5, hg5⟩
  have hg := grown_trans hg1 (grown_trans hg2 (grown_trans hg3 (grown_trans hg4 hg5)))
  have hb := (hg.block _ hlt (by simp; omega)).trans hblk
  have hG : w.grownBy w5 (some g) := grown_trans (grownBy_of_below hB0 _) hg
  have Hb := Lib.hid hb
  clear hblk hb hg1 hg2 hg3 hg4 hg5 hs1 hs2 hs3 hs4 hg
  go_wp2_with (refine wpList_store_row rfl _ _ 31 rfl w.heap.size 31 _ _ rfl rfl Hb.out rfl infoArp rfl ?_)
  refine bodyPost_ret (ret_cell rfl rfl (setRow_heap _ _ _ _ _ _ Hb.out) Try.underlying31 rfl infoArp) rfl ?_
  refine ⟨_, rfl, ⟨(1 + x).toNat, m1, m2, a.toNat, b.toNat, ⟨by omega, by omega, hm1.size, hm2.size, by omega, by omega⟩, ?_⟩, (hs5.keep fun k hk => setRow_other _ _ _ _ (by omega)).more (by omega), ?_⟩
  · rw [Int.toNat_of_nonneg (by omega), Int.toNat_of_nonneg (by omega), Int.toNat_of_nonneg (by omega)]
  · exact grown_setRow hG (Nat.le_refl _) _

theorem isAddress_ok (n : Nat) (h : n < 4294967296) (w : World) : Calls Try.prog 69 #[.int .i64 n] w fun e w' => e = .returned (.bool true) ∧ w = w' := by
  go_enter Try.func69, Try.ntmps69
  go_wp2_with fail
  refine (within_ok _ _ _ _).mono ?_
  rintro e w1 ⟨rfl, rfl⟩
  rw [show decide ((0 : Int) ≤ n ∧ (n : Int) ≤ 4294967295) = true from by simp; omega]
  go_wp2
  go_ret
  exact ⟨rfl, rfl⟩
theorem l01In_ok (n lo hi : Int) (w : World) : Calls Try.prog 88 #[.int .i64 n, .int .i64 lo, .int .i64 hi] w fun e w' => e = .returned (.bool (decide (lo ≤ n ∧ n ≤ hi))) ∧ w = w' := by
  by_cases h1 : lo ≤ n
  · by_cases h2 : n ≤ hi
    · rw [show decide (lo ≤ n ∧ n ≤ hi) = true from by simp [h1, h2]]
      go_enter Try.func88, Try.ntmps88
      go_wp2
      go_ret
      simp
    · rw [show decide (lo ≤ n ∧ n ≤ hi) = false from by simp; omega]
      have h3 : decide (n ≤ hi) = false := by simp; omega
      go_enter Try.func88, Try.ntmps88
      go_wp2
      go_ret
      simp
  · rw [show decide (lo ≤ n ∧ n ≤ hi) = false from by simp; omega]
    have h3 : decide (lo ≤ n) = false := by simp; omega
    go_enter Try.func88, Try.ntmps88
    go_wp2
    go_ret
    simp
theorem l01Ip_ok (n : Nat) (h : n < 4294967296) (w : World) : Calls Try.prog 116 #[.int .i64 n] w fun e w' => e = .returned (.bool true) ∧ w = w' := by
  go_enter Try.func116, Try.ntmps116
  go_wp2_with fail
  refine (l01In_ok _ _ _ _).mono ?_
  rintro e w1 ⟨rfl, rfl⟩
  rw [show decide ((0 : Int) ≤ n ∧ (n : Int) ≤ 4294967295) = true from by simp; omega]
  go_wp2
  go_ret
  exact ⟨rfl, rfl⟩

theorem arpOK_true (op : Nat) (sm dm : ByteArray) (si di : Nat) (h : ArpOK op sm dm si di) (w : World) :
    Calls Try.prog 57 #[.agg #[.int .i64 op, .string sm, .string dm, .int .i64 si, .int .i64 di]] w fun e w' => e = .returned (.bool true) ∧ Below w.heap.size w w' := by
  have h1 := mac_true h.smac
  have h2 := mac_true h.dmac
  have h3 : decide ((1 : Int) ≤ op ∧ (op : Int) ≤ 2) = true := by have := h.op1; have := h.op2; simp; omega
  have HK := Lib.hid h
  clear h
  go_enter Try.func57, Try.ntmps57
  go_wp2_with fail
  refine (within_ok _ _ _ _).mono ?_
  rintro e w1 ⟨rfl, rfl⟩
  rw [h3]
  go_wp2_with fail
  refine (macOK_ok sm _).mono ?_
  rintro e w1 ⟨rfl, rfl⟩
  rw [h1]
  go_wp2_with fail
  refine (macOK_ok dm _).mono ?_
  rintro e w1 ⟨rfl, rfl⟩
  rw [h2]
  go_wp2_with fail
  refine (isAddress_ok si HK.out.sip _).mono ?_
  rintro e w1 ⟨rfl, rfl⟩
  go_wp2_with fail
  refine (isAddress_ok di HK.out.dip _).mono ?_
  rintro e w1 ⟨rfl, rfl⟩
  go_wp2
  go_ret
  exact ⟨rfl, (Below.refl _ _).alloc (Nat.le_refl _) _⟩
theorem l02Arp_true (op : Nat) (sm dm : ByteArray) (si di : Nat) (h : ArpOK op sm dm si di) (w : World) :
    Calls Try.prog 59 #[.agg #[.int .i64 op, .string sm, .string dm, .int .i64 si, .int .i64 di]] w fun e w' => e = .returned (.bool true) ∧ Below w.heap.size w w' := by
  have h1 := mac_true h.smac
  have h2 := mac_true h.dmac
  have h3 : decide ((1 : Int) ≤ op ∧ (op : Int) ≤ 2) = true := by have := h.op1; have := h.op2; simp; omega
  have HK := Lib.hid h
  clear h
  go_enter Try.func59, Try.ntmps59
  go_wp2_with fail
  refine (l01In_ok _ _ _ _).mono ?_
  rintro e w1 ⟨rfl, rfl⟩
  rw [h3]
  go_wp2_with fail
  refine (l01Mac_ok sm _).mono ?_
  rintro e w1 ⟨rfl, rfl⟩
  rw [h1]
  go_wp2_with fail
  refine (l01Mac_ok dm _).mono ?_
  rintro e w1 ⟨rfl, rfl⟩
  rw [h2]
  go_wp2_with fail
  refine (l01Ip_ok si HK.out.sip _).mono ?_
  rintro e w1 ⟨rfl, rfl⟩
  go_wp2_with fail
  refine (l01Ip_ok di HK.out.dip _).mono ?_
  rintro e w1 ⟨rfl, rfl⟩
  go_wp2
  go_ret
  exact ⟨rfl, (Below.refl _ _).alloc (Nat.le_refl _) _⟩
end Go.Proofs.Ytdenjmdngmmodaa
