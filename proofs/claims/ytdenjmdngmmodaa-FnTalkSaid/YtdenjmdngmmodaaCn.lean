/- Connections: the small calls, and what is drawn for them. -/
import Derived.Test.YtdenjmdngmmodaaFnPk
namespace Go.Proofs.Ytdenjmdngmmodaa
open Go.RowKit
set_option linter.unusedVariables false
set_option linter.unusedSimpArgs false
set_option maxRecDepth 20000
set_option maxHeartbeats 600000

structure SegOK (a b s k f p : Nat) (d : ByteArray) : Prop where
  src : a < 65536
  dst : b < 65536
  seq : s < 4294967296
  ack : k < 4294967296
  flags : f < 32
  space : p < 65536
  data : d.size ≤ 360
theorem segmentOK_true (a b s k f p : Nat) (d : ByteArray) (h : SegOK a b s k f p d) (w : World) :
    Calls Try.prog 70 #[.agg #[.int .i64 a, .int .i64 b, .int .i64 s, .int .i64 k, .int .i64 f, .int .i64 p, .string d]] w fun e w' => e = .returned (.bool true) ∧ Below w.heap.size w w' := by
  have h3 : decide ((0 : Int) ≤ f ∧ (f : Int) ≤ 31) = true := by have := h.flags; simp; omega
  have hb : (d.size : Int) ≤ 360 := by have := h.data; omega
  have HK := Lib.hid (And.intro h h3)
  clear h h3
  go_enter Try.func70, Try.ntmps70
  go_wp2_with fail
  refine (isPort_ok a HK.out.1.src _).mono ?_
  rintro e w1 ⟨rfl, rfl⟩
  go_wp2_with fail
  refine (isPort_ok b HK.out.1.dst _).mono ?_
  rintro e w1 ⟨rfl, rfl⟩
  go_wp2_with fail
  refine (isAddress_ok s HK.out.1.seq _).mono ?_
  rintro e w1 ⟨rfl, rfl⟩
  go_wp2_with fail
  refine (isAddress_ok k HK.out.1.ack _).mono ?_
  rintro e w1 ⟨rfl, rfl⟩
  go_wp2_with fail
  refine (within_ok _ _ _ _).mono ?_
  rintro e w1 ⟨rfl, rfl⟩
  rw [HK.out.2]
  go_wp2_with fail
  refine (isPort_ok p HK.out.1.space _).mono ?_
  rintro e w1 ⟨rfl, rfl⟩
  go_wp2
  go_ret
  exact ⟨rfl, (Below.refl _ _).alloc (Nat.le_refl _) _⟩

/-- How far a number lies behind another one. -/
def bhd (a b : Nat) : Nat := (a + 4294967296 - b) % 4294967296
theorem behind_ok (a b : Nat) (ha : a < 4294967296) (hb : b < 4294967296) (w : World) : Calls Try.prog 81 #[.int .i64 a, .int .i64 b] w fun e w' => e = .returned (.int .i64 (bhd a b)) ∧ w = w' := by
  have t1 : ((a : Int) - b + 4294967296).tmod 4294967296 = (bhd a b : Int) := by rw [Int.tmod_eq_emod_of_nonneg (by omega)]; unfold bhd; omega
  have t2 : ((a : Int) - b + 4294967296) % 4294967296 = (bhd a b : Int) := by unfold bhd; omega
  have a1 : (a : Int) < 4294967296 := by omega
  have b1 : (b : Int) < 4294967296 := by omega
  go_enter Try.func81, Try.ntmps81
  go_wp2
  go_ret
  exact ⟨rfl, rfl⟩

theorem MacOf_ok (A : Option Addr) (c : Nat) (bs : List UInt8) (hl : bs.length ≤ 1099511627776) (w : World) (hr : Rd w A (bs.map bV)) :
    Calls Try.prog 24 #[.slice A bs.length c] w fun e w' => ∃ s, e = .returned (.string s) ∧ MacS s ∧ Below w.heap.size w w' := by
  go_enter Try.func24, Try.ntmps24
  go_wp2_with fail
  refine (l00Source_ok A c bs hl w hr).mono ?_
  rintro e w1 ⟨rfl, hs, hB1⟩
  go_wp2_with fail
  refine (mac_ok w.heap.size 0 w1 hs (by omega)).mono ?_
  rintro e w2 ⟨v, rfl, ⟨m, hm, rfl⟩, hs2, hg⟩
  have hB2 : Below w.heap.size w w2 := Below.grown hB1 hg hB1.size (fun k e => by cases e; exact Nat.le_refl _)
  go_wp2
  go_ret
  exact ⟨m, rfl, hm, hB2⟩
theorem LanOf_ok (A : Option Addr) (c : Nat) (bs : List UInt8) (hl : bs.length ≤ 1099511627776) (w : World) (hr : Rd w A (bs.map bV)) :
    Calls Try.prog 25 #[.slice A bs.length c] w fun e w' => ∃ n : Nat, e = .returned (.int .i64 n) ∧ n < 4294967296 ∧ Below w.heap.size w w' := by
  go_enter Try.func25, Try.ntmps25
  go_wp2_with fail
  refine (l00Source_ok A c bs hl w hr).mono ?_
  rintro e w1 ⟨rfl, hs, hB1⟩
  go_wp2_with fail
  refine (lan_ok w.heap.size 0 w1 hs (by omega)).mono ?_
  rintro e w2 ⟨v, rfl, ⟨n, rfl, h0, h1⟩, hs2, hg⟩
  have hB2 : Below w.heap.size w w2 := Below.grown hB1 hg hB1.size (fun k e => by cases e; exact Nat.le_refl _)
  go_wp2
  go_ret
  exact ⟨n.toNat, by rw [Int.toNat_of_nonneg (by omega)]; rfl, by omega, hB2⟩
theorem WanOf_ok (A : Option Addr) (c : Nat) (bs : List UInt8) (hl : bs.length ≤ 1099511627776) (w : World) (hr : Rd w A (bs.map bV)) :
    Calls Try.prog 26 #[.slice A bs.length c] w fun e w' => ∃ n : Nat, e = .returned (.int .i64 n) ∧ n < 4294967296 ∧ Below w.heap.size w w' := by
  go_enter Try.func26, Try.ntmps26
  go_wp2_with fail
  refine (l00Source_ok A c bs hl w hr).mono ?_
  rintro e w1 ⟨rfl, hs, hB1⟩
  go_wp2_with fail
  refine (wan_ok w.heap.size 0 w1 hs (by omega)).mono ?_
  rintro e w2 ⟨v, rfl, ⟨n, rfl, h0⟩, hs2, hg⟩
  have h1 : 0 ≤ n ∧ n < 4294967296 := by simp at h0; omega
  have hB2 : Below w.heap.size w w2 := Below.grown hB1 hg hB1.size (fun k e => by cases e; exact Nat.le_refl _)
  clear h0
  go_wp2
  go_ret
  exact ⟨n.toNat, by rw [Int.toNat_of_nonneg (by omega)]; rfl, by omega, hB2⟩
end Go.Proofs.Ytdenjmdngmmodaa
