/- An address of the wide side that is drawn. -/
import Derived.Test.YtmjddgdcokbmeaaDoorOf
namespace Go.Proofs.YtmjddgdcokbmeaaDoor
open Go.RowKit
set_option linter.unusedVariables false
set_option linter.unusedSimpArgs false
set_option maxRecDepth 20000
set_option maxHeartbeats 1000000

theorem WanOf_ok (A : Option Addr) (c : Nat) (bs : List UInt8) (hl : bs.length ≤ 1099511627776) (w : World) (hr : Rd w A (bs.map bV)) :
    Calls Tryd.prog 16 #[.slice A bs.length c] w fun e w' => ∃ n : Nat, e = .returned (.int .i64 n) ∧ n < 4294967296 ∧ Below w.heap.size w w' := by
  go_enter Tryd.func16, Tryd.ntmps16
  go_wp2_with fail
  refine (l00Source_ok A c bs hl w hr).mono ?_
  rintro e w1 ⟨rfl, hs, hB1⟩
  go_wp2_with fail
  refine (wan_ok w.heap.size 0 w1 hs (by omega)).mono ?_
  rintro e w2 ⟨v, rfl, ⟨n, rfl, h0⟩, hs2, hg⟩
  have h1 : 0 ≤ n ∧ n < 4294967296 := by simp at h0; omega
  have hB2 : Below w.heap.size w w2 := Below.grown hB1 hg hB1.size (fun k e => by cases e; exact Nat.le_refl _)
  clear h0
  go_wp2
  go_ret
  exact ⟨n.toNat, by rw [Int.toNat_of_nonneg (by omega)]; rfl, by omega, hB2⟩
end Go.Proofs.YtmjddgdcokbmeaaDoor
