/- A mac that is drawn. -/
import Derived.Test.YtmjddgdcokbmeaaDoorOf
namespace Go.Proofs.YtmjddgdcokbmeaaDoor
open Go.RowKit
set_option linter.unusedVariables false
set_option linter.unusedSimpArgs false
set_option maxRecDepth 20000
set_option maxHeartbeats 1000000

theorem MacOf_ok (A : Option Addr) (c : Nat) (bs : List UInt8) (hl : bs.length ≤ 1099511627776) (w : World) (hr : Rd w A (bs.map bV)) :
    Calls Tryd.prog 20 #[.slice A bs.length c] w fun e w' => ∃ s, e = .returned (.string s) ∧ MacS s ∧ Below w.heap.size w w' := by
  go_enter Tryd.func20, Tryd.ntmps20
  go_wp2_with fail
  refine (l00Source_ok A c bs hl w hr).mono ?_
  rintro e w1 ⟨rfl, hs, hB1⟩
  go_wp2_with fail
  refine (mac_ok w.heap.size 0 w1 hs (by omega)).mono ?_
  rintro e w2 ⟨v, rfl, ⟨m, hm, rfl⟩, hs2, hg⟩
  have hB2 : Below w.heap.size w w2 := Below.grown hB1 hg hB1.size (fun k e => by cases e; exact Nat.le_refl _)
  go_wp2
  go_ret
  exact ⟨m, rfl, hm, hB2⟩
end Go.Proofs.YtmjddgdcokbmeaaDoor
