/- The law's comparisons: roles. -/
import Derived.Test.YthlebalbiokjpaaGreatKhGu
namespace Go.Proofs.YthlebalbiokjpaaGreat
open Go.RowKit
set_option linter.unusedVariables false
set_option maxRecDepth 100000

def qRole (f g : XRole) : Bool := (f.name.toList == g.name.toList) && (V_eqRuleS f.rules g.rules && (f.quota == g.quota && (f.minutes == g.minutes && (f.idle == g.idle && true))))
def c_eqRole : Entry := ent2 (cA0 .role) (cA0 .role) fun f g => (.when (small f.rules), .b (qRole f g))
theorem o_eqRole : ∀ f g, (small f.rules) = true → OkC Tryz.prog 171 [(cA0 .role).enc f, (cA0 .role).enc g] (.b (qRole f g)) := fun f g hq =>
  have hs : Sf (fnT Tryz.prog G43 (fun _ _ => none) Tryz.f171 (bd Tryz.f171) [(cA0 .role).enc f, (cA0 .role).enc g]) := Sf.bads (b := (f.name.toList == g.name.toList) && (bif small f.rules then false else true)) (by kernel_rfl) ((by rw [hq]; cases f.name.toList == g.name.toList <;> rfl)) (by kernel_rfl)
  (show ((f.name.toList == g.name.toList) && (bif small f.rules then (V_eqRuleS f.rules g.rules && (f.quota == g.quota && (f.minutes == g.minutes && (f.idle == g.idle && true)))) else false)) = (qRole f g) from (by unfold qRole; rw [hq]; rfl)) ▸ (OkC.b (fn_ok0 G43_ok hmx Tryz.func171 (bd_eq (by kernel_rfl)) _ hs) hs (by kernel_rfl) (by kernel_rfl) : OkC Tryz.prog 171 [(cA0 .role).enc f, (cA0 .role).enc g] (.b ((f.name.toList == g.name.toList) && (bif small f.rules then (V_eqRuleS f.rules g.rules && (f.quota == g.quota && (f.minutes == g.minutes && (f.idle == g.idle && true)))) else false))))
theorem e_eqRole : EOk Tryz.prog 171 c_eqRole := ent2_ok Tryz.call171 fun f g hq => o_eqRole f g hq
def G44 : Ctx := G43.add [(171, c_eqRole)]
theorem G44_ok : COk Tryz.prog G44 := G43_ok.add (CsOk.cons e_eqRole (CsOk.nil))
end Go.Proofs.YthlebalbiokjpaaGreat
