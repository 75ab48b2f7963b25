/- The gateway's tests: guests, spec's. -/
import Derived.Test.YthlebalbiokjpaaGreatKhGj
namespace Go.Proofs.YthlebalbiokjpaaGreat
open Go.RowKit
set_option linter.unusedVariables false
set_option maxRecDepth 100000
set_option maxHeartbeats 1000000

/-- Two sessions, one ahead of the other. -/
def pairM (y x : XSession) : Bool := bif decide (y.id ≥ x.id) then false else !(clashM y x)
def I_GsI (c : Cd.ty ((cA0 .config))) (g : Cd.ty ((cA0 .guests))) (j : Nat) (z : Int) : St := ⟨fr 273 [(2, .box 0 0), (3, .box 1 0), (5, .I (j : Nat)), (6, .box 2 0), (7, .I z)], [⟨44, .cells (row .config c), false, false⟩, ⟨50, .cells (row .guests g), false, false⟩, ⟨131, .cells (row .session (gS g.sessions j)), false, false⟩]⟩
theorem r_GsI (c : Cd.ty ((cA0 .config))) (g : Cd.ty ((cA0 .guests))) (j : Nat) (hn : g.sessions.length ≤ 3) (hj : j < g.sessions.length) (h0 : 0 ≤ j) : Sat Tryz.prog 0 (.loop (lpb Tryz.f43 1)) (I_GsI c g j (0 : Nat)) (bif allF (fun i => pairM (gS g.sessions i) (gS g.sessions j)) (j) 0 then .exit 2 ⟨fr 273 [(2, .box 0 0), (3, .box 1 0), (5, .I (j : Nat))], [⟨44, .cells (row .config c), false, false⟩, ⟨50, .cells (row .guests g), false, false⟩]⟩ else .ret ⟨fr 273 [(4, .v (.bool false))], []⟩) :=
  sat_all (j) 0 h0 (I_GsI c g j) (fun i => pairM (gS g.sessions i) (gS g.sessions j)) 2 _ _ fun k h0 hk =>
    rnd_sat (v := ⟨[2, 3, 5, 6, 7], ids 3, [2, 3, 5], ids 2, [4], []⟩) G24_ok hmx (noLoops (n := 2) (by kernel_rfl)) (n := 2) (L := fun _ _ => none) (SfO.bads (b := bif decide ((k : Int) < (j : Nat)) then (bif decide ((k : Int) < g.sessions.length) then false else true) else false) (by kernel_rfl) ((by
    by_cases hlt : k < j
    · rw [show decide ((k : Int) < (j : Nat)) = true from bnd hlt, show decide ((k : Int) < g.sessions.length) = true from bnd (Nat.lt_trans hlt hj)]; rfl
    · rw [show decide ((k : Int) < (j : Nat)) = false from by simpa using hlt]; rfl)) (by kernel_rfl))
      ((by kernel_rfl : _ = (bif decide ((k : Int) < (j : Nat)) then (bif decide ((k : Int) < g.sessions.length) then (bif decide ((gS g.sessions k).id ≥ (gS g.sessions j).id) then .ret ⟨fr 273 [(4, .v (.bool false))], []⟩ else bif (gS g.sessions k).user == (gS g.sessions j).user then .ret ⟨fr 273 [(4, .v (.bool false))], []⟩ else bif (gS g.sessions k).mac.toList == (gS g.sessions j).mac.toList then .ret ⟨fr 273 [(4, .v (.bool false))], []⟩ else bif (gS g.sessions k).ip == (gS g.sessions j).ip then .ret ⟨fr 273 [(4, .v (.bool false))], []⟩ else .nrm (I_GsI c g j (wr (k + 1)))) else default) else .exit 2 ⟨fr 273 [(2, .box 0 0), (3, .box 1 0), (5, .I (j : Nat))], [⟨44, .cells (row .config c), false, false⟩, ⟨50, .cells (row .guests g), false, false⟩]⟩)).trans (all_eq fun hk => ((by
    rw [bnd (Nat.lt_trans hk hj), wrs hk (by omega)]
    unfold pairM clashM
    cases decide ((gS g.sessions k).id ≥ (gS g.sessions j).id) <;> cases (gS g.sessions k).user == (gS g.sessions j).user <;> cases (gS g.sessions k).mac.toList == (gS g.sessions j).mac.toList <;> cases (gS g.sessions k).ip == (gS g.sessions j).ip <;> rfl))))
def S_GsI (c : Cd.ty ((cA0 .config))) (g : Cd.ty ((cA0 .guests))) (j : Nat) : LoopSpec := ⟨[2, 3, 5, 6, 7], ids 3, I_GsI c g j (0 : Nat), (.node (decide (g.sessions.length ≤ 3) && decide (j < g.sessions.length)) (.node (allF (fun i => pairM (gS g.sessions i) (gS g.sessions j)) (j) 0) (.leaf (.exit 2 ⟨fr 273 [(2, .box 0 0), (3, .box 1 0), (5, .I (j : Nat))], [⟨44, .cells (row .config c), false, false⟩, ⟨50, .cells (row .guests g), false, false⟩]⟩)) (.leaf (.ret ⟨fr 273 [(4, .v (.bool false))], []⟩))) .bad), []⟩
theorem z_GsI (c : Cd.ty ((cA0 .config))) (g : Cd.ty ((cA0 .guests))) (j : Nat)  : SpecOk Tryz.prog Tryz.f43 1 ⟨[2, 3, 5, 6, 7], ids 3, I_GsI c g j (0 : Nat), (.node (decide (g.sessions.length ≤ 3) && decide (j < g.sessions.length)) (.node (allF (fun i => pairM (gS g.sessions i) (gS g.sessions j)) (j) 0) (.leaf (.exit 2 ⟨fr 273 [(2, .box 0 0), (3, .box 1 0), (5, .I (j : Nat))], [⟨44, .cells (row .config c), false, false⟩, ⟨50, .cells (row .guests g), false, false⟩]⟩)) (.leaf (.ret ⟨fr 273 [(4, .v (.bool false))], []⟩))) .bad), []⟩ := .mkW fun hq => r_GsI c g j (of_decide_eq_true (and2 hq).1) (of_decide_eq_true (and2 hq).2) (Nat.zero_le _)
end Go.Proofs.YthlebalbiokjpaaGreat
