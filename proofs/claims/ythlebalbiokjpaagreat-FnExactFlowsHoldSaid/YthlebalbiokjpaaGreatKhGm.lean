/- The gateway's tests: guests, spec's: fails and records. -/
import Derived.Test.YthlebalbiokjpaaGreatKhGj
namespace Go.Proofs.YthlebalbiokjpaaGreat
open Go.RowKit
set_option linter.unusedVariables false
set_option maxRecDepth 100000

def I_GsF (c : Cd.ty ((cA0 .config))) (g : Cd.ty ((cA0 .guests))) (z : Int) : St := ⟨fr 273 [(2, .box 0 0), (3, .box 1 0), (9, .I z)], [⟨44, .cells (row .config c), false, false⟩, ⟨50, .cells (row .guests g), false, false⟩]⟩
theorem r_GsF (c : Cd.ty ((cA0 .config))) (g : Cd.ty ((cA0 .guests))) (hn : g.fails.length ≤ 20)  (h0 : 0 ≤ g.fails.length) : Sat Tryz.prog 0 (.loop (lpb Tryz.f43 2)) (I_GsF c g (0 : Nat)) (bif allF (fun i => failsM g.fails i) (g.fails.length) 0 then .exit 4 ⟨fr 273 [(2, .box 0 0), (3, .box 1 0)], [⟨44, .cells (row .config c), false, false⟩, ⟨50, .cells (row .guests g), false, false⟩]⟩ else .ret ⟨fr 273 [(4, .v (.bool false))], []⟩) :=
  sat_all (g.fails.length) 0 h0 (I_GsF c g) (fun i => failsM g.fails i) 4 _ _ fun k h0 hk =>
    rnd_sat (v := ⟨[2, 3, 9], ids 2, [2, 3], ids 2, [4], []⟩) G24_ok hmx (noLoops (n := 3) (by kernel_rfl)) (n := 3) (L := fun _ _ => none) (SfO.bads (b := bif decide ((k : Int) < g.fails.length) then (bif decide ((k : Int) < g.fails.length) then (bif mac_ (gF g.fails k).mac then (bif w_ (gF g.fails k).count 0 2 then (bif w_ (gF g.fails k).until_ 0 100010 then (bif decide ((k : Int) > 0) then (bif decide ((0 : Int) ≤ wr (k - 1)) then (bif decide (wr (k - 1) < g.fails.length) then false else true) else true) else false) else false) else false) else false) else true) else false) (by kernel_rfl) ((by
    by_cases hlt : k < g.fails.length
    · rw [bnd hlt]
      cases mac_ (gF g.fails k).mac <;> cases w_ (gF g.fails k).count 0 2 <;> cases w_ (gF g.fails k).until_ 0 100010 <;> cases h : decide ((k : Int) > 0) <;> try rfl
      rw [(ahead hlt (by omega) h).1, (ahead hlt (by omega) h).2]; rfl
    · rw [show decide ((k : Int) < g.fails.length) = false from by simpa using hlt]; rfl)) (by kernel_rfl))
      ((by kernel_rfl : _ = (bif decide ((k : Int) < (g.fails.length : Nat)) then (bif decide ((k : Int) < g.fails.length) then (bif mac_ (gF g.fails k).mac then (bif w_ (gF g.fails k).count 0 2 then (bif w_ (gF g.fails k).until_ 0 100010 then (bif decide ((k : Int) > 0) then (bif decide ((0 : Int) ≤ wr (k - 1)) then (bif decide (wr (k - 1) < g.fails.length) then (bif Op.bytesLess (gF g.fails (wr ((k : Int) - 1)).toNat).mac.toList (gF g.fails k).mac.toList then .nrm (I_GsF c g (wr (k + 1))) else .ret ⟨fr 273 [(4, .v (.bool false))], []⟩) else default) else default) else .nrm (I_GsF c g (wr (k + 1)))) else .ret ⟨fr 273 [(4, .v (.bool false))], []⟩) else .ret ⟨fr 273 [(4, .v (.bool false))], []⟩) else .ret ⟨fr 273 [(4, .v (.bool false))], []⟩) else default) else .exit 4 ⟨fr 273 [(2, .box 0 0), (3, .box 1 0)], [⟨44, .cells (row .config c), false, false⟩, ⟨50, .cells (row .guests g), false, false⟩]⟩)).trans (all_eq fun hk => ((by
    rw [bnd hk, wrs hk (by omega)]
    unfold failsM geS failOK
    cases mac_ (gF g.fails k).mac <;> cases w_ (gF g.fails k).count 0 2 <;> cases w_ (gF g.fails k).until_ 0 100010 <;> cases h : decide ((k : Int) > 0) <;> try rfl
    rw [(ahead hk (by omega) h).1, (ahead hk (by omega) h).2]
    cases Op.bytesLess (gF g.fails (wr ((k : Int) - 1)).toNat).mac.toList (gF g.fails k).mac.toList <;> rfl))))
def S_GsF (c : Cd.ty ((cA0 .config))) (g : Cd.ty ((cA0 .guests))) : LoopSpec := ⟨[2, 3, 9], ids 2, I_GsF c g (0 : Nat), (.node (decide (g.fails.length ≤ 20)) (.node (allF (fun i => failsM g.fails i) (g.fails.length) 0) (.leaf (.exit 4 ⟨fr 273 [(2, .box 0 0), (3, .box 1 0)], [⟨44, .cells (row .config c), false, false⟩, ⟨50, .cells (row .guests g), false, false⟩]⟩)) (.leaf (.ret ⟨fr 273 [(4, .v (.bool false))], []⟩))) .bad), []⟩
theorem z_GsF (c : Cd.ty ((cA0 .config))) (g : Cd.ty ((cA0 .guests)))  : SpecOk Tryz.prog Tryz.f43 2 ⟨[2, 3, 9], ids 2, I_GsF c g (0 : Nat), (.node (decide (g.fails.length ≤ 20)) (.node (allF (fun i => failsM g.fails i) (g.fails.length) 0) (.leaf (.exit 4 ⟨fr 273 [(2, .box 0 0), (3, .box 1 0)], [⟨44, .cells (row .config c), false, false⟩, ⟨50, .cells (row .guests g), false, false⟩]⟩)) (.leaf (.ret ⟨fr 273 [(4, .v (.bool false))], []⟩))) .bad), []⟩ := .mkW fun hq => r_GsF c g (of_decide_eq_true hq) (Nat.zero_le _)
abbrev gR (l : List XRecord) (k : Nat) : XRecord := l.getD k (elDef .record)
theorem record_way {g : XGuests} {r : XRecord} : recordOK g r = (w_ r.id 1 (wr (g.next - 1)) && (w_ r.at_ 0 100000 && (w_ r.bytes 0 1000000 && ((r.stop == decide (r.cause > 0)) && (w_ r.cause 0 6 && (bif r.stop then true else r.bytes == 0)))))) := by
  unfold recordOK
  congr 1; congr 1
  cases w_ r.bytes 0 1000000 <;> try rfl
  cases r.stop
  · show (r.cause == 0 && r.bytes == 0) = _
    by_cases h : r.cause = 0
    · rw [h]; rfl
    · rw [show (r.cause == 0) = false from by simpa using h]
      by_cases h1 : r.cause > 0
      · rw [show decide (r.cause > 0) = true from by simpa using h1]; rfl
      · rw [show decide (r.cause > 0) = false from by simpa using h1, show w_ r.cause 0 6 = false from by unfold w_; simp; omega]; rfl
  · show w_ r.cause 1 6 = (true == decide (r.cause > 0) && (w_ r.cause 0 6 && true))
    unfold w_
    by_cases h1 : r.cause > 0
    · rw [show decide (r.cause > 0) = true from by simpa using h1, show decide (r.cause ≥ 1) = true from by simp; omega, show decide (r.cause ≥ 0) = true from by simp; omega]; simp
    · rw [show decide (r.cause > 0) = false from by simpa using h1, show decide (r.cause ≥ 1) = false from by simp; omega]; rfl
def I_GsR (c : Cd.ty ((cA0 .config))) (g : Cd.ty ((cA0 .guests))) (z : Int) : St := ⟨fr 273 [(2, .box 0 0), (3, .box 1 0), (11, .I z)], [⟨44, .cells (row .config c), false, false⟩, ⟨50, .cells (row .guests g), false, false⟩]⟩
theorem r_GsR (c : Cd.ty ((cA0 .config))) (g : Cd.ty ((cA0 .guests))) (hn : g.records.length ≤ 60)  (h0 : 0 ≤ g.records.length) : Sat Tryz.prog 0 (.loop (lpb Tryz.f43 3)) (I_GsR c g (0 : Nat)) (bif allF (fun i => recsM g i) (g.records.length) 0 then .exit 6 ⟨fr 273 [], []⟩ else .ret ⟨fr 273 [(4, .v (.bool false))], []⟩) :=
  sat_all (g.records.length) 0 h0 (I_GsR c g) (fun i => recsM g i) 6 _ _ fun k h0 hk =>
    rnd_sat (v := ⟨[2, 3, 11], ids 2, [], ids 0, [4], []⟩) G24_ok hmx (noLoops (n := 4) (by kernel_rfl)) (n := 4) (L := fun _ _ => none) (SfO.bads (b := bif decide ((k : Int) < g.records.length) then (bif decide ((k : Int) < g.records.length) then false else true) else false) (by kernel_rfl) ((by cases decide ((k : Int) < g.records.length) <;> rfl)) (by kernel_rfl))
      ((by kernel_rfl : _ = (bif decide ((k : Int) < (g.records.length : Nat)) then (bif decide ((k : Int) < g.records.length) then (bif w_ (gR g.records k).id 1 (wr (g.next - 1)) then (bif w_ (gR g.records k).at_ 0 100000 then (bif w_ (gR g.records k).bytes 0 1000000 then (bif ((gR g.records k).stop == decide ((gR g.records k).cause > 0)) then (bif w_ (gR g.records k).cause 0 6 then (bif (gR g.records k).stop then .nrm (I_GsR c g (wr (k + 1))) else bif (gR g.records k).bytes == 0 then .nrm (I_GsR c g (wr (k + 1))) else .ret ⟨fr 273 [(4, .v (.bool false))], []⟩) else .ret ⟨fr 273 [(4, .v (.bool false))], []⟩) else .ret ⟨fr 273 [(4, .v (.bool false))], []⟩) else .ret ⟨fr 273 [(4, .v (.bool false))], []⟩) else .ret ⟨fr 273 [(4, .v (.bool false))], []⟩) else .ret ⟨fr 273 [(4, .v (.bool false))], []⟩) else default) else .exit 6 ⟨fr 273 [], []⟩)).trans (all_eq fun hk => ((by
    rw [bnd hk, wrs hk (by omega)]
    unfold recsM
    rw [record_way]
    cases w_ (gR g.records k).id 1 (wr (g.next - 1)) <;> cases w_ (gR g.records k).at_ 0 100000 <;> cases w_ (gR g.records k).bytes 0 1000000 <;> cases ((gR g.records k).stop == decide ((gR g.records k).cause > 0)) <;> cases w_ (gR g.records k).cause 0 6 <;> try rfl
    all_goals (cases (gR g.records k).stop <;> cases (gR g.records k).bytes == 0 <;> rfl)))))
def S_GsR (c : Cd.ty ((cA0 .config))) (g : Cd.ty ((cA0 .guests))) : LoopSpec := ⟨[2, 3, 11], ids 2, I_GsR c g (0 : Nat), (.node (decide (g.records.length ≤ 60)) (.node (allF (fun i => recsM g i) (g.records.length) 0) (.leaf (.exit 6 ⟨fr 273 [], []⟩)) (.leaf (.ret ⟨fr 273 [(4, .v (.bool false))], []⟩))) .bad), []⟩
theorem z_GsR (c : Cd.ty ((cA0 .config))) (g : Cd.ty ((cA0 .guests)))  : SpecOk Tryz.prog Tryz.f43 3 ⟨[2, 3, 11], ids 2, I_GsR c g (0 : Nat), (.node (decide (g.records.length ≤ 60)) (.node (allF (fun i => recsM g i) (g.records.length) 0) (.leaf (.exit 6 ⟨fr 273 [], []⟩)) (.leaf (.ret ⟨fr 273 [(4, .v (.bool false))], []⟩))) .bad), []⟩ := .mkW fun hq => r_GsR c g (of_decide_eq_true hq) (Nat.zero_le _)
end Go.Proofs.YthlebalbiokjpaaGreat
