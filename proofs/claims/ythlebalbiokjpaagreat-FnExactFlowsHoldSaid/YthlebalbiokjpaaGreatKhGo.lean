/- The gateway's tests: flows, spec's. -/
import Derived.Test.YthlebalbiokjpaaGreatKhGn
namespace Go.Proofs.YthlebalbiokjpaaGreat
open Go.RowKit
set_option linter.unusedVariables false
set_option maxRecDepth 100000

abbrev gW (l : List XFlow) (k : Nat) : XFlow := l.getD k (elDef .flow)
/-- Two flows between the same ends. -/
def bothM (f g : XFlow) : Bool := bif isM f g.proto g.srcIp g.srcPort g.dstIp g.dstPort then true else isM f g.proto g.dstIp g.dstPort g.srcIp g.srcPort
def I_SfI (l : Cd.ty ((cL .flow))) (j : Nat) (z : Int) : St := ⟨fr 61 [(0, .lst .flow l), (3, .I (j : Nat)), (4, .box 0 0), (5, .I z)], [⟨88, .cells (row .flow (gW l j)), false, false⟩]⟩
theorem r_SfI (l : Cd.ty ((cL .flow))) (j : Nat) (hn : l.length ≤ 8) (hj : j < l.length) (h0 : 0 ≤ j) : Sat Tryz.prog 0 (.loop (lpb Tryz.f44 1)) (I_SfI l j (0 : Nat)) (bif allF (fun i => !(bothM (gW l i) (gW l j))) (j) 0 then .exit 2 ⟨fr 61 [(0, .lst .flow l), (3, .I (j : Nat))], []⟩ else .ret ⟨fr 61 [(2, .v (.bool false))], []⟩) :=
  sat_all (j) 0 h0 (I_SfI l j) (fun i => !(bothM (gW l i) (gW l j))) 2 _ _ fun k h0 hk =>
    rnd_sat (v := ⟨[0, 3, 4, 5], ids 1, [0, 3], ids 0, [2], []⟩) G25_ok hmx (noLoops (n := 2) (by kernel_rfl)) (n := 2) (L := fun _ _ => none) (SfO.bads (b := bif decide ((k : Int) < (j : Nat)) then (bif decide ((k : Int) < l.length) then false else true) else false) (by kernel_rfl) ((by
    by_cases hlt : k < j
    · rw [show decide ((k : Int) < (j : Nat)) = true from bnd hlt, show decide ((k : Int) < l.length) = true from bnd (Nat.lt_trans hlt hj)]; rfl
    · rw [show decide ((k : Int) < (j : Nat)) = false from by simpa using hlt]; rfl)) (by kernel_rfl))
      ((by kernel_rfl : _ = (bif decide ((k : Int) < (j : Nat)) then (bif decide ((k : Int) < l.length) then (bif isM (gW l k) (gW l j).proto (gW l j).srcIp (gW l j).srcPort (gW l j).dstIp (gW l j).dstPort then .ret ⟨fr 61 [(2, .v (.bool false))], []⟩ else bif isM (gW l k) (gW l j).proto (gW l j).dstIp (gW l j).dstPort (gW l j).srcIp (gW l j).srcPort then .ret ⟨fr 61 [(2, .v (.bool false))], []⟩ else .nrm (I_SfI l j (wr (k + 1)))) else default) else .exit 2 ⟨fr 61 [(0, .lst .flow l), (3, .I (j : Nat))], []⟩)).trans (all_eq fun hk => ((by
    rw [bnd (Nat.lt_trans hk hj), wrs hk (by omega)]
    unfold bothM
    cases isM (gW l k) (gW l j).proto (gW l j).srcIp (gW l j).srcPort (gW l j).dstIp (gW l j).dstPort <;> cases isM (gW l k) (gW l j).proto (gW l j).dstIp (gW l j).dstPort (gW l j).srcIp (gW l j).srcPort <;> rfl))))
def S_SfI (l : Cd.ty ((cL .flow))) (j : Nat) : LoopSpec := ⟨[0, 3, 4, 5], ids 1, I_SfI l j (0 : Nat), (.node (decide (l.length ≤ 8) && decide (j < l.length)) (.node (allF (fun i => !(bothM (gW l i) (gW l j))) (j) 0) (.leaf (.exit 2 ⟨fr 61 [(0, .lst .flow l), (3, .I (j : Nat))], []⟩)) (.leaf (.ret ⟨fr 61 [(2, .v (.bool false))], []⟩))) .bad), []⟩
theorem z_SfI (l : Cd.ty ((cL .flow))) (j : Nat)  : SpecOk Tryz.prog Tryz.f44 1 ⟨[0, 3, 4, 5], ids 1, I_SfI l j (0 : Nat), (.node (decide (l.length ≤ 8) && decide (j < l.length)) (.node (allF (fun i => !(bothM (gW l i) (gW l j))) (j) 0) (.leaf (.exit 2 ⟨fr 61 [(0, .lst .flow l), (3, .I (j : Nat))], []⟩)) (.leaf (.ret ⟨fr 61 [(2, .v (.bool false))], []⟩))) .bad), []⟩ := .mkW fun hq => r_SfI l j (of_decide_eq_true (and2 hq).1) (of_decide_eq_true (and2 hq).2) (Nat.zero_le _)
def flowP (l : List XFlow) (k : Nat) : Bool := flowOK (gW l k) && allN k (fun i => !(bothM (gW l i) (gW l k)))
def I_SfO (l : Cd.ty ((cL .flow))) (z : Int) : St := ⟨fr 61 [(0, .lst .flow l), (3, .I z)], []⟩
theorem r_SfO (l : Cd.ty ((cL .flow))) (hn : l.length ≤ 8)  (h0 : 0 ≤ l.length) : Sat Tryz.prog 0 (.loop (lpb Tryz.f44 0)) (I_SfO l (0 : Nat)) (bif allF (fun i => flowP l i) (l.length) 0 then .exit 0 ⟨fr 61 [], []⟩ else .ret ⟨fr 61 [(2, .v (.bool false))], []⟩) :=
  sat_all (l.length) 0 h0 (I_SfO l) (fun i => flowP l i) 0 _ _ fun k h0 hk =>
    rnd_sat (v := ⟨[0, 3], ids 0, [], ids 0, [2], []⟩) G25_ok hmx (hL_one (b := lpb Tryz.f44 1) (n := 1) (by kernel_rfl) (z_SfI l k).out) (n := 1) (L := fun _ _ => some (S_SfI l k)) (SfO.obls (b := bif decide ((k : Int) < l.length) then (bif decide ((k : Int) < l.length) then (bif flowOK (gW l k) then (bif (decide (l.length ≤ 8) && decide (k < l.length)) then false else true) else false) else true) else false) (by kernel_rfl) ((by
    by_cases hlt : k < l.length
    · rw [bnd hlt, show decide (l.length ≤ 8) = true from by simpa using hn, show decide (k < l.length) = true from by simpa using hlt]
      cases flowOK (gW l k) <;> rfl
    · rw [show decide ((k : Int) < l.length) = false from by simpa using hlt]; rfl)) (l := [I_SfI l k (0 : Nat) = I_SfI l k (0 : Nat)]) (by kernel_rfl) (by simp))
      ((by kernel_rfl : _ = (bif decide ((k : Int) < (l.length : Nat)) then (bif decide ((k : Int) < l.length) then (bif flowOK (gW l k) then (bif (decide (l.length ≤ 8) && decide (k < l.length)) then (bif allF (fun i => !(bothM (gW l i) (gW l k))) k 0 then .nrm (I_SfO l (wr (k + 1))) else .ret ⟨fr 61 [(2, .v (.bool false))], []⟩) else default) else .ret ⟨fr 61 [(2, .v (.bool false))], []⟩) else default) else .exit 0 ⟨fr 61 [], []⟩)).trans (all_eq fun hk => ((by
    rw [bnd hk, wrs hk (by omega), show decide (l.length ≤ 8) = true from by simpa using hn, show decide (k < l.length) = true from by simpa using hk, allF_zero]
    unfold flowP
    cases flowOK (gW l k) <;> cases allN k (fun i => !(bothM (gW l i) (gW l k))) <;> rfl))))
def S_SfO (l : Cd.ty ((cL .flow))) : LoopSpec := ⟨[0, 3], ids 0, I_SfO l (0 : Nat), (.node (decide (l.length ≤ 8)) (.node (allF (fun i => flowP l i) (l.length) 0) (.leaf (.exit 0 ⟨fr 61 [], []⟩)) (.leaf (.ret ⟨fr 61 [(2, .v (.bool false))], []⟩))) .bad), []⟩
theorem z_SfO (l : Cd.ty ((cL .flow)))  : SpecOk Tryz.prog Tryz.f44 0 ⟨[0, 3], ids 0, I_SfO l (0 : Nat), (.node (decide (l.length ≤ 8)) (.node (allF (fun i => flowP l i) (l.length) 0) (.leaf (.exit 0 ⟨fr 61 [], []⟩)) (.leaf (.ret ⟨fr 61 [(2, .v (.bool false))], []⟩))) .bad), []⟩ := .mkW fun hq => r_SfO l (of_decide_eq_true hq) (Nat.zero_le _)
def flowsM (l : List XFlow) : Bool := bif decide ((l.length : Int) > 8) then false else allN l.length (flowP l)
def c_sFlowsOK : Entry := ent1 (cL .flow) fun l => (.yes, .b (flowsM l))
theorem o_sFlowsOK : ∀ (l : Cd.ty ((cL .flow))), OkC Tryz.prog 44 [(cL .flow).enc l] (.b (flowsM l)) := fun l =>
  have hs : Sf (fnT Tryz.prog G25 (Ls [S_SfO l, S_SfI l 0]) Tryz.f44 (bd Tryz.f44) [(cL .flow).enc l]) := Sf.obls (b := bif decide ((l.length : Int) > 4096) then false else bif decide ((l.length : Int) > 8) then false else bif decide (l.length ≤ 8) then false else true) (by kernel_rfl) ((by
    cases h1 : decide ((l.length : Int) > 4096) <;> cases h2 : decide ((l.length : Int) > 8) <;> try rfl
    rw [le_m (m := 8) h2]; rfl)) (l := [I_SfO l (0 : Nat) = I_SfO l (0 : Nat)]) (by kernel_rfl) (by simp)
  (show (bif decide ((l.length : Int) > 4096) then false else bif decide ((l.length : Int) > 8) then false else bif decide (l.length ≤ 8) then (bif allF (fun i => flowP l i) l.length 0 then true else false) else false) = (flowsM l) from (by
    unfold flowsM
    cases h2 : decide ((l.length : Int) > 8)
    · rw [show decide ((l.length : Int) > 4096) = false from by simp at h2 ⊢; omega, le_m (m := 8) h2, allF_zero]
      show (bif allN l.length (flowP l) then true else false) = allN l.length (flowP l)
      cases allN l.length (flowP l) <;> rfl
    · cases decide ((l.length : Int) > 4096) <;> rfl)) ▸ (OkC.b (fn_okL G25_ok hmx Tryz.func44 (bd_eq (by kernel_rfl)) _ _ (.cons (z_SfO l) (.cons (z_SfI l 0) (.nil _))) hs) hs (by kernel_rfl) (by kernel_rfl) : OkC Tryz.prog 44 [(cL .flow).enc l] (.b (bif decide ((l.length : Int) > 4096) then false else bif decide ((l.length : Int) > 8) then false else bif decide (l.length ≤ 8) then (bif allF (fun i => flowP l i) l.length 0 then true else false) else false)))
theorem e_sFlowsOK : EOk Tryz.prog 44 c_sFlowsOK := ent1_ok Tryz.call44 fun l hq => o_sFlowsOK l
end Go.Proofs.YthlebalbiokjpaaGreat
