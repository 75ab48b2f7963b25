/- The gateway's tests: the gateway, whole. -/
import Derived.Test.YthlebalbiokjpaaGreatKhGr
namespace Go.Proofs.YthlebalbiokjpaaGreat
open Go.RowKit
set_option linter.unusedVariables false
set_option maxRecDepth 100000

def gatewayM (x : XGateway) : Bool := guestsI (gcfg x) (ggu x) && (flowsM x.flows && (connsM x.conns && (w_ x.now 0 100000 && (w_ x.drops 0 1000000 && (ip_ x.isn && allN x.flows.length (ownP x))))))
theorem gi_sess {c : XConfig} {g : XGuests} (h : guestsI c g = true) : small g.sessions = true := by
  unfold guestsI at h
  cases h2 : decide ((g.sessions.length : Int) > 3)
  · unfold small
    simp at h2 ⊢
    omega
  · rw [h2] at h
    revert h
    cases configM c <;> cases decide ((g.users.length : Int) > 6) <;> simp
theorem fl_small {l : List XFlow} (h : flowsM l = true) : small l = true := by
  unfold flowsM at h
  cases h2 : decide ((l.length : Int) > 8)
  · unfold small
    simp at h2 ⊢
    omega
  · rw [h2] at h; cases h
theorem fl_own {l : List XFlow} (h : flowsM l = true) (k : Nat) (hk : k < l.length) : (gW l k).owner ≥ 0 := by
  unfold flowsM at h
  cases h2 : decide ((l.length : Int) > 8) <;> rw [h2] at h
  · have h3 := allN_iff.1 h k hk
    unfold flowP flowOK flowEnds at h3
    simp only [Bool.and_eq_true] at h3
    exact (w_true.1 h3.1.1.2.2.2.2.2.2).1
  · cases h
theorem connI_eq {l : List XConn} {k : Nat} (hk : k < l.length) : connI l k = connP l k := by
  unfold connI connP
  have e : decide (idxM (l.take k).length (connsQ (l.take k) (gK l k).ip (gK l k).port (gK l k).dstIp) ≥ 0) = !(allN k (fun i => !(connQ (gK l i) (gK l k).ip (gK l k).port (gK l k).dstIp))) := by
    rw [idxM_ge, List.length_take, Nat.min_eq_left (Nat.le_of_lt hk), ← any_not, Bool.eq_iff_iff]
    simp only [anyN, List.any_eq_true, List.mem_range, Bool.not_not]
    refine exists_congr fun i => and_congr_right fun hi => ?_
    unfold connsQ gK
    rw [show (l.take k).getD i (elDef .conn) = l.getD i (elDef .conn) from by rw [List.getD_eq_getElem?_getD, List.getD_eq_getElem?_getD, List.getElem?_take, if_pos hi]]
  rw [e, Bool.not_not]
theorem conns_eq {l : List XConn} : allN l.length (connI l) = allN l.length (connP l) := by
  rw [Bool.eq_iff_iff, allN_iff, allN_iff]
  exact forall_congr' fun k => forall_congr' fun hk => by rw [connI_eq hk]
theorem own_eq {x : XGateway} (h : flowsM x.flows = true) : anyN x.flows.length (fun i => lostM x (gW x.flows i)) = !(allN x.flows.length (ownP x)) := by
  rw [← any_not, Bool.eq_iff_iff]
  simp only [anyN, List.any_eq_true, List.mem_range]
  refine exists_congr fun k => and_congr_right fun hk => ?_
  have h0 := fl_own h k hk
  unfold lostM ownP
  by_cases h1 : (gW x.flows k).owner > 0
  · rw [decide_eq_true h1, show ((gW x.flows k).owner == 0) = false from beq_eq_false_iff_ne.2 fun e => by rw [e] at h1; exact absurd h1 (by decide)]
    simp
  · rw [decide_eq_false h1, show ((gW x.flows k).owner == 0) = true from beq_iff_eq.2 (Int.le_antisymm (Int.not_lt.1 h1) h0)]
    simp
def gwT (x : XGateway) : Bool := guestsI (gcfg x) (ggu x) && (flowsM x.flows && (bif decide ((x.conns.length : Int) > 3) then false else (w_ x.now 0 100000 && (w_ x.drops 0 1000000 && (ip_ x.isn && (bif (small x.flows && (small x.sessions)) then (bif anyN x.flows.length (fun i => lostM x (gW x.flows i)) then false else (bif decide (x.conns.length ≤ 3) then (bif allF (fun i => connI x.conns i) x.conns.length 0 then true else false) else false)) else false))))))
def gwB (x : XGateway) : Bool := guestsI (gcfg x) (ggu x) && (flowsM x.flows && (bif decide ((x.conns.length : Int) > 3) then false else (w_ x.now 0 100000 && (w_ x.drops 0 1000000 && (ip_ x.isn && (bif (small x.flows && (small x.sessions)) then (bif anyN x.flows.length (fun i => lostM x (gW x.flows i)) then false else (bif decide (x.conns.length ≤ 3) then false else true)) else true))))))
theorem gwB_no {x : XGateway} : gwB x = false := by
  unfold gwB
  cases h0 : guestsI (gcfg x) (ggu x) <;> try rfl
  cases h1 : flowsM x.flows <;> try rfl
  cases h2 : decide ((x.conns.length : Int) > 3) <;> try rfl
  rw [show small x.sessions = true from gi_sess h0, fl_small h1, le_m (m := 3) h2]
  cases w_ x.now 0 100000 <;> cases w_ x.drops 0 1000000 <;> cases ip_ x.isn <;> cases anyN x.flows.length (fun i => lostM x (gW x.flows i)) <;> rfl
theorem gwT_eq {x : XGateway} : gwT x = gatewayM x := by
  unfold gwT gatewayM connsM
  cases h0 : guestsI (gcfg x) (ggu x) <;> try rfl
  cases h1 : flowsM x.flows <;> try rfl
  cases h2 : decide ((x.conns.length : Int) > 3)
  · rw [show small x.sessions = true from gi_sess h0, fl_small h1, le_m (m := 3) h2, own_eq h1, allF_zero, show allN x.conns.length (fun i => connI x.conns i) = allN x.conns.length (connP x.conns) from conns_eq, show decide ((x.conns.length : Int) ≤ 3) = true from by simp at h2 ⊢; omega]
    cases w_ x.now 0 100000 <;> cases w_ x.drops 0 1000000 <;> cases ip_ x.isn <;> cases allN x.flows.length (ownP x) <;> cases allN x.conns.length (connP x.conns) <;> rfl
  · rw [show decide ((x.conns.length : Int) ≤ 3) = false from by simp at h2 ⊢; omega, Bool.and_false]; rfl
def c_GatewayOK : Entry := ent1 (cA0 .gateway) fun x => (.yes, .b (gatewayM x))
theorem o_GatewayOK : ∀ (x : Cd.ty ((cA0 .gateway))), OkC Tryz.prog 14 [(cA0 .gateway).enc x] (.b (gatewayM x)) := fun x =>
  have hs : Sf (fnT Tryz.prog G33 (Ls [S_GwC x]) Tryz.f14 (bd Tryz.f14) [(cA0 .gateway).enc x]) := Sf.obls (b := gwB x) (by kernel_rfl) (gwB_no) (l := [I_GwC x (0 : Nat) = I_GwC x (0 : Nat)]) (by kernel_rfl) (by simp)
  (show (gwT x) = (gatewayM x) from gwT_eq) ▸ (OkC.b (fn_okL G33_ok hmx Tryz.func14 (bd_eq (by kernel_rfl)) _ _ (.cons (z_GwC x) (.nil _)) hs) hs (by kernel_rfl) (by kernel_rfl) : OkC Tryz.prog 14 [(cA0 .gateway).enc x] (.b (gwT x)))
theorem e_GatewayOK : EOk Tryz.prog 14 c_GatewayOK := ent1_ok Tryz.call14 fun x hq => o_GatewayOK x
def gsT2 (x : XGateway) : Bool := bif small x.users then (guestsI (gcfg x) (ggu x) && (flowsM x.flows && (bif small x.conns then (connsM x.conns && (w_ x.now 0 100000 && (w_ x.drops 0 1000000 && (ip_ x.isn && (bif (small x.flows && (small x.sessions)) then (bif allF (fun i => ownP x i) x.flows.length 0 then true else false) else false))))) else false))) else false
def gsB2 (x : XGateway) : Bool := bif small x.users then (guestsI (gcfg x) (ggu x) && (flowsM x.flows && (bif small x.conns then (connsM x.conns && (w_ x.now 0 100000 && (w_ x.drops 0 1000000 && (ip_ x.isn && (bif (small x.flows && (small x.sessions)) then false else true))))) else true))) else true
theorem gsB2_no {x : XGateway} (hq : (small x.users && small x.conns) = true) : gsB2 x = false := by
  unfold gsB2
  rw [(and2 hq).1, (and2 hq).2]
  cases h0 : guestsI (gcfg x) (ggu x) <;> try rfl
  cases h1 : flowsM x.flows <;> try rfl
  rw [show small x.sessions = true from gi_sess h0, fl_small h1]
  cases connsM x.conns <;> cases w_ x.now 0 100000 <;> cases w_ x.drops 0 1000000 <;> cases ip_ x.isn <;> rfl
theorem gsT2_eq {x : XGateway} (hq : (small x.users && small x.conns) = true) : gsT2 x = gatewayM x := by
  unfold gsT2 gatewayM
  rw [(and2 hq).1, (and2 hq).2]
  cases h0 : guestsI (gcfg x) (ggu x) <;> try rfl
  cases h1 : flowsM x.flows <;> try rfl
  rw [show small x.sessions = true from gi_sess h0, fl_small h1, allF_zero]
  show (connsM x.conns && (w_ x.now 0 100000 && (w_ x.drops 0 1000000 && (ip_ x.isn && (bif allN x.flows.length (ownP x) then true else false))))) = _
  cases connsM x.conns <;> cases w_ x.now 0 100000 <;> cases w_ x.drops 0 1000000 <;> cases ip_ x.isn <;> cases allN x.flows.length (ownP x) <;> rfl
def c_sGatewayOK : Entry := ent1 (cA0 .gateway) fun x => (.when (small x.users && small x.conns), .b (gatewayM x))
theorem o_sGatewayOK : ∀ (x : Cd.ty ((cA0 .gateway))), (small x.users && small x.conns) = true → OkC Tryz.prog 12 [(cA0 .gateway).enc x] (.b (gatewayM x)) := fun x hq =>
  have hs : Sf (fnT Tryz.prog G33 (Ls [S_GwS x]) Tryz.f12 (bd Tryz.f12) [(cA0 .gateway).enc x]) := Sf.obls (b := gsB2 x) (by kernel_rfl) (gsB2_no hq) (l := [I_GwS x (0 : Nat) = I_GwS x (0 : Nat)]) (by kernel_rfl) (by simp)
  (show (gsT2 x) = (gatewayM x) from gsT2_eq hq) ▸ (OkC.b (fn_okL G33_ok hmx Tryz.func12 (bd_eq (by kernel_rfl)) _ _ (.cons (z_GwS x) (.nil _)) hs) hs (by kernel_rfl) (by kernel_rfl) : OkC Tryz.prog 12 [(cA0 .gateway).enc x] (.b (gsT2 x)))
theorem e_sGatewayOK : EOk Tryz.prog 12 c_sGatewayOK := ent1_ok Tryz.call12 fun x hq => o_sGatewayOK x hq
def G34 : Ctx := G33.add [(14, c_GatewayOK), (12, c_sGatewayOK)]
theorem G34_ok : COk Tryz.prog G34 := G33_ok.add (CsOk.cons e_GatewayOK (CsOk.cons e_sGatewayOK (CsOk.nil)))
end Go.Proofs.YthlebalbiokjpaaGreat
