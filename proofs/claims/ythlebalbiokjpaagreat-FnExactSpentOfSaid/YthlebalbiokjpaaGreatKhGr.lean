/- The gateway's tests: the gateway. -/
import Derived.Test.YthlebalbiokjpaaGreatKhGq
namespace Go.Proofs.YthlebalbiokjpaaGreat
open Go.RowKit
set_option linter.unusedVariables false
set_option maxRecDepth 100000

def gcfg (x : XGateway) : XConfig := ⟨x.lanIp, x.lanBits, x.gate, x.gateMac, x.wanMac, x.resolver, x.garden, x.roles⟩
def ggu (x : XGateway) : XGuests := ⟨x.users, x.sessions, x.fails, x.records, x.next⟩
/-- A flow whose session is not there. -/
def lostM (x : XGateway) (f : XFlow) : Bool := bif f.owner == 0 then false else decide (idxM x.sessions.length (sessQ x.sessions f.owner) < 0)
def c_GatewayOK1 : Entry := ent2 (cA0 .flow) (cR0 .gateway) fun f x => (.when (small x.sessions), .b (lostM x f))
theorem o_GatewayOK1 : ∀ f x, (small x.sessions) = true → OkC Tryz.prog 57 [(cA0 .flow).enc f, (cR0 .gateway).enc x] (.b (lostM x f)) := fun f x hq =>
  have hs : Sf (fnT Tryz.prog G30 (fun _ _ => none) Tryz.f57 (bd Tryz.f57) [(cA0 .flow).enc f, (cR0 .gateway).enc x]) := Sf.bads (b := bif f.owner == 0 then false else bif small x.sessions then false else true) (by kernel_rfl) ((by rw [hq]; cases f.owner == 0 <;> rfl)) (by kernel_rfl)
  (show (bif f.owner == 0 then false else (bif small x.sessions then decide (idxM x.sessions.length (sessQ x.sessions f.owner) < 0) else false)) = (lostM x f) from (by rw [hq]; rfl)) ▸ (OkC.b (fn_ok0 G30_ok hmx Tryz.func57 (bd_eq (by kernel_rfl)) _ hs) hs (by kernel_rfl) (by kernel_rfl) : OkC Tryz.prog 57 [(cA0 .flow).enc f, (cR0 .gateway).enc x] (.b (bif f.owner == 0 then false else (bif small x.sessions then decide (idxM x.sessions.length (sessQ x.sessions f.owner) < 0) else false))))
theorem e_GatewayOK1 : EOk Tryz.prog 57 c_GatewayOK1 := ent2_ok Tryz.call57 fun f x hq => o_GatewayOK1 f x hq
def G31 : Ctx := G30.add [(57, c_GatewayOK1)]
theorem G31_ok : COk Tryz.prog G31 := G30_ok.add (CsOk.cons e_GatewayOK1 (CsOk.nil))
abbrev k_lost := cC1 57 (cR0 .gateway)
def I_idxLost (l : List (El .flow)) (x : Cd.ty (k_lost)) (z : Int) : St := ⟨fr 19 [(0, .lst .flow l), (1, k_lost.enc x), (7, .I l.length), (8, .I z)], []⟩
theorem r_idxLost (l : List (El .flow)) (x : Cd.ty (k_lost)) (hn : l.length ≤ 1099511627776) (hc : (small x.sessions) = true) : Sat Tryz.prog 0 (.loop (lpb Tryz.f139 0)) (I_idxLost l x (0 : Nat)) (bif anyN l.length (fun i => lostM x (l.getD i (elDef .flow))) then .ret ⟨fr 19 [(4, .I (fstN l.length (fun i => lostM x (l.getD i (elDef .flow))) : Nat))], []⟩ else .exit 0 ⟨fr 19 [], []⟩) :=
  sat_find l.length (I_idxLost l x) (fun i => lostM x (l.getD i (elDef .flow))) 0 _ (fun k => ⟨fr 19 [(4, .I (k : Nat))], []⟩) fun k hk =>
    rnd_sat (v := ⟨[0, 1, 7, 8], ids 0, [], ids 0, [4], []⟩) G31_ok hmx (noLoops (n := 1) (by kernel_rfl)) (n := 1) (L := fun _ _ => none) (SfO.bads (b := bif decide ((k : Int) < l.length) then (bif decide ((k : Int) < l.length) then (bif small x.sessions then false else true) else true) else false) (by kernel_rfl) (by rw [hc]; cases decide ((k : Int) < l.length) <;> rfl) (by kernel_rfl))
      ((by kernel_rfl : _ = (bif decide ((k : Int) < l.length) then (bif decide ((k : Int) < l.length) then (bif small x.sessions then (bif (fun i => lostM x (l.getD i (elDef .flow))) k then .ret ⟨fr 19 [(4, .I (k : Nat))], []⟩ else .nrm (I_idxLost l x (wr (k + 1)))) else default) else default) else .exit 0 ⟨fr 19 [], []⟩)).trans (by rw [hc]; exact rnd_eq (f := fun z => .nrm (I_idxLost l x z)) (q := (fun i => lostM x (l.getD i (elDef .flow))) k) (r := .ret ⟨fr 19 [(4, .I (k : Nat))], []⟩) (x := .exit 0 ⟨fr 19 [], []⟩) hn))
def S_idxLost (l : List (El .flow)) (x : Cd.ty (k_lost)) : List LoopSpec := [⟨[0, 1, 7, 8], ids 0, I_idxLost l x (0 : Nat), .node (small l && (small x.sessions)) (.node (anyN l.length (fun i => lostM x (l.getD i (elDef .flow)))) (.leaf (.ret ⟨fr 19 [(4, .I (fstN l.length (fun i => lostM x (l.getD i (elDef .flow))) : Nat))], []⟩)) (.leaf (.exit 0 ⟨fr 19 [], []⟩))) .bad, []⟩]
theorem z_idxLost (l : List (El .flow)) (x : Cd.ty (k_lost)) : SpecOk Tryz.prog Tryz.f139 0 ⟨[0, 1, 7, 8], ids 0, I_idxLost l x (0 : Nat), .node (small l && (small x.sessions)) (.node (anyN l.length (fun i => lostM x (l.getD i (elDef .flow)))) (.leaf (.ret ⟨fr 19 [(4, .I (fstN l.length (fun i => lostM x (l.getD i (elDef .flow))) : Nat))], []⟩)) (.leaf (.exit 0 ⟨fr 19 [], []⟩))) .bad, []⟩ := .mkW fun hq => r_idxLost l x (of_decide_eq_true (and2 hq).1) (and2 hq).2
def c_idxLost : Entry := ent2 (cL .flow) (k_lost) fun l x => (.when (small l && (small x.sessions)), .I (idxM l.length (fun i => lostM x (l.getD i (elDef .flow)))))
theorem o_idxLost : ∀ (l : List (El .flow)) (x : Cd.ty (k_lost)), (small l && (small x.sessions)) = true → OkC Tryz.prog 139 [(cL .flow).enc l, k_lost.enc x] (.I (idxM l.length (fun i => lostM x (l.getD i (elDef .flow))))) := fun l x hq =>
  have hs : Sf (fnT Tryz.prog G31 (Ls (S_idxLost l x)) Tryz.f139 (bd Tryz.f139) [(cL .flow).enc l, k_lost.enc x]) := Sf.obls (b := bif (small l && (small x.sessions)) then false else true) (by kernel_rfl) (by rw [hq]; rfl) (l := [I_idxLost l x (0 : Nat) = I_idxLost l x (0 : Nat)]) (by kernel_rfl) (by simp)
  (show (bif (small l && (small x.sessions)) then idxM l.length (fun i => lostM x (l.getD i (elDef .flow))) else 0) = idxM l.length (fun i => lostM x (l.getD i (elDef .flow))) from by rw [hq]; rfl) ▸ (OkC.i (fn_okL G31_ok hmx Tryz.func139 (bd_eq (by kernel_rfl)) _ _ (.cons (z_idxLost l x) (.nil _)) hs) hs (by kernel_rfl) (by kernel_rfl) : OkC Tryz.prog 139 [(cL .flow).enc l, k_lost.enc x] (.I (bif (small l && (small x.sessions)) then idxM l.length (fun i => lostM x (l.getD i (elDef .flow))) else 0)))
theorem e_idxLost : EOk Tryz.prog 139 c_idxLost := ent2_ok Tryz.call139 fun l x hq => o_idxLost l x hq
def G32 : Ctx := G31.add [(139, c_idxLost)]
theorem G32_ok : COk Tryz.prog G32 := G31_ok.add (CsOk.cons e_idxLost (CsOk.nil))
def c_contLost : Entry := ent2 (cL .flow) k_lost fun l x => (.when ((small l && (small x.sessions))), .b (anyN l.length (fun i => lostM x (l.getD i (elDef .flow)))))
theorem o_contLost : ∀ l x, ((small l && (small x.sessions))) = true → OkC Tryz.prog 56 [(cL .flow).enc l, k_lost.enc x] (.b (anyN l.length (fun i => lostM x (l.getD i (elDef .flow))))) := fun l x hq =>
  have hs : Sf (fnT Tryz.prog G32 (fun _ _ => none) Tryz.f56 (bd Tryz.f56) [(cL .flow).enc l, k_lost.enc x]) := Sf.bads (b := bif (small l && (small x.sessions)) then false else true) (by kernel_rfl) ((by rw [hq]; rfl)) (by kernel_rfl)
  (show (bif (small l && (small x.sessions)) then decide (idxM l.length (fun i => lostM x (l.getD i (elDef .flow))) ≥ 0) else false) = (anyN l.length (fun i => lostM x (l.getD i (elDef .flow)))) from (by rw [hq]; exact idxM_ge)) ▸ (OkC.b (fn_ok0 G32_ok hmx Tryz.func56 (bd_eq (by kernel_rfl)) _ hs) hs (by kernel_rfl) (by kernel_rfl) : OkC Tryz.prog 56 [(cL .flow).enc l, k_lost.enc x] (.b (bif (small l && (small x.sessions)) then decide (idxM l.length (fun i => lostM x (l.getD i (elDef .flow))) ≥ 0) else false)))
theorem e_contLost : EOk Tryz.prog 56 c_contLost := ent2_ok Tryz.call56 fun l x hq => o_contLost l x hq
def G33 : Ctx := G32.add [(56, c_contLost)]
theorem G33_ok : COk Tryz.prog G33 := G32_ok.add (CsOk.cons e_contLost (CsOk.nil))
def connI (l : List XConn) (k : Nat) : Bool := bif connOK (gK l k) then (bif (gK l k).state == 4 then false else !(decide (idxM (l.take k).length (connsQ (l.take k) (gK l k).ip (gK l k).port (gK l k).dstIp) ≥ 0))) else false
def I_GwC (x : Cd.ty ((cA0 .gateway))) (z : Int) : St := ⟨fr 76 [(1, .box 0 0), (46, .lst .conn x.conns), (47, .I x.conns.length), (48, .I z)], [⟨54, .cells (row .gateway x), false, false⟩]⟩
theorem r_GwC (x : Cd.ty ((cA0 .gateway))) (hn : x.conns.length ≤ 3)  (h0 : 0 ≤ x.conns.length) : Sat Tryz.prog 0 (.loop (lpb Tryz.f14 0)) (I_GwC x (0 : Nat)) (bif allF (fun i => connI x.conns i) (x.conns.length) 0 then .exit 0 ⟨fr 76 [], []⟩ else .ret ⟨fr 76 [(2, .v (.bool false))], []⟩) :=
  sat_all (x.conns.length) 0 h0 (I_GwC x) (fun i => connI x.conns i) 0 _ _ fun k h0 hk =>
    rnd_sat (v := ⟨[1, 46, 47, 48], ids 1, [], ids 0, [2], []⟩) G33_ok hmx (noLoops (n := 1) (by kernel_rfl)) (n := 1) (L := fun _ _ => none) (SfO.bads (b := bif decide ((k : Int) < x.conns.length) then (bif decide ((k : Int) < x.conns.length) then (bif connOK (gK x.conns k) then (bif (gK x.conns k).state == 4 then false else (bif decide ((k : Int) ≤ x.conns.length) then (bif small (x.conns.take k) then false else true) else true)) else false) else true) else false) (by kernel_rfl) ((by
    by_cases hlt : k < x.conns.length
    · rw [bnd hlt, le_of hlt, small_take hn k]
      cases connOK (gK x.conns k) <;> cases (gK x.conns k).state == 4 <;> rfl
    · rw [show decide ((k : Int) < x.conns.length) = false from by simpa using hlt]; rfl)) (by kernel_rfl))
      ((by kernel_rfl : _ = (bif decide ((k : Int) < (x.conns.length : Nat)) then (bif decide ((k : Int) < x.conns.length) then (bif connOK (gK x.conns k) then (bif (gK x.conns k).state == 4 then .ret ⟨fr 76 [(2, .v (.bool false))], []⟩ else (bif decide ((k : Int) ≤ x.conns.length) then (bif small (x.conns.take k) then (bif decide (idxM (x.conns.take k).length (connsQ (x.conns.take k) (gK x.conns k).ip (gK x.conns k).port (gK x.conns k).dstIp) ≥ 0) then .ret ⟨fr 76 [(2, .v (.bool false))], []⟩ else .nrm (I_GwC x (wr (k + 1)))) else default) else default)) else .ret ⟨fr 76 [(2, .v (.bool false))], []⟩) else default) else .exit 0 ⟨fr 76 [], []⟩)).trans (all_eq fun hk => ((by
    rw [bnd hk, wrs hk (by omega), le_of hk, small_take hn k]
    unfold connI
    cases connOK (gK x.conns k) <;> cases (gK x.conns k).state == 4 <;> cases decide (idxM (x.conns.take k).length (connsQ (x.conns.take k) (gK x.conns k).ip (gK x.conns k).port (gK x.conns k).dstIp) ≥ 0) <;> rfl))))
def S_GwC (x : Cd.ty ((cA0 .gateway))) : LoopSpec := ⟨[1, 46, 47, 48], ids 1, I_GwC x (0 : Nat), (.node (decide (x.conns.length ≤ 3)) (.node (allF (fun i => connI x.conns i) (x.conns.length) 0) (.leaf (.exit 0 ⟨fr 76 [], []⟩)) (.leaf (.ret ⟨fr 76 [(2, .v (.bool false))], []⟩))) .bad), []⟩
theorem z_GwC (x : Cd.ty ((cA0 .gateway)))  : SpecOk Tryz.prog Tryz.f14 0 ⟨[1, 46, 47, 48], ids 1, I_GwC x (0 : Nat), (.node (decide (x.conns.length ≤ 3)) (.node (allF (fun i => connI x.conns i) (x.conns.length) 0) (.leaf (.exit 0 ⟨fr 76 [], []⟩)) (.leaf (.ret ⟨fr 76 [(2, .v (.bool false))], []⟩))) .bad), []⟩ := .mkW fun hq => r_GwC x (of_decide_eq_true hq) (Nat.zero_le _)
/-- A flow's owner is there. -/
def ownP (x : XGateway) (k : Nat) : Bool := bif decide ((gW x.flows k).owner > 0) then !(decide (idxM x.sessions.length (sessQ x.sessions (gW x.flows k).owner) < 0)) else true
def I_GwS (x : Cd.ty ((cA0 .gateway))) (z : Int) : St := ⟨fr 63 [(1, .box 0 0), (3, .I z)], [⟨54, .cells (row .gateway x), false, false⟩]⟩
theorem r_GwS (x : Cd.ty ((cA0 .gateway))) (hn : x.flows.length ≤ 1099511627776) (hs : small x.sessions = true) (h0 : 0 ≤ x.flows.length) : Sat Tryz.prog 0 (.loop (lpb Tryz.f12 0)) (I_GwS x (0 : Nat)) (bif allF (fun i => ownP x i) (x.flows.length) 0 then .exit 0 ⟨fr 63 [], []⟩ else .ret ⟨fr 63 [(2, .v (.bool false))], []⟩) :=
  sat_all (x.flows.length) 0 h0 (I_GwS x) (fun i => ownP x i) 0 _ _ fun k h0 hk =>
    rnd_sat (v := ⟨[1, 3], ids 1, [], ids 0, [2], []⟩) G33_ok hmx (noLoops (n := 1) (by kernel_rfl)) (n := 1) (L := fun _ _ => none) (SfO.bads (b := bif decide ((k : Int) < x.flows.length) then (bif decide ((k : Int) < x.flows.length) then (bif decide ((gW x.flows k).owner > 0) then (bif small x.sessions then false else true) else false) else true) else false) (by kernel_rfl) ((by rw [hs]; cases decide ((k : Int) < x.flows.length) <;> cases decide ((gW x.flows k).owner > 0) <;> rfl)) (by kernel_rfl))
      ((by kernel_rfl : _ = (bif decide ((k : Int) < (x.flows.length : Nat)) then (bif decide ((k : Int) < x.flows.length) then (bif decide ((gW x.flows k).owner > 0) then (bif small x.sessions then (bif decide (idxM x.sessions.length (sessQ x.sessions (gW x.flows k).owner) < 0) then .ret ⟨fr 63 [(2, .v (.bool false))], []⟩ else .nrm (I_GwS x (wr (k + 1)))) else default) else .nrm (I_GwS x (wr (k + 1)))) else default) else .exit 0 ⟨fr 63 [], []⟩)).trans (all_eq fun hk => ((by
    rw [bnd hk, wrs hk hn, hs]
    unfold ownP
    cases decide ((gW x.flows k).owner > 0) <;> cases decide (idxM x.sessions.length (sessQ x.sessions (gW x.flows k).owner) < 0) <;> rfl))))
def S_GwS (x : Cd.ty ((cA0 .gateway))) : LoopSpec := ⟨[1, 3], ids 1, I_GwS x (0 : Nat), (.node (small x.flows && (small x.sessions)) (.node (allF (fun i => ownP x i) (x.flows.length) 0) (.leaf (.exit 0 ⟨fr 63 [], []⟩)) (.leaf (.ret ⟨fr 63 [(2, .v (.bool false))], []⟩))) .bad), []⟩
theorem z_GwS (x : Cd.ty ((cA0 .gateway)))  : SpecOk Tryz.prog Tryz.f12 0 ⟨[1, 3], ids 1, I_GwS x (0 : Nat), (.node (small x.flows && (small x.sessions)) (.node (allF (fun i => ownP x i) (x.flows.length) 0) (.leaf (.exit 0 ⟨fr 63 [], []⟩)) (.leaf (.ret ⟨fr 63 [(2, .v (.bool false))], []⟩))) .bad), []⟩ := .mkW fun hq => r_GwS x (of_decide_eq_true (and2 hq).1) (and2 hq).2 (Nat.zero_le _)
end Go.Proofs.YthlebalbiokjpaaGreat
