/- The law's sizes. -/
import Derived.Test.YthlebalbiokjpaaGreatKhGs
namespace Go.Proofs.YthlebalbiokjpaaGreat
open Go.RowKit
set_option linter.unusedVariables false
set_option maxRecDepth 100000

/-- What is left behind n letters or elements. -/
def szM (left : Int) (n : Nat) : Int := bif decide (wr (left - n) < 0) then -1 else wr (left - n)
/-- The numbers at which a size is asked for. -/
def szW (left : Int) (n : Nat) : Bool := w_ left 0 1048576 && decide (n ≤ 9223372036854775807)
theorem szW_small {α : Type} {l : List α} {left : Int} (hq : szW left l.length = true) (h : decide (wr (left - l.length) < 0) = false) : small l = true := by
  have h1 := w_true.1 (and2 hq).1
  have h2 := of_decide_eq_true (and2 hq).2
  have h3 := of_decide_eq_false h
  rw [wr_in (by omega) (by omega)] at h3
  unfold small
  simp
  omega
def c_szFail : Entry := ent2 (cA0 .fail) cI fun f left => (.yes, .I (szM left f.mac.size))
theorem o_szFail : ∀ f left, OkC Tryz.prog 153 [(cA0 .fail).enc f, cI.enc left] (.I (szM left f.mac.size)) := fun f left =>
  have hs : Sf (fnT Tryz.prog G34 (fun _ _ => none) Tryz.f153 (bd Tryz.f153) [(cA0 .fail).enc f, cI.enc left]) := Sf.chk (by kernel_rfl)
  OkC.i (fn_ok0 G34_ok hmx Tryz.func153 (bd_eq (by kernel_rfl)) _ hs) hs (by kernel_rfl) (by kernel_rfl)
theorem e_szFail : EOk Tryz.prog 153 c_szFail := ent2_ok Tryz.call153 fun f left hq => o_szFail f left
def c_szPlaceS : Entry := ent2 (cL .place) cI fun l left => (.yes, .I (szM left l.length))
theorem o_szPlaceS : ∀ l left, OkC Tryz.prog 63 [(cL .place).enc l, cI.enc left] (.I (szM left l.length)) := fun l left =>
  have hs : Sf (fnT Tryz.prog G34 (fun _ _ => none) Tryz.f63 (bd Tryz.f63) [(cL .place).enc l, cI.enc left]) := Sf.chk (by kernel_rfl)
  OkC.i (fn_ok0 G34_ok hmx Tryz.func63 (bd_eq (by kernel_rfl)) _ hs) hs (by kernel_rfl) (by kernel_rfl)
theorem e_szPlaceS : EOk Tryz.prog 63 c_szPlaceS := ent2_ok Tryz.call63 fun l left hq => o_szPlaceS l left
def c_szRecordS : Entry := ent2 (cL .record) cI fun l left => (.yes, .I (szM left l.length))
theorem o_szRecordS : ∀ l left, OkC Tryz.prog 68 [(cL .record).enc l, cI.enc left] (.I (szM left l.length)) := fun l left =>
  have hs : Sf (fnT Tryz.prog G34 (fun _ _ => none) Tryz.f68 (bd Tryz.f68) [(cL .record).enc l, cI.enc left]) := Sf.chk (by kernel_rfl)
  OkC.i (fn_ok0 G34_ok hmx Tryz.func68 (bd_eq (by kernel_rfl)) _ hs) hs (by kernel_rfl) (by kernel_rfl)
theorem e_szRecordS : EOk Tryz.prog 68 c_szRecordS := ent2_ok Tryz.call68 fun l left hq => o_szRecordS l left
def G35 : Ctx := G34.add [(153, c_szFail), (63, c_szPlaceS), (68, c_szRecordS)]
theorem G35_ok : COk Tryz.prog G35 := G34_ok.add (CsOk.cons e_szFail (CsOk.cons e_szPlaceS (CsOk.cons e_szRecordS (CsOk.nil))))
def A_szFailS (l : List (El .fail)) (left : Int) : Nat → Int
  | 0 => wr (left - l.length)
  | k + 1 => szM (A_szFailS l left k) (l.getD k (elDef .fail)).mac.size
def I_szFailS (l : List (El .fail)) (left : Int) (z : Int) : St := ⟨fr 27 [(0, .lst .fail l), (1, .I (A_szFailS l left z.toNat)), (5, .I z)], []⟩
theorem r_szFailS (l : List (El .fail)) (left : Int) (hn : l.length ≤ 1099511627776) : Sat Tryz.prog 0 (.loop (lpb Tryz.f67 0)) (I_szFailS l left (0 : Nat)) (bif allF (fun i => !(decide (A_szFailS l left (i + 1) < 0))) l.length 0 then .exit 0 ⟨fr 27 [(1, .I (A_szFailS l left l.length))], []⟩ else .ret ⟨fr 27 [(4, .I (-1))], []⟩) :=
  sat_all l.length 0 (Nat.zero_le _) (I_szFailS l left) (fun i => !(decide (A_szFailS l left (i + 1) < 0))) 0 _ _ fun k h0 hk =>
    rnd_sat (v := ⟨[0, 1, 5], ids 0, [1], ids 0, [4], []⟩) G35_ok hmx (noLoops (n := 1) (by kernel_rfl)) (n := 1) (L := fun _ _ => none) (SfO.bads (b := bif decide ((k : Int) < l.length) then (bif decide ((k : Int) < l.length) then false else true) else false) (by kernel_rfl) (by cases decide ((k : Int) < l.length) <;> rfl) (by kernel_rfl))
      ((by kernel_rfl : _ = (bif decide ((k : Int) < l.length) then (bif decide ((k : Int) < l.length) then (bif decide (szM (A_szFailS l left k) (l.getD k (elDef .fail)).mac.size < 0) then .ret ⟨fr 27 [(4, .I (-1))], []⟩ else .nrm ⟨fr 27 [(0, .lst .fail l), (1, .I (szM (A_szFailS l left k) (l.getD k (elDef .fail)).mac.size)), (5, .I (wr (k + 1)))], []⟩) else default) else .exit 0 ⟨fr 27 [(1, .I (A_szFailS l left k))], []⟩)).trans (by
        by_cases h : k < l.length
        · rw [bnd h, wrs h hn, show decide (k < l.length) = true from by simpa using h]
          show (bif decide (A_szFailS l left (k + 1) < 0) then (Out.ret ⟨fr 27 [(4, .I (-1))], []⟩) else Out.nrm (I_szFailS l left ((k + 1 : Nat) : Int))) = (bif !(decide (A_szFailS l left (k + 1) < 0)) then Out.nrm (I_szFailS l left ((k + 1 : Nat) : Int)) else (Out.ret ⟨fr 27 [(4, .I (-1))], []⟩))
          cases decide (A_szFailS l left (k + 1) < 0) <;> rfl
        · have e : k = l.length := Nat.le_antisymm hk (Nat.not_lt.1 h)
          rw [e, show decide (((l.length : Nat) : Int) < l.length) = false from by simp, show decide (l.length < l.length) = false from by simp]; rfl))
def S_szFailS (l : List (El .fail)) (left : Int) : LoopSpec := ⟨[0, 1, 5], ids 0, I_szFailS l left (0 : Nat), .node (small l) (.node (allF (fun i => !(decide (A_szFailS l left (i + 1) < 0))) l.length 0) (.leaf (.exit 0 ⟨fr 27 [(1, .I (A_szFailS l left l.length))], []⟩)) (.leaf (.ret ⟨fr 27 [(4, .I (-1))], []⟩))) .bad, []⟩
theorem z_szFailS (l : List (El .fail)) (left : Int) : SpecOk Tryz.prog Tryz.f67 0 ⟨[0, 1, 5], ids 0, I_szFailS l left (0 : Nat), .node (small l) (.node (allF (fun i => !(decide (A_szFailS l left (i + 1) < 0))) l.length 0) (.leaf (.exit 0 ⟨fr 27 [(1, .I (A_szFailS l left l.length))], []⟩)) (.leaf (.ret ⟨fr 27 [(4, .I (-1))], []⟩))) .bad, []⟩ := .mkW fun hq => r_szFailS l left (of_decide_eq_true hq)
def V_szFailS (l : List (El .fail)) (left : Int) : Int := bif decide (wr (left - l.length) < 0) then -1 else (bif allF (fun i => !(decide (A_szFailS l left (i + 1) < 0))) l.length 0 then A_szFailS l left l.length else -1)
def c_szFailS : Entry := ent2 (cL .fail) cI fun l left => (.when (szW left l.length), .I (V_szFailS l left))
theorem o_szFailS : ∀ (l : Cd.ty ((cL .fail))) (left : Cd.ty (cI)), (szW left l.length) = true → OkC Tryz.prog 67 [(cL .fail).enc l, cI.enc left] (.I (V_szFailS l left)) := fun l left hq =>
  have hs : Sf (fnT Tryz.prog G35 (Ls [S_szFailS l left]) Tryz.f67 (bd Tryz.f67) [(cL .fail).enc l, cI.enc left]) := Sf.obls (b := bif decide (wr (left - l.length) < 0) then false else bif small l then false else true) (by kernel_rfl) ((by
    cases h : decide (wr (left - l.length) < 0) <;> try rfl
    rw [szW_small hq h]; rfl)) (l := [I_szFailS l left (0 : Nat) = I_szFailS l left (0 : Nat)]) (by kernel_rfl) (by simp)
  (show (bif decide (wr (left - l.length) < 0) then -1 else (bif small l then (bif allF (fun i => !(decide (A_szFailS l left (i + 1) < 0))) l.length 0 then A_szFailS l left l.length else -1) else 0)) = (V_szFailS l left) from (by
    unfold V_szFailS
    cases h : decide (wr (left - l.length) < 0) <;> try rfl
    rw [szW_small hq h]; rfl)) ▸ (OkC.i (fn_okL G35_ok hmx Tryz.func67 (bd_eq (by kernel_rfl)) _ _ (.cons (z_szFailS l left) (.nil _)) hs) hs (by kernel_rfl) (by kernel_rfl) : OkC Tryz.prog 67 [(cL .fail).enc l, cI.enc left] (.I (bif decide (wr (left - l.length) < 0) then -1 else (bif small l then (bif allF (fun i => !(decide (A_szFailS l left (i + 1) < 0))) l.length 0 then A_szFailS l left l.length else -1) else 0))))
theorem e_szFailS : EOk Tryz.prog 67 c_szFailS := ent2_ok Tryz.call67 fun l left hq => o_szFailS l left hq
/-- .. and then F. -/
def szC (left : Int) (n : Nat) (F : Int → Int) : Int := bif decide (wr (left - n) < 0) then -1 else F (wr (left - n))
def c_szFlow : Entry := ent2 (cA0 .flow) cI fun f left => (.yes, .I (szM left f.mac.size))
theorem o_szFlow : ∀ f left, OkC Tryz.prog 119 [(cA0 .flow).enc f, cI.enc left] (.I (szM left f.mac.size)) := fun f left =>
  have hs : Sf (fnT Tryz.prog G35 (fun _ _ => none) Tryz.f119 (bd Tryz.f119) [(cA0 .flow).enc f, cI.enc left]) := Sf.chk (by kernel_rfl)
  OkC.i (fn_ok0 G35_ok hmx Tryz.func119 (bd_eq (by kernel_rfl)) _ hs) hs (by kernel_rfl) (by kernel_rfl)
theorem e_szFlow : EOk Tryz.prog 119 c_szFlow := ent2_ok Tryz.call119 fun f left hq => o_szFlow f left
def c_szConn : Entry := ent2 (cA0 .conn) cI fun c left => (.yes, .I (szC left c.mac.size fun a => szC a c.in_.size fun b => szM b c.out.size))
theorem o_szConn : ∀ c left, OkC Tryz.prog 120 [(cA0 .conn).enc c, cI.enc left] (.I (szC left c.mac.size fun a => szC a c.in_.size fun b => szM b c.out.size)) := fun c left =>
  have hs : Sf (fnT Tryz.prog G35 (fun _ _ => none) Tryz.f120 (bd Tryz.f120) [(cA0 .conn).enc c, cI.enc left]) := Sf.chk (by kernel_rfl)
  OkC.i (fn_ok0 G35_ok hmx Tryz.func120 (bd_eq (by kernel_rfl)) _ hs) hs (by kernel_rfl) (by kernel_rfl)
theorem e_szConn : EOk Tryz.prog 120 c_szConn := ent2_ok Tryz.call120 fun c left hq => o_szConn c left
def c_szUser : Entry := ent2 (cA0 .user) cI fun u left => (.yes, .I (szC left u.name.size fun a => szC a u.salt.size fun b => szC b u.hash.size fun d => szM d u.role.size))
theorem o_szUser : ∀ u left, OkC Tryz.prog 151 [(cA0 .user).enc u, cI.enc left] (.I (szC left u.name.size fun a => szC a u.salt.size fun b => szC b u.hash.size fun d => szM d u.role.size)) := fun u left =>
  have hs : Sf (fnT Tryz.prog G35 (fun _ _ => none) Tryz.f151 (bd Tryz.f151) [(cA0 .user).enc u, cI.enc left]) := Sf.chk (by kernel_rfl)
  OkC.i (fn_ok0 G35_ok hmx Tryz.func151 (bd_eq (by kernel_rfl)) _ hs) hs (by kernel_rfl) (by kernel_rfl)
theorem e_szUser : EOk Tryz.prog 151 c_szUser := ent2_ok Tryz.call151 fun u left hq => o_szUser u left
def c_szSession : Entry := ent2 (cA0 .session) cI fun s left => (.yes, .I (szM left s.mac.size))
theorem o_szSession : ∀ s left, OkC Tryz.prog 152 [(cA0 .session).enc s, cI.enc left] (.I (szM left s.mac.size)) := fun s left =>
  have hs : Sf (fnT Tryz.prog G35 (fun _ _ => none) Tryz.f152 (bd Tryz.f152) [(cA0 .session).enc s, cI.enc left]) := Sf.chk (by kernel_rfl)
  OkC.i (fn_ok0 G35_ok hmx Tryz.func152 (bd_eq (by kernel_rfl)) _ hs) hs (by kernel_rfl) (by kernel_rfl)
theorem e_szSession : EOk Tryz.prog 152 c_szSession := ent2_ok Tryz.call152 fun s left hq => o_szSession s left
def c_szRuleS : Entry := ent2 (cL .rule) cI fun l left => (.yes, .I (szM left l.length))
theorem o_szRuleS : ∀ l left, OkC Tryz.prog 211 [(cL .rule).enc l, cI.enc left] (.I (szM left l.length)) := fun l left =>
  have hs : Sf (fnT Tryz.prog G35 (fun _ _ => none) Tryz.f211 (bd Tryz.f211) [(cL .rule).enc l, cI.enc left]) := Sf.chk (by kernel_rfl)
  OkC.i (fn_ok0 G35_ok hmx Tryz.func211 (bd_eq (by kernel_rfl)) _ hs) hs (by kernel_rfl) (by kernel_rfl)
theorem e_szRuleS : EOk Tryz.prog 211 c_szRuleS := ent2_ok Tryz.call211 fun l left hq => o_szRuleS l left
def G36 : Ctx := G35.add [(67, c_szFailS), (119, c_szFlow), (120, c_szConn), (151, c_szUser), (152, c_szSession), (211, c_szRuleS)]
theorem G36_ok : COk Tryz.prog G36 := G35_ok.add (CsOk.cons e_szFailS (CsOk.cons e_szFlow (CsOk.cons e_szConn (CsOk.cons e_szUser (CsOk.cons e_szSession (CsOk.cons e_szRuleS (CsOk.nil)))))))
def szRoleM (left : Int) (r : XRole) : Int := szC left r.name.size fun a => bif decide (szM a r.rules.length < 0) then -1 else szM a r.rules.length
def c_szRole : Entry := ent2 (cA0 .role) cI fun r left => (.yes, .I (szRoleM left r))
theorem o_szRole : ∀ r left, OkC Tryz.prog 150 [(cA0 .role).enc r, cI.enc left] (.I (szRoleM left r)) := fun r left =>
  have hs : Sf (fnT Tryz.prog G36 (fun _ _ => none) Tryz.f150 (bd Tryz.f150) [(cA0 .role).enc r, cI.enc left]) := Sf.chk (by kernel_rfl)
  OkC.i (fn_ok0 G36_ok hmx Tryz.func150 (bd_eq (by kernel_rfl)) _ hs) hs (by kernel_rfl) (by kernel_rfl)
theorem e_szRole : EOk Tryz.prog 150 c_szRole := ent2_ok Tryz.call150 fun r left hq => o_szRole r left
def G37 : Ctx := G36.add [(150, c_szRole)]
theorem G37_ok : COk Tryz.prog G37 := G36_ok.add (CsOk.cons e_szRole (CsOk.nil))
def A_szFlowS (l : List (El .flow)) (left : Int) : Nat → Int
  | 0 => wr (left - l.length)
  | k + 1 => szM (A_szFlowS l left k) (l.getD k (elDef .flow)).mac.size
def I_szFlowS (l : List (El .flow)) (left : Int) (z : Int) : St := ⟨fr 27 [(0, .lst .flow l), (1, .I (A_szFlowS l left z.toNat)), (5, .I z)], []⟩
theorem r_szFlowS (l : List (El .flow)) (left : Int) (hn : l.length ≤ 1099511627776) : Sat Tryz.prog 0 (.loop (lpb Tryz.f41 0)) (I_szFlowS l left (0 : Nat)) (bif allF (fun i => !(decide (A_szFlowS l left (i + 1) < 0))) l.length 0 then .exit 0 ⟨fr 27 [(1, .I (A_szFlowS l left l.length))], []⟩ else .ret ⟨fr 27 [(4, .I (-1))], []⟩) :=
  sat_all l.length 0 (Nat.zero_le _) (I_szFlowS l left) (fun i => !(decide (A_szFlowS l left (i + 1) < 0))) 0 _ _ fun k h0 hk =>
    rnd_sat (v := ⟨[0, 1, 5], ids 0, [1], ids 0, [4], []⟩) G37_ok hmx (noLoops (n := 1) (by kernel_rfl)) (n := 1) (L := fun _ _ => none) (SfO.bads (b := bif decide ((k : Int) < l.length) then (bif decide ((k : Int) < l.length) then false else true) else false) (by kernel_rfl) (by cases decide ((k : Int) < l.length) <;> rfl) (by kernel_rfl))
      ((by kernel_rfl : _ = (bif decide ((k : Int) < l.length) then (bif decide ((k : Int) < l.length) then (bif decide (szM (A_szFlowS l left k) (l.getD k (elDef .flow)).mac.size < 0) then .ret ⟨fr 27 [(4, .I (-1))], []⟩ else .nrm ⟨fr 27 [(0, .lst .flow l), (1, .I (szM (A_szFlowS l left k) (l.getD k (elDef .flow)).mac.size)), (5, .I (wr (k + 1)))], []⟩) else default) else .exit 0 ⟨fr 27 [(1, .I (A_szFlowS l left k))], []⟩)).trans (by
        by_cases h : k < l.length
        · rw [bnd h, wrs h hn, show decide (k < l.length) = true from by simpa using h]
          show (bif decide (A_szFlowS l left (k + 1) < 0) then (Out.ret ⟨fr 27 [(4, .I (-1))], []⟩) else Out.nrm (I_szFlowS l left ((k + 1 : Nat) : Int))) = (bif !(decide (A_szFlowS l left (k + 1) < 0)) then Out.nrm (I_szFlowS l left ((k + 1 : Nat) : Int)) else (Out.ret ⟨fr 27 [(4, .I (-1))], []⟩))
          cases decide (A_szFlowS l left (k + 1) < 0) <;> rfl
        · have e : k = l.length := Nat.le_antisymm hk (Nat.not_lt.1 h)
          rw [e, show decide (((l.length : Nat) : Int) < l.length) = false from by simp, show decide (l.length < l.length) = false from by simp]; rfl))
def S_szFlowS (l : List (El .flow)) (left : Int) : LoopSpec := ⟨[0, 1, 5], ids 0, I_szFlowS l left (0 : Nat), .node (small l) (.node (allF (fun i => !(decide (A_szFlowS l left (i + 1) < 0))) l.length 0) (.leaf (.exit 0 ⟨fr 27 [(1, .I (A_szFlowS l left l.length))], []⟩)) (.leaf (.ret ⟨fr 27 [(4, .I (-1))], []⟩))) .bad, []⟩
theorem z_szFlowS (l : List (El .flow)) (left : Int) : SpecOk Tryz.prog Tryz.f41 0 ⟨[0, 1, 5], ids 0, I_szFlowS l left (0 : Nat), .node (small l) (.node (allF (fun i => !(decide (A_szFlowS l left (i + 1) < 0))) l.length 0) (.leaf (.exit 0 ⟨fr 27 [(1, .I (A_szFlowS l left l.length))], []⟩)) (.leaf (.ret ⟨fr 27 [(4, .I (-1))], []⟩))) .bad, []⟩ := .mkW fun hq => r_szFlowS l left (of_decide_eq_true hq)
def V_szFlowS (l : List (El .flow)) (left : Int) : Int := bif decide (wr (left - l.length) < 0) then -1 else (bif allF (fun i => !(decide (A_szFlowS l left (i + 1) < 0))) l.length 0 then A_szFlowS l left l.length else -1)
def c_szFlowS : Entry := ent2 (cL .flow) cI fun l left => (.when (szW left l.length), .I (V_szFlowS l left))
theorem o_szFlowS : ∀ (l : Cd.ty ((cL .flow))) (left : Cd.ty (cI)), (szW left l.length) = true → OkC Tryz.prog 41 [(cL .flow).enc l, cI.enc left] (.I (V_szFlowS l left)) := fun l left hq =>
  have hs : Sf (fnT Tryz.prog G37 (Ls [S_szFlowS l left]) Tryz.f41 (bd Tryz.f41) [(cL .flow).enc l, cI.enc left]) := Sf.obls (b := bif decide (wr (left - l.length) < 0) then false else bif small l then false else true) (by kernel_rfl) ((by
    cases h : decide (wr (left - l.length) < 0) <;> try rfl
    rw [szW_small hq h]; rfl)) (l := [I_szFlowS l left (0 : Nat) = I_szFlowS l left (0 : Nat)]) (by kernel_rfl) (by simp)
  (show (bif decide (wr (left - l.length) < 0) then -1 else (bif small l then (bif allF (fun i => !(decide (A_szFlowS l left (i + 1) < 0))) l.length 0 then A_szFlowS l left l.length else -1) else 0)) = (V_szFlowS l left) from (by
    unfold V_szFlowS
    cases h : decide (wr (left - l.length) < 0) <;> try rfl
    rw [szW_small hq h]; rfl)) ▸ (OkC.i (fn_okL G37_ok hmx Tryz.func41 (bd_eq (by kernel_rfl)) _ _ (.cons (z_szFlowS l left) (.nil _)) hs) hs (by kernel_rfl) (by kernel_rfl) : OkC Tryz.prog 41 [(cL .flow).enc l, cI.enc left] (.I (bif decide (wr (left - l.length) < 0) then -1 else (bif small l then (bif allF (fun i => !(decide (A_szFlowS l left (i + 1) < 0))) l.length 0 then A_szFlowS l left l.length else -1) else 0))))
theorem e_szFlowS : EOk Tryz.prog 41 c_szFlowS := ent2_ok Tryz.call41 fun l left hq => o_szFlowS l left hq
def A_szConnS (l : List (El .conn)) (left : Int) : Nat → Int
  | 0 => wr (left - l.length)
  | k + 1 => (szC (A_szConnS l left k) (l.getD k (elDef .conn)).mac.size fun a => szC a (l.getD k (elDef .conn)).in_.size fun b => szM b (l.getD k (elDef .conn)).out.size)
def I_szConnS (l : List (El .conn)) (left : Int) (z : Int) : St := ⟨fr 27 [(0, .lst .conn l), (1, .I (A_szConnS l left z.toNat)), (5, .I z)], []⟩
theorem r_szConnS (l : List (El .conn)) (left : Int) (hn : l.length ≤ 1099511627776) : Sat Tryz.prog 0 (.loop (lpb Tryz.f42 0)) (I_szConnS l left (0 : Nat)) (bif allF (fun i => !(decide (A_szConnS l left (i + 1) < 0))) l.length 0 then .exit 0 ⟨fr 27 [(1, .I (A_szConnS l left l.length))], []⟩ else .ret ⟨fr 27 [(4, .I (-1))], []⟩) :=
  sat_all l.length 0 (Nat.zero_le _) (I_szConnS l left) (fun i => !(decide (A_szConnS l left (i + 1) < 0))) 0 _ _ fun k h0 hk =>
    rnd_sat (v := ⟨[0, 1, 5], ids 0, [1], ids 0, [4], []⟩) G37_ok hmx (noLoops (n := 1) (by kernel_rfl)) (n := 1) (L := fun _ _ => none) (SfO.bads (b := bif decide ((k : Int) < l.length) then (bif decide ((k : Int) < l.length) then false else true) else false) (by kernel_rfl) (by cases decide ((k : Int) < l.length) <;> rfl) (by kernel_rfl))
      ((by kernel_rfl : _ = (bif decide ((k : Int) < l.length) then (bif decide ((k : Int) < l.length) then (bif decide ((szC (A_szConnS l left k) (l.getD k (elDef .conn)).mac.size fun a => szC a (l.getD k (elDef .conn)).in_.size fun b => szM b (l.getD k (elDef .conn)).out.size) < 0) then .ret ⟨fr 27 [(4, .I (-1))], []⟩ else .nrm ⟨fr 27 [(0, .lst .conn l), (1, .I ((szC (A_szConnS l left k) (l.getD k (elDef .conn)).mac.size fun a => szC a (l.getD k (elDef .conn)).in_.size fun b => szM b (l.getD k (elDef .conn)).out.size))), (5, .I (wr (k + 1)))], []⟩) else default) else .exit 0 ⟨fr 27 [(1, .I (A_szConnS l left k))], []⟩)).trans (by
        by_cases h : k < l.length
        · rw [bnd h, wrs h hn, show decide (k < l.length) = true from by simpa using h]
          show (bif decide (A_szConnS l left (k + 1) < 0) then (Out.ret ⟨fr 27 [(4, .I (-1))], []⟩) else Out.nrm (I_szConnS l left ((k + 1 : Nat) : Int))) = (bif !(decide (A_szConnS l left (k + 1) < 0)) then Out.nrm (I_szConnS l left ((k + 1 : Nat) : Int)) else (Out.ret ⟨fr 27 [(4, .I (-1))], []⟩))
          cases decide (A_szConnS l left (k + 1) < 0) <;> rfl
        · have e : k = l.length := Nat.le_antisymm hk (Nat.not_lt.1 h)
          rw [e, show decide (((l.length : Nat) : Int) < l.length) = false from by simp, show decide (l.length < l.length) = false from by simp]; rfl))
def S_szConnS (l : List (El .conn)) (left : Int) : LoopSpec := ⟨[0, 1, 5], ids 0, I_szConnS l left (0 : Nat), .node (small l) (.node (allF (fun i => !(decide (A_szConnS l left (i + 1) < 0))) l.length 0) (.leaf (.exit 0 ⟨fr 27 [(1, .I (A_szConnS l left l.length))], []⟩)) (.leaf (.ret ⟨fr 27 [(4, .I (-1))], []⟩))) .bad, []⟩
theorem z_szConnS (l : List (El .conn)) (left : Int) : SpecOk Tryz.prog Tryz.f42 0 ⟨[0, 1, 5], ids 0, I_szConnS l left (0 : Nat), .node (small l) (.node (allF (fun i => !(decide (A_szConnS l left (i + 1) < 0))) l.length 0) (.leaf (.exit 0 ⟨fr 27 [(1, .I (A_szConnS l left l.length))], []⟩)) (.leaf (.ret ⟨fr 27 [(4, .I (-1))], []⟩))) .bad, []⟩ := .mkW fun hq => r_szConnS l left (of_decide_eq_true hq)
def V_szConnS (l : List (El .conn)) (left : Int) : Int := bif decide (wr (left - l.length) < 0) then -1 else (bif allF (fun i => !(decide (A_szConnS l left (i + 1) < 0))) l.length 0 then A_szConnS l left l.length else -1)
def c_szConnS : Entry := ent2 (cL .conn) cI fun l left => (.when (szW left l.length), .I (V_szConnS l left))
theorem o_szConnS : ∀ (l : Cd.ty ((cL .conn))) (left : Cd.ty (cI)), (szW left l.length) = true → OkC Tryz.prog 42 [(cL .conn).enc l, cI.enc left] (.I (V_szConnS l left)) := fun l left hq =>
  have hs : Sf (fnT Tryz.prog G37 (Ls [S_szConnS l left]) Tryz.f42 (bd Tryz.f42) [(cL .conn).enc l, cI.enc left]) := Sf.obls (b := bif decide (wr (left - l.length) < 0) then false else bif small l then false else true) (by kernel_rfl) ((by
    cases h : decide (wr (left - l.length) < 0) <;> try rfl
    rw [szW_small hq h]; rfl)) (l := [I_szConnS l left (0 : Nat) = I_szConnS l left (0 : Nat)]) (by kernel_rfl) (by simp)
  (show (bif decide (wr (left - l.length) < 0) then -1 else (bif small l then (bif allF (fun i => !(decide (A_szConnS l left (i + 1) < 0))) l.length 0 then A_szConnS l left l.length else -1) else 0)) = (V_szConnS l left) from (by
    unfold V_szConnS
    cases h : decide (wr (left - l.length) < 0) <;> try rfl
    rw [szW_small hq h]; rfl)) ▸ (OkC.i (fn_okL G37_ok hmx Tryz.func42 (bd_eq (by kernel_rfl)) _ _ (.cons (z_szConnS l left) (.nil _)) hs) hs (by kernel_rfl) (by kernel_rfl) : OkC Tryz.prog 42 [(cL .conn).enc l, cI.enc left] (.I (bif decide (wr (left - l.length) < 0) then -1 else (bif small l then (bif allF (fun i => !(decide (A_szConnS l left (i + 1) < 0))) l.length 0 then A_szConnS l left l.length else -1) else 0))))
theorem e_szConnS : EOk Tryz.prog 42 c_szConnS := ent2_ok Tryz.call42 fun l left hq => o_szConnS l left hq
def A_szUserS (l : List (El .user)) (left : Int) : Nat → Int
  | 0 => wr (left - l.length)
  | k + 1 => (szC (A_szUserS l left k) (l.getD k (elDef .user)).name.size fun a => szC a (l.getD k (elDef .user)).salt.size fun b => szC b (l.getD k (elDef .user)).hash.size fun d => szM d (l.getD k (elDef .user)).role.size)
def I_szUserS (l : List (El .user)) (left : Int) (z : Int) : St := ⟨fr 27 [(0, .lst .user l), (1, .I (A_szUserS l left z.toNat)), (5, .I z)], []⟩
theorem r_szUserS (l : List (El .user)) (left : Int) (hn : l.length ≤ 1099511627776) : Sat Tryz.prog 0 (.loop (lpb Tryz.f65 0)) (I_szUserS l left (0 : Nat)) (bif allF (fun i => !(decide (A_szUserS l left (i + 1) < 0))) l.length 0 then .exit 0 ⟨fr 27 [(1, .I (A_szUserS l left l.length))], []⟩ else .ret ⟨fr 27 [(4, .I (-1))], []⟩) :=
  sat_all l.length 0 (Nat.zero_le _) (I_szUserS l left) (fun i => !(decide (A_szUserS l left (i + 1) < 0))) 0 _ _ fun k h0 hk =>
    rnd_sat (v := ⟨[0, 1, 5], ids 0, [1], ids 0, [4], []⟩) G37_ok hmx (noLoops (n := 1) (by kernel_rfl)) (n := 1) (L := fun _ _ => none) (SfO.bads (b := bif decide ((k : Int) < l.length) then (bif decide ((k : Int) < l.length) then false else true) else false) (by kernel_rfl) (by cases decide ((k : Int) < l.length) <;> rfl) (by kernel_rfl))
      ((by kernel_rfl : _ = (bif decide ((k : Int) < l.length) then (bif decide ((k : Int) < l.length) then (bif decide ((szC (A_szUserS l left k) (l.getD k (elDef .user)).name.size fun a => szC a (l.getD k (elDef .user)).salt.size fun b => szC b (l.getD k (elDef .user)).hash.size fun d => szM d (l.getD k (elDef .user)).role.size) < 0) then .ret ⟨fr 27 [(4, .I (-1))], []⟩ else .nrm ⟨fr 27 [(0, .lst .user l), (1, .I ((szC (A_szUserS l left k) (l.getD k (elDef .user)).name.size fun a => szC a (l.getD k (elDef .user)).salt.size fun b => szC b (l.getD k (elDef .user)).hash.size fun d => szM d (l.getD k (elDef .user)).role.size))), (5, .I (wr (k + 1)))], []⟩) else default) else .exit 0 ⟨fr 27 [(1, .I (A_szUserS l left k))], []⟩)).trans (by
        by_cases h : k < l.length
        · rw [bnd h, wrs h hn, show decide (k < l.length) = true from by simpa using h]
          show (bif decide (A_szUserS l left (k + 1) < 0) then (Out.ret ⟨fr 27 [(4, .I (-1))], []⟩) else Out.nrm (I_szUserS l left ((k + 1 : Nat) : Int))) = (bif !(decide (A_szUserS l left (k + 1) < 0)) then Out.nrm (I_szUserS l left ((k + 1 : Nat) : Int)) else (Out.ret ⟨fr 27 [(4, .I (-1))], []⟩))
          cases decide (A_szUserS l left (k + 1) < 0) <;> rfl
        · have e : k = l.length := Nat.le_antisymm hk (Nat.not_lt.1 h)
          rw [e, show decide (((l.length : Nat) : Int) < l.length) = false from by simp, show decide (l.length < l.length) = false from by simp]; rfl))
def S_szUserS (l : List (El .user)) (left : Int) : LoopSpec := ⟨[0, 1, 5], ids 0, I_szUserS l left (0 : Nat), .node (small l) (.node (allF (fun i => !(decide (A_szUserS l left (i + 1) < 0))) l.length 0) (.leaf (.exit 0 ⟨fr 27 [(1, .I (A_szUserS l left l.length))], []⟩)) (.leaf (.ret ⟨fr 27 [(4, .I (-1))], []⟩))) .bad, []⟩
theorem z_szUserS (l : List (El .user)) (left : Int) : SpecOk Tryz.prog Tryz.f65 0 ⟨[0, 1, 5], ids 0, I_szUserS l left (0 : Nat), .node (small l) (.node (allF (fun i => !(decide (A_szUserS l left (i + 1) < 0))) l.length 0) (.leaf (.exit 0 ⟨fr 27 [(1, .I (A_szUserS l left l.length))], []⟩)) (.leaf (.ret ⟨fr 27 [(4, .I (-1))], []⟩))) .bad, []⟩ := .mkW fun hq => r_szUserS l left (of_decide_eq_true hq)
def V_szUserS (l : List (El .user)) (left : Int) : Int := bif decide (wr (left - l.length) < 0) then -1 else (bif allF (fun i => !(decide (A_szUserS l left (i + 1) < 0))) l.length 0 then A_szUserS l left l.length else -1)
def c_szUserS : Entry := ent2 (cL .user) cI fun l left => (.when (szW left l.length), .I (V_szUserS l left))
theorem o_szUserS : ∀ (l : Cd.ty ((cL .user))) (left : Cd.ty (cI)), (szW left l.length) = true → OkC Tryz.prog 65 [(cL .user).enc l, cI.enc left] (.I (V_szUserS l left)) := fun l left hq =>
  have hs : Sf (fnT Tryz.prog G37 (Ls [S_szUserS l left]) Tryz.f65 (bd Tryz.f65) [(cL .user).enc l, cI.enc left]) := Sf.obls (b := bif decide (wr (left - l.length) < 0) then false else bif small l then false else true) (by kernel_rfl) ((by
    cases h : decide (wr (left - l.length) < 0) <;> try rfl
    rw [szW_small hq h]; rfl)) (l := [I_szUserS l left (0 : Nat) = I_szUserS l left (0 : Nat)]) (by kernel_rfl) (by simp)
  (show (bif decide (wr (left - l.length) < 0) then -1 else (bif small l then (bif allF (fun i => !(decide (A_szUserS l left (i + 1) < 0))) l.length 0 then A_szUserS l left l.length else -1) else 0)) = (V_szUserS l left) from (by
    unfold V_szUserS
    cases h : decide (wr (left - l.length) < 0) <;> try rfl
    rw [szW_small hq h]; rfl)) ▸ (OkC.i (fn_okL G37_ok hmx Tryz.func65 (bd_eq (by kernel_rfl)) _ _ (.cons (z_szUserS l left) (.nil _)) hs) hs (by kernel_rfl) (by kernel_rfl) : OkC Tryz.prog 65 [(cL .user).enc l, cI.enc left] (.I (bif decide (wr (left - l.length) < 0) then -1 else (bif small l then (bif allF (fun i => !(decide (A_szUserS l left (i + 1) < 0))) l.length 0 then A_szUserS l left l.length else -1) else 0))))
theorem e_szUserS : EOk Tryz.prog 65 c_szUserS := ent2_ok Tryz.call65 fun l left hq => o_szUserS l left hq
def A_szSessionS (l : List (El .session)) (left : Int) : Nat → Int
  | 0 => wr (left - l.length)
  | k + 1 => szM (A_szSessionS l left k) (l.getD k (elDef .session)).mac.size
def I_szSessionS (l : List (El .session)) (left : Int) (z : Int) : St := ⟨fr 27 [(0, .lst .session l), (1, .I (A_szSessionS l left z.toNat)), (5, .I z)], []⟩
theorem r_szSessionS (l : List (El .session)) (left : Int) (hn : l.length ≤ 1099511627776) : Sat Tryz.prog 0 (.loop (lpb Tryz.f66 0)) (I_szSessionS l left (0 : Nat)) (bif allF (fun i => !(decide (A_szSessionS l left (i + 1) < 0))) l.length 0 then .exit 0 ⟨fr 27 [(1, .I (A_szSessionS l left l.length))], []⟩ else .ret ⟨fr 27 [(4, .I (-1))], []⟩) :=
  sat_all l.length 0 (Nat.zero_le _) (I_szSessionS l left) (fun i => !(decide (A_szSessionS l left (i + 1) < 0))) 0 _ _ fun k h0 hk =>
    rnd_sat (v := ⟨[0, 1, 5], ids 0, [1], ids 0, [4], []⟩) G37_ok hmx (noLoops (n := 1) (by kernel_rfl)) (n := 1) (L := fun _ _ => none) (SfO.bads (b := bif decide ((k : Int) < l.length) then (bif decide ((k : Int) < l.length) then false else true) else false) (by kernel_rfl) (by cases decide ((k : Int) < l.length) <;> rfl) (by kernel_rfl))
      ((by kernel_rfl : _ = (bif decide ((k : Int) < l.length) then (bif decide ((k : Int) < l.length) then (bif decide (szM (A_szSessionS l left k) (l.getD k (elDef .session)).mac.size < 0) then .ret ⟨fr 27 [(4, .I (-1))], []⟩ else .nrm ⟨fr 27 [(0, .lst .session l), (1, .I (szM (A_szSessionS l left k) (l.getD k (elDef .session)).mac.size)), (5, .I (wr (k + 1)))], []⟩) else default) else .exit 0 ⟨fr 27 [(1, .I (A_szSessionS l left k))], []⟩)).trans (by
        by_cases h : k < l.length
        · rw [bnd h, wrs h hn, show decide (k < l.length) = true from by simpa using h]
          show (bif decide (A_szSessionS l left (k + 1) < 0) then (Out.ret ⟨fr 27 [(4, .I (-1))], []⟩) else Out.nrm (I_szSessionS l left ((k + 1 : Nat) : Int))) = (bif !(decide (A_szSessionS l left (k + 1) < 0)) then Out.nrm (I_szSessionS l left ((k + 1 : Nat) : Int)) else (Out.ret ⟨fr 27 [(4, .I (-1))], []⟩))
          cases decide (A_szSessionS l left (k + 1) < 0) <;> rfl
        · have e : k = l.length := Nat.le_antisymm hk (Nat.not_lt.1 h)
          rw [e, show decide (((l.length : Nat) : Int) < l.length) = false from by simp, show decide (l.length < l.length) = false from by simp]; rfl))
def S_szSessionS (l : List (El .session)) (left : Int) : LoopSpec := ⟨[0, 1, 5], ids 0, I_szSessionS l left (0 : Nat), .node (small l) (.node (allF (fun i => !(decide (A_szSessionS l left (i + 1) < 0))) l.length 0) (.leaf (.exit 0 ⟨fr 27 [(1, .I (A_szSessionS l left l.length))], []⟩)) (.leaf (.ret ⟨fr 27 [(4, .I (-1))], []⟩))) .bad, []⟩
theorem z_szSessionS (l : List (El .session)) (left : Int) : SpecOk Tryz.prog Tryz.f66 0 ⟨[0, 1, 5], ids 0, I_szSessionS l left (0 : Nat), .node (small l) (.node (allF (fun i => !(decide (A_szSessionS l left (i + 1) < 0))) l.length 0) (.leaf (.exit 0 ⟨fr 27 [(1, .I (A_szSessionS l left l.length))], []⟩)) (.leaf (.ret ⟨fr 27 [(4, .I (-1))], []⟩))) .bad, []⟩ := .mkW fun hq => r_szSessionS l left (of_decide_eq_true hq)
def V_szSessionS (l : List (El .session)) (left : Int) : Int := bif decide (wr (left - l.length) < 0) then -1 else (bif allF (fun i => !(decide (A_szSessionS l left (i + 1) < 0))) l.length 0 then A_szSessionS l left l.length else -1)
def c_szSessionS : Entry := ent2 (cL .session) cI fun l left => (.when (szW left l.length), .I (V_szSessionS l left))
theorem o_szSessionS : ∀ (l : Cd.ty ((cL .session))) (left : Cd.ty (cI)), (szW left l.length) = true → OkC Tryz.prog 66 [(cL .session).enc l, cI.enc left] (.I (V_szSessionS l left)) := fun l left hq =>
  have hs : Sf (fnT Tryz.prog G37 (Ls [S_szSessionS l left]) Tryz.f66 (bd Tryz.f66) [(cL .session).enc l, cI.enc left]) := Sf.obls (b := bif decide (wr (left - l.length) < 0) then false else bif small l then false else true) (by kernel_rfl) ((by
    cases h : decide (wr (left - l.length) < 0) <;> try rfl
    rw [szW_small hq h]; rfl)) (l := [I_szSessionS l left (0 : Nat) = I_szSessionS l left (0 : Nat)]) (by kernel_rfl) (by simp)
  (show (bif decide (wr (left - l.length) < 0) then -1 else (bif small l then (bif allF (fun i => !(decide (A_szSessionS l left (i + 1) < 0))) l.length 0 then A_szSessionS l left l.length else -1) else 0)) = (V_szSessionS l left) from (by
    unfold V_szSessionS
    cases h : decide (wr (left - l.length) < 0) <;> try rfl
    rw [szW_small hq h]; rfl)) ▸ (OkC.i (fn_okL G37_ok hmx Tryz.func66 (bd_eq (by kernel_rfl)) _ _ (.cons (z_szSessionS l left) (.nil _)) hs) hs (by kernel_rfl) (by kernel_rfl) : OkC Tryz.prog 66 [(cL .session).enc l, cI.enc left] (.I (bif decide (wr (left - l.length) < 0) then -1 else (bif small l then (bif allF (fun i => !(decide (A_szSessionS l left (i + 1) < 0))) l.length 0 then A_szSessionS l left l.length else -1) else 0))))
theorem e_szSessionS : EOk Tryz.prog 66 c_szSessionS := ent2_ok Tryz.call66 fun l left hq => o_szSessionS l left hq
def A_szRoleS (l : List (El .role)) (left : Int) : Nat → Int
  | 0 => wr (left - l.length)
  | k + 1 => szRoleM (A_szRoleS l left k) (l.getD k (elDef .role))
def I_szRoleS (l : List (El .role)) (left : Int) (z : Int) : St := ⟨fr 27 [(0, .lst .role l), (1, .I (A_szRoleS l left z.toNat)), (5, .I z)], []⟩
theorem r_szRoleS (l : List (El .role)) (left : Int) (hn : l.length ≤ 1099511627776) : Sat Tryz.prog 0 (.loop (lpb Tryz.f64 0)) (I_szRoleS l left (0 : Nat)) (bif allF (fun i => !(decide (A_szRoleS l left (i + 1) < 0))) l.length 0 then .exit 0 ⟨fr 27 [(1, .I (A_szRoleS l left l.length))], []⟩ else .ret ⟨fr 27 [(4, .I (-1))], []⟩) :=
  sat_all l.length 0 (Nat.zero_le _) (I_szRoleS l left) (fun i => !(decide (A_szRoleS l left (i + 1) < 0))) 0 _ _ fun k h0 hk =>
    rnd_sat (v := ⟨[0, 1, 5], ids 0, [1], ids 0, [4], []⟩) G37_ok hmx (noLoops (n := 1) (by kernel_rfl)) (n := 1) (L := fun _ _ => none) (SfO.bads (b := bif decide ((k : Int) < l.length) then (bif decide ((k : Int) < l.length) then false else true) else false) (by kernel_rfl) (by cases decide ((k : Int) < l.length) <;> rfl) (by kernel_rfl))
      ((by kernel_rfl : _ = (bif decide ((k : Int) < l.length) then (bif decide ((k : Int) < l.length) then (bif decide (szRoleM (A_szRoleS l left k) (l.getD k (elDef .role)) < 0) then .ret ⟨fr 27 [(4, .I (-1))], []⟩ else .nrm ⟨fr 27 [(0, .lst .role l), (1, .I (szRoleM (A_szRoleS l left k) (l.getD k (elDef .role)))), (5, .I (wr (k + 1)))], []⟩) else default) else .exit 0 ⟨fr 27 [(1, .I (A_szRoleS l left k))], []⟩)).trans (by
        by_cases h : k < l.length
        · rw [bnd h, wrs h hn, show decide (k < l.length) = true from by simpa using h]
          show (bif decide (A_szRoleS l left (k + 1) < 0) then (Out.ret ⟨fr 27 [(4, .I (-1))], []⟩) else Out.nrm (I_szRoleS l left ((k + 1 : Nat) : Int))) = (bif !(decide (A_szRoleS l left (k + 1) < 0)) then Out.nrm (I_szRoleS l left ((k + 1 : Nat) : Int)) else (Out.ret ⟨fr 27 [(4, .I (-1))], []⟩))
          cases decide (A_szRoleS l left (k + 1) < 0) <;> rfl
        · have e : k = l.length := Nat.le_antisymm hk (Nat.not_lt.1 h)
          rw [e, show decide (((l.length : Nat) : Int) < l.length) = false from by simp, show decide (l.length < l.length) = false from by simp]; rfl))
def S_szRoleS (l : List (El .role)) (left : Int) : LoopSpec := ⟨[0, 1, 5], ids 0, I_szRoleS l left (0 : Nat), .node (small l) (.node (allF (fun i => !(decide (A_szRoleS l left (i + 1) < 0))) l.length 0) (.leaf (.exit 0 ⟨fr 27 [(1, .I (A_szRoleS l left l.length))], []⟩)) (.leaf (.ret ⟨fr 27 [(4, .I (-1))], []⟩))) .bad, []⟩
theorem z_szRoleS (l : List (El .role)) (left : Int) : SpecOk Tryz.prog Tryz.f64 0 ⟨[0, 1, 5], ids 0, I_szRoleS l left (0 : Nat), .node (small l) (.node (allF (fun i => !(decide (A_szRoleS l left (i + 1) < 0))) l.length 0) (.leaf (.exit 0 ⟨fr 27 [(1, .I (A_szRoleS l left l.length))], []⟩)) (.leaf (.ret ⟨fr 27 [(4, .I (-1))], []⟩))) .bad, []⟩ := .mkW fun hq => r_szRoleS l left (of_decide_eq_true hq)
def V_szRoleS (l : List (El .role)) (left : Int) : Int := bif decide (wr (left - l.length) < 0) then -1 else (bif allF (fun i => !(decide (A_szRoleS l left (i + 1) < 0))) l.length 0 then A_szRoleS l left l.length else -1)
def c_szRoleS : Entry := ent2 (cL .role) cI fun l left => (.when (szW left l.length), .I (V_szRoleS l left))
theorem o_szRoleS : ∀ (l : Cd.ty ((cL .role))) (left : Cd.ty (cI)), (szW left l.length) = true → OkC Tryz.prog 64 [(cL .role).enc l, cI.enc left] (.I (V_szRoleS l left)) := fun l left hq =>
  have hs : Sf (fnT Tryz.prog G37 (Ls [S_szRoleS l left]) Tryz.f64 (bd Tryz.f64) [(cL .role).enc l, cI.enc left]) := Sf.obls (b := bif decide (wr (left - l.length) < 0) then false else bif small l then false else true) (by kernel_rfl) ((by
    cases h : decide (wr (left - l.length) < 0) <;> try rfl
    rw [szW_small hq h]; rfl)) (l := [I_szRoleS l left (0 : Nat) = I_szRoleS l left (0 : Nat)]) (by kernel_rfl) (by simp)
  (show (bif decide (wr (left - l.length) < 0) then -1 else (bif small l then (bif allF (fun i => !(decide (A_szRoleS l left (i + 1) < 0))) l.length 0 then A_szRoleS l left l.length else -1) else 0)) = (V_szRoleS l left) from (by
    unfold V_szRoleS
    cases h : decide (wr (left - l.length) < 0) <;> try rfl
    rw [szW_small hq h]; rfl)) ▸ (OkC.i (fn_okL G37_ok hmx Tryz.func64 (bd_eq (by kernel_rfl)) _ _ (.cons (z_szRoleS l left) (.nil _)) hs) hs (by kernel_rfl) (by kernel_rfl) : OkC Tryz.prog 64 [(cL .role).enc l, cI.enc left] (.I (bif decide (wr (left - l.length) < 0) then -1 else (bif small l then (bif allF (fun i => !(decide (A_szRoleS l left (i + 1) < 0))) l.length 0 then A_szRoleS l left l.length else -1) else 0))))
theorem e_szRoleS : EOk Tryz.prog 64 c_szRoleS := ent2_ok Tryz.call64 fun l left hq => o_szRoleS l left hq
def G38 : Ctx := G37.add [(41, c_szFlowS), (42, c_szConnS), (65, c_szUserS), (66, c_szSessionS), (64, c_szRoleS)]
theorem G38_ok : COk Tryz.prog G38 := G37_ok.add (CsOk.cons e_szFlowS (CsOk.cons e_szConnS (CsOk.cons e_szUserS (CsOk.cons e_szSessionS (CsOk.cons e_szRoleS (CsOk.nil))))))
end Go.Proofs.YthlebalbiokjpaaGreat
