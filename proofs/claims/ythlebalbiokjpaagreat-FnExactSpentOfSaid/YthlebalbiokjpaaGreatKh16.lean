/- The gateway's tests: users, roles by name. | The gateway's tests: lists of users, closures over sessions and records. | The gateway's tests: guests, impl's. -/
import Derived.Test.YthlebalbiokjpaaGreatKh15
namespace Go.Proofs.YthlebalbiokjpaaGreat
open Go.RowKit
set_option linter.unusedVariables false
set_option maxRecDepth 100000

def G18 : Ctx := G17.add [(130, c_ConfigOK), (121, c_sConfigOK)]
theorem G18_ok : COk Tryz.prog G18 := G17_ok.add (CsOk.cons e_ConfigOK (CsOk.cons e_sConfigOK (CsOk.nil)))
def roleQ (l : List XRole) (t : ByteArray) (i : Nat) : Bool := (l.getD i (elDef .role)).name.toList == t.toList
def roleHas (c : XConfig) (t : ByteArray) : Bool := anyN c.roles.length (roleQ c.roles t)
def roleAt (c : XConfig) (t : ByteArray) : Nat := fstN c.roles.length (roleQ c.roles t)
theorem bb1 (n : Nat) (k : Nat) : (bif decide ((k : Int) < n) then (bif decide ((k : Int) < n) then false else true) else false) = false := by cases decide ((k : Int) < n) <;> rfl
theorem bb2 (n : Nat) (k : Nat) (b : Bool) : (bif decide ((k : Int) < n) then (bif decide ((k : Int) < n) then (bif b then (bif decide ((k : Int) < n) then false else true) else false) else true) else false) = false := by cases decide ((k : Int) < n) <;> cases b <;> rfl
def I_role (c : Cd.ty ((cR0 .config))) (t : Cd.ty (cS)) (z : Int) : St := ⟨fr 31 [(0, .ref (row .config c)), (1, .S t), (10, .I c.roles.length), (11, .I z)], []⟩
theorem r_role (c : Cd.ty ((cR0 .config))) (t : Cd.ty (cS)) (hn : c.roles.length ≤ 1099511627776)  : Sat Tryz.prog 0 (.loop (lpb Tryz.f205 0)) (I_role c t (0 : Nat)) (bif anyN (c.roles.length) (fun i => roleQ c.roles t i) then .ret ⟨fr 31 [(4, .ref (row .role (c.roles.getD (fstN (c.roles.length) (fun i => roleQ c.roles t i)) (elDef .role))))], []⟩ else .exit 0 ⟨fr 31 [], []⟩) :=
  sat_find (c.roles.length) (I_role c t) (fun i => roleQ c.roles t i) 0 _ (fun k => ⟨fr 31 [(4, .ref (row .role (c.roles.getD k (elDef .role))))], []⟩) fun k hk =>
    rnd_sat (v := ⟨[0, 1, 10, 11], ids 0, [], ids 0, [4], []⟩) G18_ok hmx (noLoops (n := 1) (by kernel_rfl)) (n := 1) (L := fun _ _ => none) (SfO.bads (b := bif decide ((k : Int) < c.roles.length) then (bif decide ((k : Int) < c.roles.length) then (bif (c.roles.getD k (elDef .role)).name.toList == t.toList then (bif decide ((k : Int) < c.roles.length) then false else true) else false) else true) else false) (by kernel_rfl) (bb2 _ _ _) (by kernel_rfl))
      ((by kernel_rfl : _ = (bif decide ((k : Int) < (c.roles.length : Nat)) then (bif decide ((k : Int) < c.roles.length) then (bif (c.roles.getD k (elDef .role)).name.toList == t.toList then (bif decide ((k : Int) < c.roles.length) then .ret ⟨fr 31 [(4, .ref (row .role (c.roles.getD k (elDef .role))))], []⟩ else default) else .nrm (I_role c t (wr (k + 1)))) else default) else .exit 0 ⟨fr 31 [], []⟩)).trans (all_eq fun hk => ((by rw [bnd hk, wrs hk hn]; rfl))))
def S_role (c : Cd.ty ((cR0 .config))) (t : Cd.ty (cS)) : LoopSpec := ⟨[0, 1, 10, 11], ids 0, I_role c t (0 : Nat), (.node (decide (c.roles.length ≤ 1099511627776)) (.node (anyN (c.roles.length) (fun i => roleQ c.roles t i)) (.leaf (.ret ⟨fr 31 [(4, .ref (row .role (c.roles.getD (fstN (c.roles.length) (fun i => roleQ c.roles t i)) (elDef .role))))], []⟩)) (.leaf (.exit 0 ⟨fr 31 [], []⟩))) .bad), []⟩
theorem z_role (c : Cd.ty ((cR0 .config))) (t : Cd.ty (cS)) : SpecOk Tryz.prog Tryz.f205 0 ⟨[0, 1, 10, 11], ids 0, I_role c t (0 : Nat), (.node (decide (c.roles.length ≤ 1099511627776)) (.node (anyN (c.roles.length) (fun i => roleQ c.roles t i)) (.leaf (.ret ⟨fr 31 [(4, .ref (row .role (c.roles.getD (fstN (c.roles.length) (fun i => roleQ c.roles t i)) (elDef .role))))], []⟩)) (.leaf (.exit 0 ⟨fr 31 [], []⟩))) .bad), []⟩ := .mkW fun hq => r_role c t (of_decide_eq_true hq)
def c_role : Entry := ent2 (cR0 .config) cS fun c t => (.when (small c.roles), .opt (roleHas c t) (row .role (c.roles.getD (roleAt c t) (elDef .role))))
theorem o_role (c : XConfig) (t : ByteArray) (hq : small c.roles = true) : OkC Tryz.prog 205 [(cR0 .config).enc c, cS.enc t] (.opt (roleHas c t) (row .role (c.roles.getD (roleAt c t) (elDef .role)))) :=
  have hs : Sf (fnT Tryz.prog G18 (Ls [S_role c t]) Tryz.f205 (bd Tryz.f205) [(cR0 .config).enc c, cS.enc t]) := Sf.obls (b := bif small c.roles then false else true) (by kernel_rfl) (by rw [hq]; rfl) (l := [I_role c t (0 : Nat) = I_role c t (0 : Nat)]) (by kernel_rfl) (by simp)
  OkC.o (fn_okL G18_ok hmx Tryz.func205 (bd_eq (by kernel_rfl)) _ _ (.cons (z_role c t) (.nil _)) hs) hs (by kernel_rfl)
    ((by kernel_rfl : _ = (bif small c.roles then (bif roleHas c t then true else false) else false)).trans (by rw [hq]; cases roleHas c t <;> rfl))
    ((by kernel_rfl : _ = (bif small c.roles then (bif roleHas c t then row .role (c.roles.getD (roleAt c t) (elDef .role)) else []) else [])).trans (by rw [hq]; rfl))
theorem e_role : EOk Tryz.prog 205 c_role := ent2_ok Tryz.call205 fun c t hq => o_role c t hq
def I_l08Role (c : Cd.ty ((cA0 .config))) (t : Cd.ty (cS)) (z : Int) : St := ⟨fr 22 [(1, .S t), (2, .box 0 0), (5, .I z)], [⟨44, .cells (row .config c), false, false⟩]⟩
theorem r_l08Role (c : Cd.ty ((cA0 .config))) (t : Cd.ty (cS)) (hn : c.roles.length ≤ 1099511627776)  : Sat Tryz.prog 0 (.loop (lpb Tryz.f192 0)) (I_l08Role c t (0 : Nat)) (bif anyN (c.roles.length) (fun i => roleQ c.roles t i) then .ret ⟨fr 22 [(4, .I ((fstN (c.roles.length) (fun i => roleQ c.roles t i)) : Nat))], []⟩ else .exit 0 ⟨fr 22 [], []⟩) :=
  sat_find (c.roles.length) (I_l08Role c t) (fun i => roleQ c.roles t i) 0 _ (fun k => ⟨fr 22 [(4, .I (k : Nat))], []⟩) fun k hk =>
    rnd_sat (v := ⟨[1, 2, 5], ids 1, [], ids 0, [4], []⟩) G18_ok hmx (noLoops (n := 1) (by kernel_rfl)) (n := 1) (L := fun _ _ => none) (SfO.bads (b := bif decide ((k : Int) < c.roles.length) then (bif decide ((k : Int) < c.roles.length) then false else true) else false) (by kernel_rfl) (bb1 _ _) (by kernel_rfl))
      ((by kernel_rfl : _ = (bif decide ((k : Int) < (c.roles.length : Nat)) then (bif decide ((k : Int) < c.roles.length) then (bif (c.roles.getD k (elDef .role)).name.toList == t.toList then .ret ⟨fr 22 [(4, .I (k : Nat))], []⟩ else .nrm (I_l08Role c t (wr (k + 1)))) else default) else .exit 0 ⟨fr 22 [], []⟩)).trans (all_eq fun hk => ((by rw [bnd hk, wrs hk hn]; rfl))))
def S_l08Role (c : Cd.ty ((cA0 .config))) (t : Cd.ty (cS)) : LoopSpec := ⟨[1, 2, 5], ids 1, I_l08Role c t (0 : Nat), (.node (decide (c.roles.length ≤ 1099511627776)) (.node (anyN (c.roles.length) (fun i => roleQ c.roles t i)) (.leaf (.ret ⟨fr 22 [(4, .I ((fstN (c.roles.length) (fun i => roleQ c.roles t i)) : Nat))], []⟩)) (.leaf (.exit 0 ⟨fr 22 [], []⟩))) .bad), []⟩
theorem z_l08Role (c : Cd.ty ((cA0 .config))) (t : Cd.ty (cS)) : SpecOk Tryz.prog Tryz.f192 0 ⟨[1, 2, 5], ids 1, I_l08Role c t (0 : Nat), (.node (decide (c.roles.length ≤ 1099511627776)) (.node (anyN (c.roles.length) (fun i => roleQ c.roles t i)) (.leaf (.ret ⟨fr 22 [(4, .I ((fstN (c.roles.length) (fun i => roleQ c.roles t i)) : Nat))], []⟩)) (.leaf (.exit 0 ⟨fr 22 [], []⟩))) .bad), []⟩ := .mkW fun hq => r_l08Role c t (of_decide_eq_true hq)
def c_l08Role : Entry := ent2 (cA0 .config) cS fun c t => (.when (small c.roles), .I (idxM c.roles.length (roleQ c.roles t)))
theorem o_l08Role : ∀ (c : Cd.ty ((cA0 .config))) (t : Cd.ty (cS)), (small c.roles) = true → OkC Tryz.prog 192 [(cA0 .config).enc c, cS.enc t] (.I (idxM c.roles.length (roleQ c.roles t))) := fun c t hq =>
  have hs : Sf (fnT Tryz.prog G18 (Ls [S_l08Role c t]) Tryz.f192 (bd Tryz.f192) [(cA0 .config).enc c, cS.enc t]) := Sf.obls (b := bif small c.roles then false else true) (by kernel_rfl) ((by rw [hq]; rfl)) (l := [I_l08Role c t (0 : Nat) = I_l08Role c t (0 : Nat)]) (by kernel_rfl) (by simp)
  (show (bif small c.roles then idxM c.roles.length (roleQ c.roles t) else 0) = (idxM c.roles.length (roleQ c.roles t)) from (by rw [hq]; rfl)) ▸ (OkC.i (fn_okL G18_ok hmx Tryz.func192 (bd_eq (by kernel_rfl)) _ _ (.cons (z_l08Role c t) (.nil _)) hs) hs (by kernel_rfl) (by kernel_rfl) : OkC Tryz.prog 192 [(cA0 .config).enc c, cS.enc t] (.I (bif small c.roles then idxM c.roles.length (roleQ c.roles t) else 0)))
theorem e_l08Role : EOk Tryz.prog 192 c_l08Role := ent2_ok Tryz.call192 fun c t hq => o_l08Role c t hq
def G19 : Ctx := G18.add [(205, c_role), (192, c_l08Role)]
theorem G19_ok : COk Tryz.prog G19 := G18_ok.add (CsOk.cons e_role (CsOk.cons e_l08Role (CsOk.nil)))
def userM (c : XConfig) (u : XUser) : Bool := shortM u.name && (decide ((u.salt.size : Int) ≤ 40) && ((u.hash.size : Int) == 32 && (roleHas c u.role && (w_ u.balance 0 1000000 && w_ u.logins 0 1000))))
def c_userOK : Entry := ent2 (cR0 .config) (cA0 .user) fun c u => (.when (small c.roles), .b (userM c u))
theorem o_userOK : ∀ c u, (small c.roles) = true → OkC Tryz.prog 131 [(cR0 .config).enc c, (cA0 .user).enc u] (.b (userM c u)) := fun c u hq =>
  have hs : Sf (fnT Tryz.prog G19 (fun _ _ => none) Tryz.f131 (bd Tryz.f131) [(cR0 .config).enc c, (cA0 .user).enc u]) := Sf.bads (b := shortM u.name && (decide ((u.salt.size : Int) ≤ 40) && ((u.hash.size : Int) == 32 && (bif small c.roles then false else true)))) (by kernel_rfl) ((by rw [hq]; cases shortM u.name <;> cases decide ((u.salt.size : Int) ≤ 40) <;> cases (u.hash.size : Int) == 32 <;> rfl)) (by kernel_rfl)
  (show (shortM u.name && (decide ((u.salt.size : Int) ≤ 40) && ((u.hash.size : Int) == 32 && (bif small c.roles then (bif !(roleHas c u.role) then false else (w_ u.balance 0 1000000 && w_ u.logins 0 1000)) else false)))) = (userM c u) from (by rw [hq]; unfold userM; cases roleHas c u.role <;> rfl)) ▸ (OkC.b (fn_ok0 G19_ok hmx Tryz.func131 (bd_eq (by kernel_rfl)) _ hs) hs (by kernel_rfl) (by kernel_rfl) : OkC Tryz.prog 131 [(cR0 .config).enc c, (cA0 .user).enc u] (.b (shortM u.name && (decide ((u.salt.size : Int) ≤ 40) && ((u.hash.size : Int) == 32 && (bif small c.roles then (bif !(roleHas c u.role) then false else (w_ u.balance 0 1000000 && w_ u.logins 0 1000)) else false))))))
theorem e_userOK : EOk Tryz.prog 131 c_userOK := ent2_ok Tryz.call131 fun c u hq => o_userOK c u hq
def G20 : Ctx := G19.add [(131, c_userOK)]
theorem G20_ok : COk Tryz.prog G20 := G19_ok.add (CsOk.cons e_userOK (CsOk.nil))
/-- Users rise by their names. -/
def usersM (c : XConfig) (l : List XUser) (i : Nat) : Bool := bif userM c (l.getD i (elDef .user)) then (bif decide ((i : Int) > 0) then !(geS (l.getD (wr ((i : Int) - 1)).toNat (elDef .user)).name (l.getD i (elDef .user)).name) else true) else false
theorem idx_neg {n : Nat} {q : Nat → Bool} : decide (idxM n q < 0) = !(anyN n q) := by
  unfold idxM
  cases anyN n q <;> simp
/-- spec's users. -/
def userS (c : XConfig) (u : XUser) (x y : Bool) : Bool := bif shortM u.name then (bif decide ((u.salt.size : Int) > 40) then false else bif (u.hash.size : Int) == 32 then (bif x then (bif decide (idxM c.roles.length (roleQ c.roles u.role) < 0) then false else (w_ u.balance 0 1000000 && (w_ u.logins 0 1000 && y))) else false) else false) else false
theorem userS_eq (c : XConfig) (u : XUser) (y : Bool) : userS c u true y = (userM c u && y) := by
  unfold userS userM
  rw [idx_neg, show decide ((u.salt.size : Int) ≤ 40) = !decide ((u.salt.size : Int) > 40) from by rw [Bool.eq_iff_iff]; simp, show roleHas c u.role = anyN c.roles.length (roleQ c.roles u.role) from rfl]
  cases shortM u.name <;> cases decide ((u.salt.size : Int) > 40) <;> cases (u.hash.size : Int) == 32 <;> cases anyN c.roles.length (roleQ c.roles u.role) <;> cases w_ u.balance 0 1000000 <;> cases w_ u.logins 0 1000 <;> rfl
end Go.Proofs.YthlebalbiokjpaaGreat
namespace Go.Proofs.YthlebalbiokjpaaGreat
open Go.RowKit
set_option linter.unusedVariables false
set_option maxRecDepth 100000

/-- The element, the one ahead. -/
abbrev gU (l : List XUser) (k : Nat) : XUser := l.getD k (elDef .user)
theorem and2 {a b : Bool} (h : (a && b) = true) : a = true ∧ b = true := by simpa using h
def I_l08Users (c : Cd.ty ((cA0 .config))) (l : Cd.ty ((cL .user))) (z : Int) : St := ⟨fr 70 [(1, .lst .user l), (2, .box 0 0), (5, .I z)], [⟨44, .cells (row .config c), false, false⟩]⟩
theorem r_l08Users (c : Cd.ty ((cA0 .config))) (l : Cd.ty ((cL .user))) (hn : l.length ≤ 1099511627776) (hr : small c.roles = true) (h0 : 0 ≤ l.length) : Sat Tryz.prog 0 (.loop (lpb Tryz.f122 0)) (I_l08Users c l (0 : Nat)) (bif allF (fun i => usersM c l i) (l.length) 0 then .exit 0 ⟨fr 70 [(1, .lst .user l)], []⟩ else .ret ⟨fr 70 [(4, .v (.bool false))], []⟩) :=
  sat_all (l.length) 0 h0 (I_l08Users c l) (fun i => usersM c l i) 0 _ _ fun k h0 hk =>
    rnd_sat (v := ⟨[1, 2, 5], ids 1, [1], ids 0, [4], []⟩) G20_ok hmx (noLoops (n := 1) (by kernel_rfl)) (n := 1) (L := fun _ _ => none) (SfO.bads (b := bif decide ((k : Int) < l.length) then (bif decide ((k : Int) < l.length) then (bif shortM (gU l k).name then (bif decide (((gU l k).salt.size : Int) > 40) then false else bif ((gU l k).hash.size : Int) == 32 then (bif small c.roles then (bif decide (idxM c.roles.length (roleQ c.roles (gU l k).role) < 0) then false else (w_ (gU l k).balance 0 1000000 && (w_ (gU l k).logins 0 1000 && (bif decide ((k : Int) > 0) then (bif decide ((0 : Int) ≤ wr (k - 1)) then (bif decide (wr (k - 1) < l.length) then false else true) else true) else false)))) else true) else false) else false) else true) else false) (by kernel_rfl) ((by
    by_cases hlt : k < l.length
    · rw [bnd hlt, hr]
      cases shortM (gU l k).name <;> cases decide (((gU l k).salt.size : Int) > 40) <;> cases ((gU l k).hash.size : Int) == 32 <;> cases decide (idxM c.roles.length (roleQ c.roles (gU l k).role) < 0) <;> cases w_ (gU l k).balance 0 1000000 <;> cases w_ (gU l k).logins 0 1000 <;> cases h : decide ((k : Int) > 0) <;> try rfl
      rw [(ahead hlt hn h).1, (ahead hlt hn h).2]; rfl
    · rw [show decide ((k : Int) < l.length) = false from by simpa using hlt]; rfl)) (by kernel_rfl))
      ((by kernel_rfl : _ = (bif decide ((k : Int) < (l.length : Nat)) then (bif decide ((k : Int) < l.length) then (bif shortM (gU l k).name then (bif decide (((gU l k).salt.size : Int) > 40) then .ret ⟨fr 70 [(4, .v (.bool false))], []⟩ else bif ((gU l k).hash.size : Int) == 32 then (bif small c.roles then (bif decide (idxM c.roles.length (roleQ c.roles (gU l k).role) < 0) then .ret ⟨fr 70 [(4, .v (.bool false))], []⟩ else bif w_ (gU l k).balance 0 1000000 then (bif w_ (gU l k).logins 0 1000 then (bif decide ((k : Int) > 0) then (bif decide ((0 : Int) ≤ wr (k - 1)) then (bif decide (wr (k - 1) < l.length) then (bif Op.bytesLess (gU l (wr ((k : Int) - 1)).toNat).name.toList (gU l k).name.toList then .nrm (I_l08Users c l (wr (k + 1))) else .ret ⟨fr 70 [(4, .v (.bool false))], []⟩) else default) else default) else .nrm (I_l08Users c l (wr (k + 1)))) else .ret ⟨fr 70 [(4, .v (.bool false))], []⟩) else .ret ⟨fr 70 [(4, .v (.bool false))], []⟩) else default) else .ret ⟨fr 70 [(4, .v (.bool false))], []⟩) else .ret ⟨fr 70 [(4, .v (.bool false))], []⟩) else default) else .exit 0 ⟨fr 70 [(1, .lst .user l)], []⟩)).trans (all_eq fun hk => ((by
    rw [bnd hk, wrs hk hn, hr]
    unfold usersM geS
    have hu := userS_eq c (gU l k) true
    unfold userS at hu
    simp only [Bool.and_true] at hu
    rw [← hu]
    cases shortM (gU l k).name <;> cases decide (((gU l k).salt.size : Int) > 40) <;> cases ((gU l k).hash.size : Int) == 32 <;> cases decide (idxM c.roles.length (roleQ c.roles (gU l k).role) < 0) <;> cases w_ (gU l k).balance 0 1000000 <;> cases w_ (gU l k).logins 0 1000 <;> cases h : decide ((k : Int) > 0) <;> try rfl
    rw [(ahead hk hn h).1, (ahead hk hn h).2]
    cases Op.bytesLess (gU l (wr ((k : Int) - 1)).toNat).name.toList (gU l k).name.toList <;> rfl))))
def S_l08Users (c : Cd.ty ((cA0 .config))) (l : Cd.ty ((cL .user))) : LoopSpec := ⟨[1, 2, 5], ids 1, I_l08Users c l (0 : Nat), (.node (small c.roles && small l) (.node (allF (fun i => usersM c l i) (l.length) 0) (.leaf (.exit 0 ⟨fr 70 [(1, .lst .user l)], []⟩)) (.leaf (.ret ⟨fr 70 [(4, .v (.bool false))], []⟩))) .bad), []⟩
theorem z_l08Users (c : Cd.ty ((cA0 .config))) (l : Cd.ty ((cL .user)))  : SpecOk Tryz.prog Tryz.f122 0 ⟨[1, 2, 5], ids 1, I_l08Users c l (0 : Nat), (.node (small c.roles && small l) (.node (allF (fun i => usersM c l i) (l.length) 0) (.leaf (.exit 0 ⟨fr 70 [(1, .lst .user l)], []⟩)) (.leaf (.ret ⟨fr 70 [(4, .v (.bool false))], []⟩))) .bad), []⟩ := .mkW fun hq => r_l08Users c l (of_decide_eq_true (and2 hq).2) (and2 hq).1 (Nat.zero_le _)
def usersL (c : XConfig) (l : List XUser) : Bool := allN l.length (usersM c l) && decide ((l.length : Int) ≤ 6)
def c_l08Users : Entry := ent2 (cA0 .config) (cL .user) fun c l => (.when (small c.roles && small l), .b (usersL c l))
theorem o_l08Users : ∀ (c : Cd.ty ((cA0 .config))) (l : Cd.ty ((cL .user))), (small c.roles && small l) = true → OkC Tryz.prog 122 [(cA0 .config).enc c, (cL .user).enc l] (.b (usersL c l)) := fun c l hq =>
  have hs : Sf (fnT Tryz.prog G20 (Ls [S_l08Users c l]) Tryz.f122 (bd Tryz.f122) [(cA0 .config).enc c, (cL .user).enc l]) := Sf.obls (b := bif (small c.roles && small l) then false else true) (by kernel_rfl) ((by rw [hq]; rfl)) (l := [I_l08Users c l (0 : Nat) = I_l08Users c l (0 : Nat)]) (by kernel_rfl) (by simp)
  (show (bif (small c.roles && small l) then (bif allF (fun i => usersM c l i) l.length 0 then decide ((l.length : Int) ≤ 6) else false) else false) = (usersL c l) from (by rw [hq, allF_zero]; unfold usersL; cases h : allN l.length (usersM c l) <;> simp_all)) ▸ (OkC.b (fn_okL G20_ok hmx Tryz.func122 (bd_eq (by kernel_rfl)) _ _ (.cons (z_l08Users c l) (.nil _)) hs) hs (by kernel_rfl) (by kernel_rfl) : OkC Tryz.prog 122 [(cA0 .config).enc c, (cL .user).enc l] (.b (bif (small c.roles && small l) then (bif allF (fun i => usersM c l i) l.length 0 then decide ((l.length : Int) ≤ 6) else false) else false)))
theorem e_l08Users : EOk Tryz.prog 122 c_l08Users := ent2_ok Tryz.call122 fun c l hq => o_l08Users c l hq
def G21 : Ctx := G20.add [(122, c_l08Users), (133, c_sessionOK), (134, c_failOK), (136, c_recordOK)]
theorem G21_ok : COk Tryz.prog G21 := G20_ok.add (CsOk.cons e_l08Users (CsOk.cons e_sessionOK (CsOk.cons e_failOK (CsOk.cons e_recordOK (CsOk.nil)))))
/-- Sessions that clash. -/
def clashM (x s : XSession) : Bool := bif x.user == s.user then true else bif x.mac.toList == s.mac.toList then true else x.ip == s.ip
def c_guestsOK1 : Entry := ent2 (cA0 .session) (cR0 .session) fun x s => (.yes, .b (clashM x s))
theorem o_guestsOK1 : ∀ x s, OkC Tryz.prog 132 [(cA0 .session).enc x, (cR0 .session).enc s] (.b (clashM x s)) := fun x s =>
  have hs : Sf (fnT Tryz.prog G20 (fun _ _ => none) Tryz.f132 (bd Tryz.f132) [(cA0 .session).enc x, (cR0 .session).enc s]) := Sf.chk (by kernel_rfl)
  OkC.b (fn_ok0 G20_ok hmx Tryz.func132 (bd_eq (by kernel_rfl)) _ hs) hs (by kernel_rfl) (by kernel_rfl)
theorem e_guestsOK1 : EOk Tryz.prog 132 c_guestsOK1 := ent2_ok Tryz.call132 fun x s hq => o_guestsOK1 x s
def c_guestsOK2 : Entry := ent2 (cA0 .record) (cR0 .guests) fun r g => (.yes, .b (!(recordOK g r)))
theorem o_guestsOK2 : ∀ r g, OkC Tryz.prog 135 [(cA0 .record).enc r, (cR0 .guests).enc g] (.b (!(recordOK g r))) := fun r g =>
  have hs : Sf (fnT Tryz.prog G21 (fun _ _ => none) Tryz.f135 (bd Tryz.f135) [(cA0 .record).enc r, (cR0 .guests).enc g]) := Sf.chk (by kernel_rfl)
  OkC.b (fn_ok0 G21_ok hmx Tryz.func135 (bd_eq (by kernel_rfl)) _ hs) hs (by kernel_rfl) (by kernel_rfl)
theorem e_guestsOK2 : EOk Tryz.prog 135 c_guestsOK2 := ent2_ok Tryz.call135 fun r g hq => o_guestsOK2 r g
end Go.Proofs.YthlebalbiokjpaaGreat
namespace Go.Proofs.YthlebalbiokjpaaGreat
open Go.RowKit
set_option linter.unusedVariables false
set_option maxRecDepth 100000

def G22 : Ctx := G21.add [(132, c_guestsOK1), (135, c_guestsOK2)]
theorem G22_ok : COk Tryz.prog G22 := G21_ok.add (CsOk.cons e_guestsOK1 (CsOk.cons e_guestsOK2 (CsOk.nil)))
abbrev k_clash := cC1 132 (cR0 .session)
abbrev k_rec := cC1 135 (cR0 .guests)
def I_idxClash (l : List (El .session)) (s : Cd.ty (k_clash)) (z : Int) : St := ⟨fr 19 [(0, .lst .session l), (1, k_clash.enc s), (7, .I l.length), (8, .I z)], []⟩
theorem r_idxClash (l : List (El .session)) (s : Cd.ty (k_clash)) (hn : l.length ≤ 1099511627776) : Sat Tryz.prog 0 (.loop (lpb Tryz.f140 0)) (I_idxClash l s (0 : Nat)) (bif anyN l.length (fun i => clashM (l.getD i (elDef .session)) s) then .ret ⟨fr 19 [(4, .I (fstN l.length (fun i => clashM (l.getD i (elDef .session)) s) : Nat))], []⟩ else .exit 0 ⟨fr 19 [], []⟩) :=
  sat_find l.length (I_idxClash l s) (fun i => clashM (l.getD i (elDef .session)) s) 0 _ (fun k => ⟨fr 19 [(4, .I (k : Nat))], []⟩) fun k hk =>
    rnd_sat (v := ⟨[0, 1, 7, 8], ids 0, [], ids 0, [4], []⟩) G22_ok hmx (noLoops (n := 1) (by kernel_rfl)) (n := 1) (L := fun _ _ => none) (SfO.bads (b := bif decide ((k : Int) < l.length) then (bif decide ((k : Int) < l.length) then false else true) else false) (by kernel_rfl) (by cases decide ((k : Int) < l.length) <;> rfl) (by kernel_rfl))
      ((by kernel_rfl : _ = (bif decide ((k : Int) < l.length) then (bif decide ((k : Int) < l.length) then (bif (fun i => clashM (l.getD i (elDef .session)) s) k then .ret ⟨fr 19 [(4, .I (k : Nat))], []⟩ else .nrm (I_idxClash l s (wr (k + 1)))) else default) else .exit 0 ⟨fr 19 [], []⟩)).trans (rnd_eq (f := fun z => .nrm (I_idxClash l s z)) (q := (fun i => clashM (l.getD i (elDef .session)) s) k) (r := .ret ⟨fr 19 [(4, .I (k : Nat))], []⟩) (x := .exit 0 ⟨fr 19 [], []⟩) hn))
def S_idxClash (l : List (El .session)) (s : Cd.ty (k_clash)) : List LoopSpec := [⟨[0, 1, 7, 8], ids 0, I_idxClash l s (0 : Nat), .node (small l) (.node (anyN l.length (fun i => clashM (l.getD i (elDef .session)) s)) (.leaf (.ret ⟨fr 19 [(4, .I (fstN l.length (fun i => clashM (l.getD i (elDef .session)) s) : Nat))], []⟩)) (.leaf (.exit 0 ⟨fr 19 [], []⟩))) .bad, []⟩]
theorem z_idxClash (l : List (El .session)) (s : Cd.ty (k_clash)) : SpecOk Tryz.prog Tryz.f140 0 ⟨[0, 1, 7, 8], ids 0, I_idxClash l s (0 : Nat), .node (small l) (.node (anyN l.length (fun i => clashM (l.getD i (elDef .session)) s)) (.leaf (.ret ⟨fr 19 [(4, .I (fstN l.length (fun i => clashM (l.getD i (elDef .session)) s) : Nat))], []⟩)) (.leaf (.exit 0 ⟨fr 19 [], []⟩))) .bad, []⟩ := .mkW fun hq => r_idxClash l s (of_decide_eq_true hq)
def c_idxClash : Entry := ent2 (cL .session) (k_clash) fun l s => (.when (small l), .I (idxM l.length (fun i => clashM (l.getD i (elDef .session)) s)))
theorem o_idxClash : ∀ (l : List (El .session)) (s : Cd.ty (k_clash)), small l = true → OkC Tryz.prog 140 [(cL .session).enc l, k_clash.enc s] (.I (idxM l.length (fun i => clashM (l.getD i (elDef .session)) s))) := fun l s hq =>
  have hs : Sf (fnT Tryz.prog G22 (Ls (S_idxClash l s)) Tryz.f140 (bd Tryz.f140) [(cL .session).enc l, k_clash.enc s]) := Sf.obls (b := bif small l then false else true) (by kernel_rfl) (by rw [hq]; rfl) (l := [I_idxClash l s (0 : Nat) = I_idxClash l s (0 : Nat)]) (by kernel_rfl) (by simp)
  (show (bif small l then idxM l.length (fun i => clashM (l.getD i (elDef .session)) s) else 0) = idxM l.length (fun i => clashM (l.getD i (elDef .session)) s) from by rw [hq]; rfl) ▸ (OkC.i (fn_okL G22_ok hmx Tryz.func140 (bd_eq (by kernel_rfl)) _ _ (.cons (z_idxClash l s) (.nil _)) hs) hs (by kernel_rfl) (by kernel_rfl) : OkC Tryz.prog 140 [(cL .session).enc l, k_clash.enc s] (.I (bif small l then idxM l.length (fun i => clashM (l.getD i (elDef .session)) s) else 0)))
theorem e_idxClash : EOk Tryz.prog 140 c_idxClash := ent2_ok Tryz.call140 fun l s hq => o_idxClash l s hq
def I_idxRec (l : List (El .record)) (g : Cd.ty (k_rec)) (z : Int) : St := ⟨fr 19 [(0, .lst .record l), (1, k_rec.enc g), (7, .I l.length), (8, .I z)], []⟩
theorem r_idxRec (l : List (El .record)) (g : Cd.ty (k_rec)) (hn : l.length ≤ 1099511627776) : Sat Tryz.prog 0 (.loop (lpb Tryz.f177 0)) (I_idxRec l g (0 : Nat)) (bif anyN l.length (fun i => !(recordOK g (l.getD i (elDef .record)))) then .ret ⟨fr 19 [(4, .I (fstN l.length (fun i => !(recordOK g (l.getD i (elDef .record)))) : Nat))], []⟩ else .exit 0 ⟨fr 19 [], []⟩) :=
  sat_find l.length (I_idxRec l g) (fun i => !(recordOK g (l.getD i (elDef .record)))) 0 _ (fun k => ⟨fr 19 [(4, .I (k : Nat))], []⟩) fun k hk =>
    rnd_sat (v := ⟨[0, 1, 7, 8], ids 0, [], ids 0, [4], []⟩) G22_ok hmx (noLoops (n := 1) (by kernel_rfl)) (n := 1) (L := fun _ _ => none) (SfO.bads (b := bif decide ((k : Int) < l.length) then (bif decide ((k : Int) < l.length) then false else true) else false) (by kernel_rfl) (by cases decide ((k : Int) < l.length) <;> rfl) (by kernel_rfl))
      ((by kernel_rfl : _ = (bif decide ((k : Int) < l.length) then (bif decide ((k : Int) < l.length) then (bif (fun i => !(recordOK g (l.getD i (elDef .record)))) k then .ret ⟨fr 19 [(4, .I (k : Nat))], []⟩ else .nrm (I_idxRec l g (wr (k + 1)))) else default) else .exit 0 ⟨fr 19 [], []⟩)).trans (rnd_eq (f := fun z => .nrm (I_idxRec l g z)) (q := (fun i => !(recordOK g (l.getD i (elDef .record)))) k) (r := .ret ⟨fr 19 [(4, .I (k : Nat))], []⟩) (x := .exit 0 ⟨fr 19 [], []⟩) hn))
def S_idxRec (l : List (El .record)) (g : Cd.ty (k_rec)) : List LoopSpec := [⟨[0, 1, 7, 8], ids 0, I_idxRec l g (0 : Nat), .node (small l) (.node (anyN l.length (fun i => !(recordOK g (l.getD i (elDef .record))))) (.leaf (.ret ⟨fr 19 [(4, .I (fstN l.length (fun i => !(recordOK g (l.getD i (elDef .record)))) : Nat))], []⟩)) (.leaf (.exit 0 ⟨fr 19 [], []⟩))) .bad, []⟩]
theorem z_idxRec (l : List (El .record)) (g : Cd.ty (k_rec)) : SpecOk Tryz.prog Tryz.f177 0 ⟨[0, 1, 7, 8], ids 0, I_idxRec l g (0 : Nat), .node (small l) (.node (anyN l.length (fun i => !(recordOK g (l.getD i (elDef .record))))) (.leaf (.ret ⟨fr 19 [(4, .I (fstN l.length (fun i => !(recordOK g (l.getD i (elDef .record)))) : Nat))], []⟩)) (.leaf (.exit 0 ⟨fr 19 [], []⟩))) .bad, []⟩ := .mkW fun hq => r_idxRec l g (of_decide_eq_true hq)
def c_idxRec : Entry := ent2 (cL .record) (k_rec) fun l g => (.when (small l), .I (idxM l.length (fun i => !(recordOK g (l.getD i (elDef .record))))))
theorem o_idxRec : ∀ (l : List (El .record)) (g : Cd.ty (k_rec)), small l = true → OkC Tryz.prog 177 [(cL .record).enc l, k_rec.enc g] (.I (idxM l.length (fun i => !(recordOK g (l.getD i (elDef .record)))))) := fun l g hq =>
  have hs : Sf (fnT Tryz.prog G22 (Ls (S_idxRec l g)) Tryz.f177 (bd Tryz.f177) [(cL .record).enc l, k_rec.enc g]) := Sf.obls (b := bif small l then false else true) (by kernel_rfl) (by rw [hq]; rfl) (l := [I_idxRec l g (0 : Nat) = I_idxRec l g (0 : Nat)]) (by kernel_rfl) (by simp)
  (show (bif small l then idxM l.length (fun i => !(recordOK g (l.getD i (elDef .record)))) else 0) = idxM l.length (fun i => !(recordOK g (l.getD i (elDef .record)))) from by rw [hq]; rfl) ▸ (OkC.i (fn_okL G22_ok hmx Tryz.func177 (bd_eq (by kernel_rfl)) _ _ (.cons (z_idxRec l g) (.nil _)) hs) hs (by kernel_rfl) (by kernel_rfl) : OkC Tryz.prog 177 [(cL .record).enc l, k_rec.enc g] (.I (bif small l then idxM l.length (fun i => !(recordOK g (l.getD i (elDef .record)))) else 0)))
theorem e_idxRec : EOk Tryz.prog 177 c_idxRec := ent2_ok Tryz.call177 fun l g hq => o_idxRec l g hq
def G23 : Ctx := G22.add [(140, c_idxClash), (177, c_idxRec)]
theorem G23_ok : COk Tryz.prog G23 := G22_ok.add (CsOk.cons e_idxClash (CsOk.cons e_idxRec (CsOk.nil)))
def c_contClash : Entry := ent2 (cL .session) k_clash fun l s => (.when (small l), .b (anyN l.length (fun i => clashM (l.getD i (elDef .session)) s)))
theorem o_contClash : ∀ l s, (small l) = true → OkC Tryz.prog 106 [(cL .session).enc l, k_clash.enc s] (.b (anyN l.length (fun i => clashM (l.getD i (elDef .session)) s))) := fun l s hq =>
  have hs : Sf (fnT Tryz.prog G23 (fun _ _ => none) Tryz.f106 (bd Tryz.f106) [(cL .session).enc l, k_clash.enc s]) := Sf.bads (b := bif small l then false else true) (by kernel_rfl) ((by rw [hq]; rfl)) (by kernel_rfl)
  (show (bif small l then decide (idxM l.length (fun i => clashM (l.getD i (elDef .session)) s) ≥ 0) else false) = (anyN l.length (fun i => clashM (l.getD i (elDef .session)) s)) from (by rw [hq]; exact idxM_ge)) ▸ (OkC.b (fn_ok0 G23_ok hmx Tryz.func106 (bd_eq (by kernel_rfl)) _ hs) hs (by kernel_rfl) (by kernel_rfl) : OkC Tryz.prog 106 [(cL .session).enc l, k_clash.enc s] (.b (bif small l then decide (idxM l.length (fun i => clashM (l.getD i (elDef .session)) s) ≥ 0) else false)))
theorem e_contClash : EOk Tryz.prog 106 c_contClash := ent2_ok Tryz.call106 fun l s hq => o_contClash l s hq
def c_contRec : Entry := ent2 (cL .record) k_rec fun l g => (.when (small l), .b (anyN l.length (fun i => !(recordOK g (l.getD i (elDef .record))))))
theorem o_contRec : ∀ l g, (small l) = true → OkC Tryz.prog 104 [(cL .record).enc l, k_rec.enc g] (.b (anyN l.length (fun i => !(recordOK g (l.getD i (elDef .record)))))) := fun l g hq =>
  have hs : Sf (fnT Tryz.prog G23 (fun _ _ => none) Tryz.f104 (bd Tryz.f104) [(cL .record).enc l, k_rec.enc g]) := Sf.bads (b := bif small l then false else true) (by kernel_rfl) ((by rw [hq]; rfl)) (by kernel_rfl)
  (show (bif small l then decide (idxM l.length (fun i => !(recordOK g (l.getD i (elDef .record)))) ≥ 0) else false) = (anyN l.length (fun i => !(recordOK g (l.getD i (elDef .record))))) from (by rw [hq]; exact idxM_ge)) ▸ (OkC.b (fn_ok0 G23_ok hmx Tryz.func104 (bd_eq (by kernel_rfl)) _ hs) hs (by kernel_rfl) (by kernel_rfl) : OkC Tryz.prog 104 [(cL .record).enc l, k_rec.enc g] (.b (bif small l then decide (idxM l.length (fun i => !(recordOK g (l.getD i (elDef .record)))) ≥ 0) else false)))
theorem e_contRec : EOk Tryz.prog 104 c_contRec := ent2_ok Tryz.call104 fun l g hq => o_contRec l g hq
def G24 : Ctx := G23.add [(106, c_contClash), (104, c_contRec)]
theorem G24_ok : COk Tryz.prog G24 := G23_ok.add (CsOk.cons e_contClash (CsOk.cons e_contRec (CsOk.nil)))
abbrev gS (l : List XSession) (k : Nat) : XSession := l.getD k (elDef .session)
abbrev gF (l : List XFail) (k : Nat) : XFail := l.getD k (elDef .fail)
/-- The k-th session clashes with one ahead. -/
def twiceM (l : List XSession) (k : Nat) : Bool := anyN (l.take k).length (fun i => clashM ((l.take k).getD i (elDef .session)) (gS l k))
def sessI (c : XConfig) (g : XGuests) (k : Nat) : Bool := bif sessionOK c g (gS g.sessions k) then (bif twiceM g.sessions k then false else bif decide ((k : Int) > 0) then !(decide ((gS g.sessions (wr ((k : Int) - 1)).toNat).id ≥ (gS g.sessions k).id)) else true) else false
def failsM (l : List XFail) (k : Nat) : Bool := bif failOK (gF l k) then (bif decide ((k : Int) > 0) then !(geS (gF l (wr ((k : Int) - 1)).toNat).mac (gF l k).mac) else true) else false
theorem le_of {n k : Nat} (h : k < n) : decide ((k : Int) ≤ n) = true := by simp; omega
theorem small_take {α : Type} {l : List α} (h : l.length ≤ 3) (k : Nat) : small (l.take k) = true := by
  unfold small
  simp
  omega
def I_GuA (c : Cd.ty ((cA0 .config))) (g : Cd.ty ((cA0 .guests))) (z : Int) : St := ⟨fr 143 [(2, .box 0 0), (3, .box 1 0), (46, .lst .user g.users), (47, .I g.users.length), (48, .I z)], [⟨44, .cells (row .config c), true, false⟩, ⟨50, .cells (row .guests g), false, false⟩]⟩
theorem r_GuA (c : Cd.ty ((cA0 .config))) (g : Cd.ty ((cA0 .guests))) (hn : g.users.length ≤ 6) (hr : small c.roles = true) (h0 : 0 ≤ g.users.length) : Sat Tryz.prog 0 (.loop (lpb Tryz.f51 0)) (I_GuA c g (0 : Nat)) (bif allF (fun i => usersM c g.users i) (g.users.length) 0 then .exit 0 ⟨fr 143 [(2, .box 0 0), (3, .box 1 0)], [⟨44, .cells (row .config c), true, false⟩, ⟨50, .cells (row .guests g), false, false⟩]⟩ else .ret ⟨fr 143 [(4, .v (.bool false))], []⟩) :=
  sat_all (g.users.length) 0 h0 (I_GuA c g) (fun i => usersM c g.users i) 0 _ _ fun k h0 hk =>
    rnd_sat (v := ⟨[2, 3, 46, 47, 48], ids 2, [2, 3], ids 2, [4], [0]⟩) G24_ok hmx (noLoops (n := 1) (by kernel_rfl)) (n := 1) (L := fun _ _ => none) (SfO.bads (b := bif decide ((k : Int) < g.users.length) then (bif decide ((k : Int) < g.users.length) then (bif small c.roles then (bif userM c (gU g.users k) then (bif decide ((k : Int) > 0) then (bif decide ((0 : Int) ≤ wr (k - 1)) then (bif decide (wr (k - 1) < g.users.length) then false else true) else true) else false) else false) else true) else true) else false) (by kernel_rfl) ((by
    by_cases hlt : k < g.users.length
    · rw [bnd hlt, hr]
      cases userM c (gU g.users k) <;> cases h : decide ((k : Int) > 0) <;> try rfl
      rw [(ahead hlt (by omega) h).1, (ahead hlt (by omega) h).2]; rfl
    · rw [show decide ((k : Int) < g.users.length) = false from by simpa using hlt]; rfl)) (by kernel_rfl))
      ((by kernel_rfl : _ = (bif decide ((k : Int) < (g.users.length : Nat)) then (bif decide ((k : Int) < g.users.length) then (bif small c.roles then (bif userM c (gU g.users k) then (bif decide ((k : Int) > 0) then (bif decide ((0 : Int) ≤ wr (k - 1)) then (bif decide (wr (k - 1) < g.users.length) then (bif Op.bytesLess (gU g.users (wr ((k : Int) - 1)).toNat).name.toList (gU g.users k).name.toList then .nrm (I_GuA c g (wr (k + 1))) else .ret ⟨fr 143 [(4, .v (.bool false))], []⟩) else default) else default) else .nrm (I_GuA c g (wr (k + 1)))) else .ret ⟨fr 143 [(4, .v (.bool false))], []⟩) else default) else default) else .exit 0 ⟨fr 143 [(2, .box 0 0), (3, .box 1 0)], [⟨44, .cells (row .config c), true, false⟩, ⟨50, .cells (row .guests g), false, false⟩]⟩)).trans (all_eq fun hk => ((by
    rw [bnd hk, wrs hk (by omega), hr]
    unfold usersM geS
    cases userM c (gU g.users k) <;> cases h : decide ((k : Int) > 0) <;> try rfl
    rw [(ahead hk (by omega) h).1, (ahead hk (by omega) h).2]
    cases Op.bytesLess (gU g.users (wr ((k : Int) - 1)).toNat).name.toList (gU g.users k).name.toList <;> rfl))))
def S_GuA (c : Cd.ty ((cA0 .config))) (g : Cd.ty ((cA0 .guests))) : LoopSpec := ⟨[2, 3, 46, 47, 48], ids 2, I_GuA c g (0 : Nat), (.node (small c.roles && decide (g.users.length ≤ 6)) (.node (allF (fun i => usersM c g.users i) (g.users.length) 0) (.leaf (.exit 0 ⟨fr 143 [(2, .box 0 0), (3, .box 1 0)], [⟨44, .cells (row .config c), true, false⟩, ⟨50, .cells (row .guests g), false, false⟩]⟩)) (.leaf (.ret ⟨fr 143 [(4, .v (.bool false))], []⟩))) .bad), [0]⟩
theorem z_GuA (c : Cd.ty ((cA0 .config))) (g : Cd.ty ((cA0 .guests)))  : SpecOk Tryz.prog Tryz.f51 0 ⟨[2, 3, 46, 47, 48], ids 2, I_GuA c g (0 : Nat), (.node (small c.roles && decide (g.users.length ≤ 6)) (.node (allF (fun i => usersM c g.users i) (g.users.length) 0) (.leaf (.exit 0 ⟨fr 143 [(2, .box 0 0), (3, .box 1 0)], [⟨44, .cells (row .config c), true, false⟩, ⟨50, .cells (row .guests g), false, false⟩]⟩)) (.leaf (.ret ⟨fr 143 [(4, .v (.bool false))], []⟩))) .bad), [0]⟩ := .mkW fun hq => r_GuA c g (of_decide_eq_true (and2 hq).2) (and2 hq).1 (Nat.zero_le _)
def I_GuB (c : Cd.ty ((cA0 .config))) (g : Cd.ty ((cA0 .guests))) (z : Int) : St := ⟨fr 143 [(2, .box 0 0), (3, .box 1 0), (74, .lst .session g.sessions), (75, .I g.sessions.length), (76, .I z)], [⟨44, .cells (row .config c), true, false⟩, ⟨50, .cells (row .guests g), true, false⟩]⟩
theorem r_GuB (c : Cd.ty ((cA0 .config))) (g : Cd.ty ((cA0 .guests))) (hn : g.sessions.length ≤ 3) (hw : w_ c.lanBits 0 32 = true) (h0 : 0 ≤ g.sessions.length) : Sat Tryz.prog 0 (.loop (lpb Tryz.f51 1)) (I_GuB c g (0 : Nat)) (bif allF (fun i => sessI c g i) (g.sessions.length) 0 then .exit 2 ⟨fr 143 [(2, .box 0 0), (3, .box 1 0)], [⟨44, .cells (row .config c), true, false⟩, ⟨50, .cells (row .guests g), true, false⟩]⟩ else .ret ⟨fr 143 [(4, .v (.bool false))], []⟩) :=
  sat_all (g.sessions.length) 0 h0 (I_GuB c g) (fun i => sessI c g i) 2 _ _ fun k h0 hk =>
    rnd_sat (v := ⟨[2, 3, 74, 75, 76], ids 2, [2, 3], ids 2, [4], [0, 1]⟩) G24_ok hmx (noLoops (n := 2) (by kernel_rfl)) (n := 2) (L := fun _ _ => none) (SfO.bads (b := bif decide ((k : Int) < g.sessions.length) then (bif decide ((k : Int) < g.sessions.length) then (bif decide ((k : Int) ≤ g.sessions.length) then (bif small (g.sessions.take k) then (bif w_ c.lanBits 0 32 then (bif sessionOK c g (gS g.sessions k) then (bif twiceM g.sessions k then false else bif decide ((k : Int) > 0) then (bif decide ((0 : Int) ≤ wr (k - 1)) then (bif decide (wr (k - 1) < g.sessions.length) then false else true) else true) else false) else false) else true) else true) else true) else true) else false) (by kernel_rfl) ((by
    by_cases hlt : k < g.sessions.length
    · rw [bnd hlt, le_of hlt, small_take hn k, hw]
      cases sessionOK c g (gS g.sessions k) <;> cases twiceM g.sessions k <;> cases h : decide ((k : Int) > 0) <;> try rfl
      rw [(ahead hlt (by omega) h).1, (ahead hlt (by omega) h).2]; rfl
    · rw [show decide ((k : Int) < g.sessions.length) = false from by simpa using hlt]; rfl)) (by kernel_rfl))
      ((by kernel_rfl : _ = (bif decide ((k : Int) < (g.sessions.length : Nat)) then (bif decide ((k : Int) < g.sessions.length) then (bif decide ((k : Int) ≤ g.sessions.length) then (bif small (g.sessions.take k) then (bif w_ c.lanBits 0 32 then (bif sessionOK c g (gS g.sessions k) then (bif twiceM g.sessions k then .ret ⟨fr 143 [(4, .v (.bool false))], []⟩ else bif decide ((k : Int) > 0) then (bif decide ((0 : Int) ≤ wr (k - 1)) then (bif decide (wr (k - 1) < g.sessions.length) then (bif decide ((gS g.sessions (wr ((k : Int) - 1)).toNat).id ≥ (gS g.sessions k).id) then .ret ⟨fr 143 [(4, .v (.bool false))], []⟩ else .nrm (I_GuB c g (wr (k + 1)))) else default) else default) else .nrm (I_GuB c g (wr (k + 1)))) else .ret ⟨fr 143 [(4, .v (.bool false))], []⟩) else default) else default) else default) else default) else .exit 2 ⟨fr 143 [(2, .box 0 0), (3, .box 1 0)], [⟨44, .cells (row .config c), true, false⟩, ⟨50, .cells (row .guests g), true, false⟩]⟩)).trans (all_eq fun hk => ((by
    rw [bnd hk, wrs hk (by omega), le_of hk, small_take hn k, hw]
    unfold sessI
    cases sessionOK c g (gS g.sessions k) <;> cases twiceM g.sessions k <;> cases h : decide ((k : Int) > 0) <;> try rfl
    rw [(ahead hk (by omega) h).1, (ahead hk (by omega) h).2]
    cases decide ((gS g.sessions (wr ((k : Int) - 1)).toNat).id ≥ (gS g.sessions k).id) <;> rfl))))
def S_GuB (c : Cd.ty ((cA0 .config))) (g : Cd.ty ((cA0 .guests))) : LoopSpec := ⟨[2, 3, 74, 75, 76], ids 2, I_GuB c g (0 : Nat), (.node (w_ c.lanBits 0 32 && decide (g.sessions.length ≤ 3)) (.node (allF (fun i => sessI c g i) (g.sessions.length) 0) (.leaf (.exit 2 ⟨fr 143 [(2, .box 0 0), (3, .box 1 0)], [⟨44, .cells (row .config c), true, false⟩, ⟨50, .cells (row .guests g), true, false⟩]⟩)) (.leaf (.ret ⟨fr 143 [(4, .v (.bool false))], []⟩))) .bad), [0, 1]⟩
theorem z_GuB (c : Cd.ty ((cA0 .config))) (g : Cd.ty ((cA0 .guests)))  : SpecOk Tryz.prog Tryz.f51 1 ⟨[2, 3, 74, 75, 76], ids 2, I_GuB c g (0 : Nat), (.node (w_ c.lanBits 0 32 && decide (g.sessions.length ≤ 3)) (.node (allF (fun i => sessI c g i) (g.sessions.length) 0) (.leaf (.exit 2 ⟨fr 143 [(2, .box 0 0), (3, .box 1 0)], [⟨44, .cells (row .config c), true, false⟩, ⟨50, .cells (row .guests g), true, false⟩]⟩)) (.leaf (.ret ⟨fr 143 [(4, .v (.bool false))], []⟩))) .bad), [0, 1]⟩ := .mkW fun hq => r_GuB c g (of_decide_eq_true (and2 hq).2) (and2 hq).1 (Nat.zero_le _)
def I_GuC (c : Cd.ty ((cA0 .config))) (g : Cd.ty ((cA0 .guests))) (z : Int) : St := ⟨fr 143 [(2, .box 0 0), (3, .box 1 0), (111, .lst .fail g.fails), (112, .I g.fails.length), (113, .I z)], [⟨44, .cells (row .config c), true, false⟩, ⟨50, .cells (row .guests g), true, false⟩]⟩
theorem r_GuC (c : Cd.ty ((cA0 .config))) (g : Cd.ty ((cA0 .guests))) (hn : g.fails.length ≤ 20)  (h0 : 0 ≤ g.fails.length) : Sat Tryz.prog 0 (.loop (lpb Tryz.f51 2)) (I_GuC c g (0 : Nat)) (bif allF (fun i => failsM g.fails i) (g.fails.length) 0 then .exit 4 ⟨fr 143 [(2, .box 0 0), (3, .box 1 0)], [⟨44, .cells (row .config c), true, false⟩, ⟨50, .cells (row .guests g), true, false⟩]⟩ else .ret ⟨fr 143 [(4, .v (.bool false))], []⟩) :=
  sat_all (g.fails.length) 0 h0 (I_GuC c g) (fun i => failsM g.fails i) 4 _ _ fun k h0 hk =>
    rnd_sat (v := ⟨[2, 3, 111, 112, 113], ids 2, [2, 3], ids 2, [4], [0, 1]⟩) G24_ok hmx (noLoops (n := 3) (by kernel_rfl)) (n := 3) (L := fun _ _ => none) (SfO.bads (b := bif decide ((k : Int) < g.fails.length) then (bif decide ((k : Int) < g.fails.length) then (bif failOK (gF g.fails k) then (bif decide ((k : Int) > 0) then (bif decide ((0 : Int) ≤ wr (k - 1)) then (bif decide (wr (k - 1) < g.fails.length) then false else true) else true) else false) else false) else true) else false) (by kernel_rfl) ((by
    by_cases hlt : k < g.fails.length
    · rw [bnd hlt]
      cases failOK (gF g.fails k) <;> cases h : decide ((k : Int) > 0) <;> try rfl
      rw [(ahead hlt (by omega) h).1, (ahead hlt (by omega) h).2]; rfl
    · rw [show decide ((k : Int) < g.fails.length) = false from by simpa using hlt]; rfl)) (by kernel_rfl))
      ((by kernel_rfl : _ = (bif decide ((k : Int) < (g.fails.length : Nat)) then (bif decide ((k : Int) < g.fails.length) then (bif failOK (gF g.fails k) then (bif decide ((k : Int) > 0) then (bif decide ((0 : Int) ≤ wr (k - 1)) then (bif decide (wr (k - 1) < g.fails.length) then (bif Op.bytesLess (gF g.fails (wr ((k : Int) - 1)).toNat).mac.toList (gF g.fails k).mac.toList then .nrm (I_GuC c g (wr (k + 1))) else .ret ⟨fr 143 [(4, .v (.bool false))], []⟩) else default) else default) else .nrm (I_GuC c g (wr (k + 1)))) else .ret ⟨fr 143 [(4, .v (.bool false))], []⟩) else default) else .exit 4 ⟨fr 143 [(2, .box 0 0), (3, .box 1 0)], [⟨44, .cells (row .config c), true, false⟩, ⟨50, .cells (row .guests g), true, false⟩]⟩)).trans (all_eq fun hk => ((by
    rw [bnd hk, wrs hk (by omega)]
    unfold failsM geS
    cases failOK (gF g.fails k) <;> cases h : decide ((k : Int) > 0) <;> try rfl
    rw [(ahead hk (by omega) h).1, (ahead hk (by omega) h).2]
    cases Op.bytesLess (gF g.fails (wr ((k : Int) - 1)).toNat).mac.toList (gF g.fails k).mac.toList <;> rfl))))
def S_GuC (c : Cd.ty ((cA0 .config))) (g : Cd.ty ((cA0 .guests))) : LoopSpec := ⟨[2, 3, 111, 112, 113], ids 2, I_GuC c g (0 : Nat), (.node (decide (g.fails.length ≤ 20)) (.node (allF (fun i => failsM g.fails i) (g.fails.length) 0) (.leaf (.exit 4 ⟨fr 143 [(2, .box 0 0), (3, .box 1 0)], [⟨44, .cells (row .config c), true, false⟩, ⟨50, .cells (row .guests g), true, false⟩]⟩)) (.leaf (.ret ⟨fr 143 [(4, .v (.bool false))], []⟩))) .bad), [0, 1]⟩
theorem z_GuC (c : Cd.ty ((cA0 .config))) (g : Cd.ty ((cA0 .guests)))  : SpecOk Tryz.prog Tryz.f51 2 ⟨[2, 3, 111, 112, 113], ids 2, I_GuC c g (0 : Nat), (.node (decide (g.fails.length ≤ 20)) (.node (allF (fun i => failsM g.fails i) (g.fails.length) 0) (.leaf (.exit 4 ⟨fr 143 [(2, .box 0 0), (3, .box 1 0)], [⟨44, .cells (row .config c), true, false⟩, ⟨50, .cells (row .guests g), true, false⟩]⟩)) (.leaf (.ret ⟨fr 143 [(4, .v (.bool false))], []⟩))) .bad), [0, 1]⟩ := .mkW fun hq => r_GuC c g (of_decide_eq_true hq) (Nat.zero_le _)
end Go.Proofs.YthlebalbiokjpaaGreat
