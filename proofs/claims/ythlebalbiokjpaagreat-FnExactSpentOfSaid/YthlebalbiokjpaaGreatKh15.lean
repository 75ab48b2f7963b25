/- The gateway's tests: slices that are searched. | The gateway's tests: rules, roles. | The gateway's tests: configurations. -/
import Derived.Test.YthlebalbiokjpaaGreatKh14
namespace Go.Proofs.YthlebalbiokjpaaGreat
open Go.RowKit
set_option linter.unusedVariables false
set_option maxRecDepth 100000

theorem rnd_eq {k n : Nat} (hn : n ≤ 1099511627776) {f : Int → Out} {q : Bool} {r x : Out} :
    (bif decide ((k : Int) < n) then (bif decide ((k : Int) < n) then (bif q then r else f (wr (k + 1))) else default) else x) = (bif decide (k < n) then (bif q then r else f ((k + 1 : Nat) : Int)) else x) := by
  by_cases h : k < n
  · have h2 : decide ((k : Int) < n) = true := by simpa using h
    rw [h2, show decide (k < n) = true from by simpa using h, wr, wr_succ h hn]
    rfl
  · have h2 : decide ((k : Int) < n) = false := by simpa using h
    rw [h2, show decide (k < n) = false from by simpa using h]
    rfl
abbrev small {α : Type} (l : List α) : Bool := decide (l.length ≤ 1099511627776)
def idxM (n : Nat) (q : Nat → Bool) : Int := bif anyN n q then ((fstN n q : Nat) : Int) else -1
theorem idxM_ge {n : Nat} {q : Nat → Bool} : decide (idxM n q ≥ 0) = anyN n q := by
  unfold idxM
  cases anyN n q <;> simp
theorem all_eq {k n : Nat} {A B X : Out} (h : k < n → A = B) : (bif decide ((k : Int) < n) then A else X) = (bif decide (k < n) then B else X) := by
  by_cases hk : k < n
  · rw [show decide ((k : Int) < n) = true from by simpa using hk, show decide (k < n) = true from by simpa using hk]
    exact h hk
  · rw [show decide ((k : Int) < n) = false from by simpa using hk, show decide (k < n) = false from by simpa using hk]
    rfl
theorem bnd {k n : Nat} (hk : k < n) : decide ((k : Int) < n) = true := by simpa using hk
theorem wrs {k n : Nat} (h : k < n) (hn : n ≤ 1099511627776) : wr ((k : Int) + 1) = ((k + 1 : Nat) : Int) := wr_succ h hn
/-- A letter or a digit. -/
def bt (t : ByteArray) (i : Nat) : Int := ((t.data.getD i 0).toNat : Int)
def wordC (t : ByteArray) (i : Nat) : Bool := bif letM (bt t i) then true else digM (bt t i)
def I_NameOK (t : Cd.ty (cS)) (z : Int) : St := ⟨fr 31 [(0, .S t), (14, .I t.size), (15, .I z)], []⟩
theorem r_NameOK (t : Cd.ty (cS)) (hn : t.size ≤ 1099511627776)  (h0 : 0 ≤ t.size) : Sat Tryz.prog 0 (.loop (lpb Tryz.f228 0)) (I_NameOK t (0 : Nat)) (bif allF (fun i => wordC t i) (t.size) 0 then .exit 0 ⟨fr 31 [], []⟩ else .ret ⟨fr 31 [(2, .v (.bool false))], []⟩) :=
  sat_all (t.size) 0 h0 (I_NameOK t) (fun i => wordC t i) 0 _ _ fun k h0 hk =>
    rnd_sat (v := ⟨[0, 14, 15], ids 0, [], ids 0, [2], []⟩) G4_ok hmx (noLoops (n := 1) (by kernel_rfl)) (n := 1) (L := fun _ _ => none) (SfO.bads (b := bif decide ((k : Int) < t.size) then (bif decide ((k : Int) < t.size) then (bif letM (bt t k) then false else bif decide ((k : Int) < t.size) then false else true) else true) else false) (by kernel_rfl) ((by cases decide ((k : Int) < t.size) <;> cases letM (bt t k) <;> rfl)) (by kernel_rfl))
      ((by kernel_rfl : _ = (bif decide ((k : Int) < (t.size : Nat)) then (bif decide ((k : Int) < t.size) then (bif letM (bt t k) then .nrm (I_NameOK t (wr (k + 1))) else bif decide ((k : Int) < t.size) then (bif digM (bt t k) then .nrm (I_NameOK t (wr (k + 1))) else .ret ⟨fr 31 [(2, .v (.bool false))], []⟩) else default) else default) else .exit 0 ⟨fr 31 [], []⟩)).trans (all_eq fun hk => ((by rw [bnd hk, wrs hk hn]; unfold wordC; cases letM (bt t k) <;> rfl))))
def S_NameOK (t : Cd.ty (cS)) : LoopSpec := ⟨[0, 14, 15], ids 0, I_NameOK t (0 : Nat), (.node (decide (t.size ≤ 1099511627776)) (.node (allF (fun i => wordC t i) (t.size) 0) (.leaf (.exit 0 ⟨fr 31 [], []⟩)) (.leaf (.ret ⟨fr 31 [(2, .v (.bool false))], []⟩))) .bad), []⟩
theorem z_NameOK (t : Cd.ty (cS))  : SpecOk Tryz.prog Tryz.f228 0 ⟨[0, 14, 15], ids 0, I_NameOK t (0 : Nat), (.node (decide (t.size ≤ 1099511627776)) (.node (allF (fun i => wordC t i) (t.size) 0) (.leaf (.exit 0 ⟨fr 31 [], []⟩)) (.leaf (.ret ⟨fr 31 [(2, .v (.bool false))], []⟩))) .bad), []⟩ := .mkW fun hq => r_NameOK t (of_decide_eq_true hq) (Nat.zero_le _)
def nameM (t : ByteArray) : Bool := bif w_ t.size 1 40 then (bif digM (bt t 0) then false else allN t.size (wordC t)) else false
theorem dec_in {n : Nat} (h : w_ n 1 40 = true) : decide ((0 : Int) < n) = true ∧ decide (n ≤ 1099511627776) = true := by
  have := w_true.1 h
  simp
  omega
theorem let_dig (c : Int) : letM c = true → digM c = false := by
  unfold letM digM
  cases h1 : decide (c ≥ 97) <;> cases h2 : decide (c ≤ 122) <;> cases h3 : decide (c ≥ 65) <;> cases h4 : decide (c ≤ 90) <;> simp at * <;> omega
theorem wordS (t : ByteArray) : (bif decide ((t.size : Int) < 1) then false else bif decide ((t.size : Int) > 40) then false else bif decide ((0 : Int) < t.size) then (bif letM (bt t 0) then (bif w_ t.size 1 40 then (bif allF (fun i => wordC t i) t.size 1 then true else false) else false) else false) else false) = nameM t := by
  unfold nameM
  cases h : w_ t.size 1 40
  · cases decide ((t.size : Int) < 1) <;> cases decide ((t.size : Int) > 40) <;> cases decide ((0 : Int) < t.size) <;> cases letM (bt t 0) <;> rfl
  · have hw := w_true.1 h
    rw [show decide ((t.size : Int) < 1) = false from by simp; omega, show decide ((t.size : Int) > 40) = false from by simp; omega, (dec_in h).1, ← allF_zero, allF_step (p := wordC t) (n := t.size) (i := 0) (by omega)]
    have h1 := let_dig (bt t 0)
    show (bif letM (bt t 0) then (bif allF (fun i => wordC t i) t.size 1 then true else false) else false) = bif digM (bt t 0) then false else (wordC t 0 && allF (wordC t) t.size (0 + 1))
    unfold wordC at *
    cases hl : letM (bt t 0) with
    | true => rw [h1 hl]; simp
    | false => cases digM (bt t 0) <;> simp
def c_NameOK : Entry := ent1 cS fun t => (.yes, .b (nameM t))
theorem o_NameOK : ∀ (t : Cd.ty (cS)), OkC Tryz.prog 228 [cS.enc t] (.b (nameM t)) := fun t =>
  have hs : Sf (fnT Tryz.prog G4 (Ls [S_NameOK t]) Tryz.f228 (bd Tryz.f228) [cS.enc t]) := Sf.obls (b := bif w_ t.size 1 40 then (bif decide ((0 : Int) < t.size) then (bif digM (bt t 0) then false else bif decide (t.size ≤ 1099511627776) then false else true) else true) else false) (by kernel_rfl) ((by
    cases h : w_ t.size 1 40
    · rfl
    · rw [(dec_in h).1, (dec_in h).2]
      cases digM (bt t 0) <;> rfl)) (l := [I_NameOK t (0 : Nat) = I_NameOK t (0 : Nat)]) (by kernel_rfl) (by simp)
  (show (bif w_ t.size 1 40 then (bif decide ((0 : Int) < t.size) then (bif digM (bt t 0) then false else bif decide (t.size ≤ 1099511627776) then (bif allF (fun i => wordC t i) t.size 0 then true else false) else false) else false) else false) = (nameM t) from (by
    unfold nameM
    cases h : w_ t.size 1 40
    · rfl
    · rw [(dec_in h).1, (dec_in h).2, allF_zero]
      cases digM (bt t 0) <;> cases allN t.size (wordC t) <;> rfl)) ▸ (OkC.b (fn_okL G4_ok hmx Tryz.func228 (bd_eq (by kernel_rfl)) _ _ (.cons (z_NameOK t) (.nil _)) hs) hs (by kernel_rfl) (by kernel_rfl) : OkC Tryz.prog 228 [cS.enc t] (.b (bif w_ t.size 1 40 then (bif decide ((0 : Int) < t.size) then (bif digM (bt t 0) then false else bif decide (t.size ≤ 1099511627776) then (bif allF (fun i => wordC t i) t.size 0 then true else false) else false) else false) else false)))
theorem e_NameOK : EOk Tryz.prog 228 c_NameOK := ent1_ok Tryz.call228 fun t hq => o_NameOK t
/-- Names, spec's. -/
def I_l00Word (t : Cd.ty (cS)) (z : Int) : St := ⟨fr 36 [(0, .S t), (3, .I z)], []⟩
theorem r_l00Word (t : Cd.ty (cS)) (hn : t.size ≤ 1099511627776)  (h0 : 1 ≤ t.size) : Sat Tryz.prog 0 (.loop (lpb Tryz.f231 0)) (I_l00Word t (1 : Nat)) (bif allF (fun i => wordC t i) (t.size) 1 then .exit 0 ⟨fr 36 [], []⟩ else .ret ⟨fr 36 [(2, .v (.bool false))], []⟩) :=
  sat_all (t.size) 1 h0 (I_l00Word t) (fun i => wordC t i) 0 _ _ fun k h0 hk =>
    rnd_sat (v := ⟨[0, 3], ids 0, [], ids 0, [2], []⟩) G4_ok hmx (noLoops (n := 1) (by kernel_rfl)) (n := 1) (L := fun _ _ => none) (SfO.bads (b := bif decide ((k : Int) < t.size) then (bif decide ((k : Int) < t.size) then (bif letM (bt t k) then false else bif decide ((k : Int) < t.size) then false else true) else true) else false) (by kernel_rfl) ((by cases decide ((k : Int) < t.size) <;> cases letM (bt t k) <;> rfl)) (by kernel_rfl))
      ((by kernel_rfl : _ = (bif decide ((k : Int) < (t.size : Nat)) then (bif decide ((k : Int) < t.size) then (bif letM (bt t k) then .nrm (I_l00Word t (wr (k + 1))) else bif decide ((k : Int) < t.size) then (bif digM (bt t k) then .nrm (I_l00Word t (wr (k + 1))) else .ret ⟨fr 36 [(2, .v (.bool false))], []⟩) else default) else default) else .exit 0 ⟨fr 36 [], []⟩)).trans (all_eq fun hk => ((by rw [bnd hk, wrs hk hn]; unfold wordC; cases letM (bt t k) <;> rfl))))
def S_l00Word (t : Cd.ty (cS)) : LoopSpec := ⟨[0, 3], ids 0, I_l00Word t (1 : Nat), (.node (w_ t.size 1 40) (.node (allF (fun i => wordC t i) (t.size) 1) (.leaf (.exit 0 ⟨fr 36 [], []⟩)) (.leaf (.ret ⟨fr 36 [(2, .v (.bool false))], []⟩))) .bad), []⟩
theorem z_l00Word (t : Cd.ty (cS))  : SpecOk Tryz.prog Tryz.f231 0 ⟨[0, 3], ids 0, I_l00Word t (1 : Nat), (.node (w_ t.size 1 40) (.node (allF (fun i => wordC t i) (t.size) 1) (.leaf (.exit 0 ⟨fr 36 [], []⟩)) (.leaf (.ret ⟨fr 36 [(2, .v (.bool false))], []⟩))) .bad), []⟩ := .mkW fun hq => r_l00Word t (by have := w_true.1 hq; omega) (by have := w_true.1 hq; omega)
def c_l00Word : Entry := ent1 cS fun t => (.yes, .b (nameM t))
theorem o_l00Word : ∀ (t : Cd.ty (cS)), OkC Tryz.prog 231 [cS.enc t] (.b (nameM t)) := fun t =>
  have hs : Sf (fnT Tryz.prog G4 (Ls [S_l00Word t]) Tryz.f231 (bd Tryz.f231) [cS.enc t]) := Sf.obls (b := bif decide ((t.size : Int) < 1) then false else bif decide ((t.size : Int) > 40) then false else bif decide ((0 : Int) < t.size) then (bif letM (bt t 0) then (bif w_ t.size 1 40 then false else true) else false) else true) (by kernel_rfl) ((by
    cases h1 : decide ((t.size : Int) < 1) <;> cases h2 : decide ((t.size : Int) > 40) <;> try rfl
    have : w_ t.size 1 40 = true := by simp at h1 h2; exact w_true.2 (by omega)
    rw [this, (dec_in this).1]
    cases letM (bt t 0) <;> rfl)) (l := [I_l00Word t (1 : Nat) = I_l00Word t (1 : Nat)]) (by kernel_rfl) (by simp)
  (show (bif decide ((t.size : Int) < 1) then false else bif decide ((t.size : Int) > 40) then false else bif decide ((0 : Int) < t.size) then (bif letM (bt t 0) then (bif w_ t.size 1 40 then (bif allF (fun i => wordC t i) t.size 1 then true else false) else false) else false) else false) = (nameM t) from (wordS t)) ▸ (OkC.b (fn_okL G4_ok hmx Tryz.func231 (bd_eq (by kernel_rfl)) _ _ (.cons (z_l00Word t) (.nil _)) hs) hs (by kernel_rfl) (by kernel_rfl) : OkC Tryz.prog 231 [cS.enc t] (.b (bif decide ((t.size : Int) < 1) then false else bif decide ((t.size : Int) > 40) then false else bif decide ((0 : Int) < t.size) then (bif letM (bt t 0) then (bif w_ t.size 1 40 then (bif allF (fun i => wordC t i) t.size 1 then true else false) else false) else false) else false)))
theorem e_l00Word : EOk Tryz.prog 231 c_l00Word := ent1_ok Tryz.call231 fun t hq => o_l00Word t
-- closures
def c_session1 : Entry := ent2 (cA0 .session) (cP1 cI) fun s id => (.yes, .b (s.id == id))
theorem o_session1 : ∀ s id, OkC Tryz.prog 141 [(cA0 .session).enc s, (cP1 cI).enc id] (.b (s.id == id)) := fun s id =>
  have hs : Sf (fnT Tryz.prog G4 (fun _ _ => none) Tryz.f141 (bd Tryz.f141) [(cA0 .session).enc s, (cP1 cI).enc id]) := Sf.chk (by kernel_rfl)
  OkC.b (fn_ok0 G4_ok hmx Tryz.func141 (bd_eq (by kernel_rfl)) _ hs) hs (by kernel_rfl) (by kernel_rfl)
theorem e_session1 : EOk Tryz.prog 141 c_session1 := ent2_ok Tryz.call141 fun s id hq => o_session1 s id
def c_of1 : Entry := ent3 (cA0 .session) (cP1 cS) (cP1 cI) fun s mac ip => (.yes, .b (s.mac.toList == mac.toList && s.ip == ip))
theorem o_of1 : ∀ s mac ip, OkC Tryz.prog 174 [(cA0 .session).enc s, (cP1 cS).enc mac, (cP1 cI).enc ip] (.b (s.mac.toList == mac.toList && s.ip == ip)) := fun s mac ip =>
  have hs : Sf (fnT Tryz.prog G4 (fun _ _ => none) Tryz.f174 (bd Tryz.f174) [(cA0 .session).enc s, (cP1 cS).enc mac, (cP1 cI).enc ip]) := Sf.chk (by kernel_rfl)
  OkC.b (fn_ok0 G4_ok hmx Tryz.func174 (bd_eq (by kernel_rfl)) _ hs) hs (by kernel_rfl) (by kernel_rfl)
theorem e_of1 : EOk Tryz.prog 174 c_of1 := ent3_ok Tryz.call174 fun s mac ip hq => o_of1 s mac ip
def c_user1 : Entry := ent2 (cA0 .user) (cP1 cS) fun u name => (.yes, .b (u.name.toList == name.toList))
theorem o_user1 : ∀ u name, OkC Tryz.prog 176 [(cA0 .user).enc u, (cP1 cS).enc name] (.b (u.name.toList == name.toList)) := fun u name =>
  have hs : Sf (fnT Tryz.prog G4 (fun _ _ => none) Tryz.f176 (bd Tryz.f176) [(cA0 .user).enc u, (cP1 cS).enc name]) := Sf.chk (by kernel_rfl)
  OkC.b (fn_ok0 G4_ok hmx Tryz.func176 (bd_eq (by kernel_rfl)) _ hs) hs (by kernel_rfl) (by kernel_rfl)
theorem e_user1 : EOk Tryz.prog 176 c_user1 := ent2_ok Tryz.call176 fun u name hq => o_user1 u name
def c_connAt1 : Entry := ent4 (cA0 .conn) (cP1 cI) (cP1 cI) (cP1 cI) fun c ip port dst => (.yes, .b (c.ip == ip && (c.port == port && c.dstIp == dst)))
theorem o_connAt1 : ∀ c ip port dst, OkC Tryz.prog 147 [(cA0 .conn).enc c, (cP1 cI).enc ip, (cP1 cI).enc port, (cP1 cI).enc dst] (.b (c.ip == ip && (c.port == port && c.dstIp == dst))) := fun c ip port dst =>
  have hs : Sf (fnT Tryz.prog G4 (fun _ _ => none) Tryz.f147 (bd Tryz.f147) [(cA0 .conn).enc c, (cP1 cI).enc ip, (cP1 cI).enc port, (cP1 cI).enc dst]) := Sf.chk (by kernel_rfl)
  OkC.b (fn_ok0 G4_ok hmx Tryz.func147 (bd_eq (by kernel_rfl)) _ hs) hs (by kernel_rfl) (by kernel_rfl)
theorem e_connAt1 : EOk Tryz.prog 147 c_connAt1 := ent4_ok Tryz.call147 fun c ip port dst hq => o_connAt1 c ip port dst
def c_find1 : Entry := ent6 (cA0 .flow) (cP1 cI) (cP1 cI) (cP1 cI) (cP1 cI) (cP1 cI) fun f p a ap b bp => (.yes, .b (isM f p a ap b bp))
theorem o_find1 : ∀ f p a ap b bp, OkC Tryz.prog 208 [(cA0 .flow).enc f, (cP1 cI).enc p, (cP1 cI).enc a, (cP1 cI).enc ap, (cP1 cI).enc b, (cP1 cI).enc bp] (.b (isM f p a ap b bp)) := fun f p a ap b bp =>
  have hs : Sf (fnT Tryz.prog G4 (fun _ _ => none) Tryz.f208 (bd Tryz.f208) [(cA0 .flow).enc f, (cP1 cI).enc p, (cP1 cI).enc a, (cP1 cI).enc ap, (cP1 cI).enc b, (cP1 cI).enc bp]) := Sf.chk (by kernel_rfl)
  OkC.b (fn_ok0 G4_ok hmx Tryz.func208 (bd_eq (by kernel_rfl)) _ hs) hs (by kernel_rfl) (by kernel_rfl)
theorem e_find1 : EOk Tryz.prog 208 c_find1 := ent6_ok Tryz.call208 fun f p a ap b bp hq => o_find1 f p a ap b bp
def c_find2 : Entry := ent6 (cA0 .flow) (cP1 cI) (cP1 cI) (cP1 cI) (cP1 cI) (cP1 cI) fun f p a ap b bp => (.yes, .b (isM f p a ap b bp))
theorem o_find2 : ∀ f p a ap b bp, OkC Tryz.prog 210 [(cA0 .flow).enc f, (cP1 cI).enc p, (cP1 cI).enc a, (cP1 cI).enc ap, (cP1 cI).enc b, (cP1 cI).enc bp] (.b (isM f p a ap b bp)) := fun f p a ap b bp =>
  have hs : Sf (fnT Tryz.prog G4 (fun _ _ => none) Tryz.f210 (bd Tryz.f210) [(cA0 .flow).enc f, (cP1 cI).enc p, (cP1 cI).enc a, (cP1 cI).enc ap, (cP1 cI).enc b, (cP1 cI).enc bp]) := Sf.chk (by kernel_rfl)
  OkC.b (fn_ok0 G4_ok hmx Tryz.func210 (bd_eq (by kernel_rfl)) _ hs) hs (by kernel_rfl) (by kernel_rfl)
theorem e_find2 : EOk Tryz.prog 210 c_find2 := ent6_ok Tryz.call210 fun f p a ap b bp hq => o_find2 f p a ap b bp
def G5 : Ctx := G4.add [(141, c_session1), (174, c_of1), (176, c_user1), (147, c_connAt1), (208, c_find1), (210, c_find2)]
theorem G5_ok : COk Tryz.prog G5 := G4_ok.add (CsOk.cons e_session1 (CsOk.cons e_of1 (CsOk.cons e_user1 (CsOk.cons e_connAt1 (CsOk.cons e_find1 (CsOk.cons e_find2 (CsOk.nil)))))))
abbrev k_session := cC1 141 (cP1 cI)
def el {α : Type} [Inhabited α] (l : List α) (i : Nat) : α := l.getD i default
def I_idxSession (l : List (El .session)) (id : Cd.ty (k_session)) (z : Int) : St := ⟨fr 19 [(0, .lst .session l), (1, k_session.enc id), (7, .I l.length), (8, .I z)], []⟩
theorem r_idxSession (l : List (El .session)) (id : Cd.ty (k_session)) (hn : l.length ≤ 1099511627776) : Sat Tryz.prog 0 (.loop (lpb Tryz.f140 0)) (I_idxSession l id (0 : Nat)) (bif anyN l.length (fun i => (l.getD i (elDef .session)).id == id) then .ret ⟨fr 19 [(4, .I (fstN l.length (fun i => (l.getD i (elDef .session)).id == id) : Nat))], []⟩ else .exit 0 ⟨fr 19 [], []⟩) :=
  sat_find l.length (I_idxSession l id) (fun i => (l.getD i (elDef .session)).id == id) 0 _ (fun k => ⟨fr 19 [(4, .I (k : Nat))], []⟩) fun k hk =>
    rnd_sat (v := ⟨[0, 1, 7, 8], ids 0, [], ids 0, [4], []⟩) G5_ok hmx (noLoops (n := 1) (by kernel_rfl)) (n := 1) (L := fun _ _ => none) (SfO.bads (b := bif decide ((k : Int) < l.length) then (bif decide ((k : Int) < l.length) then false else true) else false) (by kernel_rfl) (by cases decide ((k : Int) < l.length) <;> rfl) (by kernel_rfl))
      ((by kernel_rfl : _ = (bif decide ((k : Int) < l.length) then (bif decide ((k : Int) < l.length) then (bif (fun i => (l.getD i (elDef .session)).id == id) k then .ret ⟨fr 19 [(4, .I (k : Nat))], []⟩ else .nrm (I_idxSession l id (wr (k + 1)))) else default) else .exit 0 ⟨fr 19 [], []⟩)).trans (rnd_eq (f := fun z => .nrm (I_idxSession l id z)) (q := (fun i => (l.getD i (elDef .session)).id == id) k) (r := .ret ⟨fr 19 [(4, .I (k : Nat))], []⟩) (x := .exit 0 ⟨fr 19 [], []⟩) hn))
def S_idxSession (l : List (El .session)) (id : Cd.ty (k_session)) : List LoopSpec := [⟨[0, 1, 7, 8], ids 0, I_idxSession l id (0 : Nat), .node (small l) (.node (anyN l.length (fun i => (l.getD i (elDef .session)).id == id)) (.leaf (.ret ⟨fr 19 [(4, .I (fstN l.length (fun i => (l.getD i (elDef .session)).id == id) : Nat))], []⟩)) (.leaf (.exit 0 ⟨fr 19 [], []⟩))) .bad, []⟩]
theorem z_idxSession (l : List (El .session)) (id : Cd.ty (k_session)) : SpecOk Tryz.prog Tryz.f140 0 ⟨[0, 1, 7, 8], ids 0, I_idxSession l id (0 : Nat), .node (small l) (.node (anyN l.length (fun i => (l.getD i (elDef .session)).id == id)) (.leaf (.ret ⟨fr 19 [(4, .I (fstN l.length (fun i => (l.getD i (elDef .session)).id == id) : Nat))], []⟩)) (.leaf (.exit 0 ⟨fr 19 [], []⟩))) .bad, []⟩ := .mkW fun hq => r_idxSession l id (of_decide_eq_true hq)
def c_idxSession : Entry := ent2 (cL .session) (k_session) fun l id => (.when (small l), .I (idxM l.length (fun i => (l.getD i (elDef .session)).id == id)))
theorem o_idxSession : ∀ (l : List (El .session)) (id : Cd.ty (k_session)), small l = true → OkC Tryz.prog 140 [(cL .session).enc l, k_session.enc id] (.I (idxM l.length (fun i => (l.getD i (elDef .session)).id == id))) := fun l id hq =>
  have hs : Sf (fnT Tryz.prog G5 (Ls (S_idxSession l id)) Tryz.f140 (bd Tryz.f140) [(cL .session).enc l, k_session.enc id]) := Sf.obls (b := bif small l then false else true) (by kernel_rfl) (by rw [hq]; rfl) (l := [I_idxSession l id (0 : Nat) = I_idxSession l id (0 : Nat)]) (by kernel_rfl) (by simp)
  (show (bif small l then idxM l.length (fun i => (l.getD i (elDef .session)).id == id) else 0) = idxM l.length (fun i => (l.getD i (elDef .session)).id == id) from by rw [hq]; rfl) ▸ (OkC.i (fn_okL G5_ok hmx Tryz.func140 (bd_eq (by kernel_rfl)) _ _ (.cons (z_idxSession l id) (.nil _)) hs) hs (by kernel_rfl) (by kernel_rfl) : OkC Tryz.prog 140 [(cL .session).enc l, k_session.enc id] (.I (bif small l then idxM l.length (fun i => (l.getD i (elDef .session)).id == id) else 0)))
theorem e_idxSession : EOk Tryz.prog 140 c_idxSession := ent2_ok Tryz.call140 fun l id hq => o_idxSession l id hq
end Go.Proofs.YthlebalbiokjpaaGreat
namespace Go.Proofs.YthlebalbiokjpaaGreat
open Go.RowKit
set_option linter.unusedVariables false
set_option maxRecDepth 100000

def G6 : Ctx := G5.add [(228, c_NameOK), (231, c_l00Word)]
theorem G6_ok : COk Tryz.prog G6 := G5_ok.add (CsOk.cons e_NameOK (CsOk.cons e_l00Word (CsOk.nil)))
def shortM (t : ByteArray) : Bool := nameM t && decide ((t.size : Int) ≤ 8)
def c_shortName : Entry := ent1 cS fun t => (.yes, .b (shortM t))
theorem o_shortName : ∀ t, OkC Tryz.prog 203 [cS.enc t] (.b (shortM t)) := fun t =>
  have hs : Sf (fnT Tryz.prog G6 (fun _ _ => none) Tryz.f203 (bd Tryz.f203) [cS.enc t]) := Sf.chk (by kernel_rfl)
  OkC.b (fn_ok0 G6_ok hmx Tryz.func203 (bd_eq (by kernel_rfl)) _ hs) hs (by kernel_rfl) (by kernel_rfl)
theorem e_shortName : EOk Tryz.prog 203 c_shortName := ent1_ok Tryz.call203 fun t hq => o_shortName t
def c_sNameOK : Entry := ent1 cS fun t => (.yes, .b (nameM t))
theorem o_sNameOK : ∀ t, OkC Tryz.prog 221 [cS.enc t] (.b (nameM t)) := fun t =>
  have hs : Sf (fnT Tryz.prog G6 (fun _ _ => none) Tryz.f221 (bd Tryz.f221) [cS.enc t]) := Sf.chk (by kernel_rfl)
  OkC.b (fn_ok0 G6_ok hmx Tryz.func221 (bd_eq (by kernel_rfl)) _ hs) hs (by kernel_rfl) (by kernel_rfl)
theorem e_sNameOK : EOk Tryz.prog 221 c_sNameOK := ent1_ok Tryz.call221 fun t hq => o_sNameOK t
def G7 : Ctx := G6.add [(203, c_shortName), (221, c_sNameOK)]
theorem G7_ok : COk Tryz.prog G7 := G6_ok.add (CsOk.cons e_shortName (CsOk.cons e_sNameOK (CsOk.nil)))
def c_l08Name : Entry := ent1 cS fun t => (.yes, .b (shortM t))
theorem o_l08Name : ∀ t, OkC Tryz.prog 191 [cS.enc t] (.b (shortM t)) := fun t =>
  have hs : Sf (fnT Tryz.prog G7 (fun _ _ => none) Tryz.f191 (bd Tryz.f191) [cS.enc t]) := Sf.chk (by kernel_rfl)
  OkC.b (fn_ok0 G7_ok hmx Tryz.func191 (bd_eq (by kernel_rfl)) _ hs) hs (by kernel_rfl) (by kernel_rfl)
theorem e_l08Name : EOk Tryz.prog 191 c_l08Name := ent1_ok Tryz.call191 fun t hq => o_l08Name t
def I_idxInt (l : List (El .int)) (v : Cd.ty (cI)) (z : Int) : St := ⟨fr 19 [(0, .lst .int l), (1, cI.enc v), (7, .I l.length), (8, .I z)], []⟩
theorem r_idxInt (l : List (El .int)) (v : Cd.ty (cI)) (hn : l.length ≤ 1099511627776) : Sat Tryz.prog 0 (.loop (lpb Tryz.f238 0)) (I_idxInt l v (0 : Nat)) (bif anyN l.length (fun i => v == (l.getD i (elDef .int))) then .ret ⟨fr 19 [(4, .I (fstN l.length (fun i => v == (l.getD i (elDef .int))) : Nat))], []⟩ else .exit 0 ⟨fr 19 [], []⟩) :=
  sat_find l.length (I_idxInt l v) (fun i => v == (l.getD i (elDef .int))) 0 _ (fun k => ⟨fr 19 [(4, .I (k : Nat))], []⟩) fun k hk =>
    rnd_sat (v := ⟨[0, 1, 7, 8], ids 0, [], ids 0, [4], []⟩) G7_ok hmx (noLoops (n := 1) (by kernel_rfl)) (n := 1) (L := fun _ _ => none) (SfO.bads (b := bif decide ((k : Int) < l.length) then (bif decide ((k : Int) < l.length) then false else true) else false) (by kernel_rfl) (by cases decide ((k : Int) < l.length) <;> rfl) (by kernel_rfl))
      ((by kernel_rfl : _ = (bif decide ((k : Int) < l.length) then (bif decide ((k : Int) < l.length) then (bif (fun i => v == (l.getD i (elDef .int))) k then .ret ⟨fr 19 [(4, .I (k : Nat))], []⟩ else .nrm (I_idxInt l v (wr (k + 1)))) else default) else .exit 0 ⟨fr 19 [], []⟩)).trans (rnd_eq (f := fun z => .nrm (I_idxInt l v z)) (q := (fun i => v == (l.getD i (elDef .int))) k) (r := .ret ⟨fr 19 [(4, .I (k : Nat))], []⟩) (x := .exit 0 ⟨fr 19 [], []⟩) hn))
def S_idxInt (l : List (El .int)) (v : Cd.ty (cI)) : List LoopSpec := [⟨[0, 1, 7, 8], ids 0, I_idxInt l v (0 : Nat), .node (small l) (.node (anyN l.length (fun i => v == (l.getD i (elDef .int)))) (.leaf (.ret ⟨fr 19 [(4, .I (fstN l.length (fun i => v == (l.getD i (elDef .int))) : Nat))], []⟩)) (.leaf (.exit 0 ⟨fr 19 [], []⟩))) .bad, []⟩]
theorem z_idxInt (l : List (El .int)) (v : Cd.ty (cI)) : SpecOk Tryz.prog Tryz.f238 0 ⟨[0, 1, 7, 8], ids 0, I_idxInt l v (0 : Nat), .node (small l) (.node (anyN l.length (fun i => v == (l.getD i (elDef .int)))) (.leaf (.ret ⟨fr 19 [(4, .I (fstN l.length (fun i => v == (l.getD i (elDef .int))) : Nat))], []⟩)) (.leaf (.exit 0 ⟨fr 19 [], []⟩))) .bad, []⟩ := .mkW fun hq => r_idxInt l v (of_decide_eq_true hq)
def c_idxInt : Entry := ent2 (cL .int) (cI) fun l v => (.when (small l), .I (idxM l.length (fun i => v == (l.getD i (elDef .int)))))
theorem o_idxInt : ∀ (l : List (El .int)) (v : Cd.ty (cI)), small l = true → OkC Tryz.prog 238 [(cL .int).enc l, cI.enc v] (.I (idxM l.length (fun i => v == (l.getD i (elDef .int))))) := fun l v hq =>
  have hs : Sf (fnT Tryz.prog G7 (Ls (S_idxInt l v)) Tryz.f238 (bd Tryz.f238) [(cL .int).enc l, cI.enc v]) := Sf.obls (b := bif small l then false else true) (by kernel_rfl) (by rw [hq]; rfl) (l := [I_idxInt l v (0 : Nat) = I_idxInt l v (0 : Nat)]) (by kernel_rfl) (by simp)
  (show (bif small l then idxM l.length (fun i => v == (l.getD i (elDef .int))) else 0) = idxM l.length (fun i => v == (l.getD i (elDef .int))) from by rw [hq]; rfl) ▸ (OkC.i (fn_okL G7_ok hmx Tryz.func238 (bd_eq (by kernel_rfl)) _ _ (.cons (z_idxInt l v) (.nil _)) hs) hs (by kernel_rfl) (by kernel_rfl) : OkC Tryz.prog 238 [(cL .int).enc l, cI.enc v] (.I (bif small l then idxM l.length (fun i => v == (l.getD i (elDef .int))) else 0)))
theorem e_idxInt : EOk Tryz.prog 238 c_idxInt := ent2_ok Tryz.call238 fun l v hq => o_idxInt l v hq
def G8 : Ctx := G7.add [(238, c_idxInt), (191, c_l08Name)]
theorem G8_ok : COk Tryz.prog G8 := G7_ok.add (CsOk.cons e_idxInt (CsOk.cons e_l08Name (CsOk.nil)))
def c_contInt : Entry := ent2 (cL .int) cI fun l v => (.when (small l), .b (anyN l.length (fun i => v == (l.getD i (elDef .int)))))
theorem o_contInt : ∀ l v, (small l) = true → OkC Tryz.prog 233 [(cL .int).enc l, cI.enc v] (.b (anyN l.length (fun i => v == (l.getD i (elDef .int))))) := fun l v hq =>
  have hs : Sf (fnT Tryz.prog G8 (fun _ _ => none) Tryz.f233 (bd Tryz.f233) [(cL .int).enc l, cI.enc v]) := Sf.bads (b := bif small l then false else true) (by kernel_rfl) ((by rw [hq]; rfl)) (by kernel_rfl)
  (show (bif small l then decide (idxM l.length (fun i => v == (l.getD i (elDef .int))) ≥ 0) else false) = (anyN l.length (fun i => v == (l.getD i (elDef .int)))) from (by rw [hq]; exact idxM_ge)) ▸ (OkC.b (fn_ok0 G8_ok hmx Tryz.func233 (bd_eq (by kernel_rfl)) _ hs) hs (by kernel_rfl) (by kernel_rfl) : OkC Tryz.prog 233 [(cL .int).enc l, cI.enc v] (.b (bif small l then decide (idxM l.length (fun i => v == (l.getD i (elDef .int))) ≥ 0) else false)))
theorem e_contInt : EOk Tryz.prog 233 c_contInt := ent2_ok Tryz.call233 fun l v hq => o_contInt l v hq
def G9 : Ctx := G8.add [(233, c_contInt)]
theorem G9_ok : COk Tryz.prog G9 := G8_ok.add (CsOk.cons e_contInt (CsOk.nil))
def ruleOK (r : XRule) : Bool := bif r.proto == 0 then true else bif r.proto == 1 then true else bif r.proto == 6 then true else r.proto == 17
def ruleM (r : XRule) : Bool := ruleOK r && (netOK ⟨r.ip, r.bits⟩ && rangeM ⟨r.low, r.high⟩)
def c_RuleOK : Entry := ent1 (cA0 .rule) fun r => (.yes, .b (ruleM r))
theorem o_RuleOK : ∀ r, OkC Tryz.prog 227 [(cA0 .rule).enc r] (.b (ruleM r)) := fun r =>
  have hs : Sf (fnT Tryz.prog G9 (fun _ _ => none) Tryz.f227 (bd Tryz.f227) [(cA0 .rule).enc r]) := Sf.chk (by kernel_rfl)
  (show (anyN 4 (fun i => r.proto == ([0, 1, 6, 17] : List Int).getD i (elDef .int)) && (netOK ⟨r.ip, r.bits⟩ && rangeM ⟨r.low, r.high⟩)) = (ruleM r) from (by unfold ruleM ruleOK; congr 1; show (r.proto == 0 || (r.proto == 1 || (r.proto == 6 || (r.proto == 17 || false)))) = _; cases r.proto == 0 <;> cases r.proto == 1 <;> cases r.proto == 6 <;> cases r.proto == 17 <;> rfl)) ▸ (OkC.b (fn_ok0 G9_ok hmx Tryz.func227 (bd_eq (by kernel_rfl)) _ hs) hs (by kernel_rfl) (by kernel_rfl) : OkC Tryz.prog 227 [(cA0 .rule).enc r] (.b (anyN 4 (fun i => r.proto == ([0, 1, 6, 17] : List Int).getD i (elDef .int)) && (netOK ⟨r.ip, r.bits⟩ && rangeM ⟨r.low, r.high⟩))))
theorem e_RuleOK : EOk Tryz.prog 227 c_RuleOK := ent1_ok Tryz.call227 fun r hq => o_RuleOK r
def c_sRuleOK : Entry := ent1 (cA0 .rule) fun r => (.yes, .b (ruleM r))
theorem o_sRuleOK : ∀ r, OkC Tryz.prog 222 [(cA0 .rule).enc r] (.b (ruleM r)) := fun r =>
  have hs : Sf (fnT Tryz.prog G9 (fun _ _ => none) Tryz.f222 (bd Tryz.f222) [(cA0 .rule).enc r]) := Sf.chk (by kernel_rfl)
  (show (bif r.proto == 0 then (netOK ⟨r.ip, r.bits⟩ && rangeM ⟨r.low, r.high⟩) else bif r.proto == 1 then (netOK ⟨r.ip, r.bits⟩ && rangeM ⟨r.low, r.high⟩) else bif r.proto == 6 then (netOK ⟨r.ip, r.bits⟩ && rangeM ⟨r.low, r.high⟩) else (r.proto == 17 && (netOK ⟨r.ip, r.bits⟩ && rangeM ⟨r.low, r.high⟩))) = (ruleM r) from (by unfold ruleM ruleOK; cases r.proto == 0 <;> cases r.proto == 1 <;> cases r.proto == 6 <;> cases r.proto == 17 <;> rfl)) ▸ (OkC.b (fn_ok0 G9_ok hmx Tryz.func222 (bd_eq (by kernel_rfl)) _ hs) hs (by kernel_rfl) (by kernel_rfl) : OkC Tryz.prog 222 [(cA0 .rule).enc r] (.b (bif r.proto == 0 then (netOK ⟨r.ip, r.bits⟩ && rangeM ⟨r.low, r.high⟩) else bif r.proto == 1 then (netOK ⟨r.ip, r.bits⟩ && rangeM ⟨r.low, r.high⟩) else bif r.proto == 6 then (netOK ⟨r.ip, r.bits⟩ && rangeM ⟨r.low, r.high⟩) else (r.proto == 17 && (netOK ⟨r.ip, r.bits⟩ && rangeM ⟨r.low, r.high⟩)))))
theorem e_sRuleOK : EOk Tryz.prog 222 c_sRuleOK := ent1_ok Tryz.call222 fun r hq => o_sRuleOK r
def G10 : Ctx := G9.add [(227, c_RuleOK), (222, c_sRuleOK)]
theorem G10_ok : COk Tryz.prog G10 := G9_ok.add (CsOk.cons e_RuleOK (CsOk.cons e_sRuleOK (CsOk.nil)))
def c_roleOK1 : Entry := ent1 (cA0 .rule) fun r => (.yes, .b (!(ruleM r)))
theorem o_roleOK1 : ∀ r, OkC Tryz.prog 226 [(cA0 .rule).enc r] (.b (!(ruleM r))) := fun r =>
  have hs : Sf (fnT Tryz.prog G10 (fun _ _ => none) Tryz.f226 (bd Tryz.f226) [(cA0 .rule).enc r]) := Sf.chk (by kernel_rfl)
  OkC.b (fn_ok0 G10_ok hmx Tryz.func226 (bd_eq (by kernel_rfl)) _ hs) hs (by kernel_rfl) (by kernel_rfl)
theorem e_roleOK1 : EOk Tryz.prog 226 c_roleOK1 := ent1_ok Tryz.call226 fun r hq => o_roleOK1 r
abbrev k_rule := cC0 226
def G11 : Ctx := G10.add [(226, c_roleOK1)]
theorem G11_ok : COk Tryz.prog G11 := G10_ok.add (CsOk.cons e_roleOK1 (CsOk.nil))
def I_idxRule (l : List (El .rule)) (u : Cd.ty (k_rule)) (z : Int) : St := ⟨fr 19 [(0, .lst .rule l), (1, k_rule.enc u), (7, .I l.length), (8, .I z)], []⟩
theorem r_idxRule (l : List (El .rule)) (u : Cd.ty (k_rule)) (hn : l.length ≤ 1099511627776) : Sat Tryz.prog 0 (.loop (lpb Tryz.f232 0)) (I_idxRule l u (0 : Nat)) (bif anyN l.length (fun i => !(ruleM (l.getD i (elDef .rule)))) then .ret ⟨fr 19 [(4, .I (fstN l.length (fun i => !(ruleM (l.getD i (elDef .rule)))) : Nat))], []⟩ else .exit 0 ⟨fr 19 [], []⟩) :=
  sat_find l.length (I_idxRule l u) (fun i => !(ruleM (l.getD i (elDef .rule)))) 0 _ (fun k => ⟨fr 19 [(4, .I (k : Nat))], []⟩) fun k hk =>
    rnd_sat (v := ⟨[0, 1, 7, 8], ids 0, [], ids 0, [4], []⟩) G11_ok hmx (noLoops (n := 1) (by kernel_rfl)) (n := 1) (L := fun _ _ => none) (SfO.bads (b := bif decide ((k : Int) < l.length) then (bif decide ((k : Int) < l.length) then false else true) else false) (by kernel_rfl) (by cases decide ((k : Int) < l.length) <;> rfl) (by kernel_rfl))
      ((by kernel_rfl : _ = (bif decide ((k : Int) < l.length) then (bif decide ((k : Int) < l.length) then (bif (fun i => !(ruleM (l.getD i (elDef .rule)))) k then .ret ⟨fr 19 [(4, .I (k : Nat))], []⟩ else .nrm (I_idxRule l u (wr (k + 1)))) else default) else .exit 0 ⟨fr 19 [], []⟩)).trans (rnd_eq (f := fun z => .nrm (I_idxRule l u z)) (q := (fun i => !(ruleM (l.getD i (elDef .rule)))) k) (r := .ret ⟨fr 19 [(4, .I (k : Nat))], []⟩) (x := .exit 0 ⟨fr 19 [], []⟩) hn))
def S_idxRule (l : List (El .rule)) (u : Cd.ty (k_rule)) : List LoopSpec := [⟨[0, 1, 7, 8], ids 0, I_idxRule l u (0 : Nat), .node (small l) (.node (anyN l.length (fun i => !(ruleM (l.getD i (elDef .rule))))) (.leaf (.ret ⟨fr 19 [(4, .I (fstN l.length (fun i => !(ruleM (l.getD i (elDef .rule)))) : Nat))], []⟩)) (.leaf (.exit 0 ⟨fr 19 [], []⟩))) .bad, []⟩]
theorem z_idxRule (l : List (El .rule)) (u : Cd.ty (k_rule)) : SpecOk Tryz.prog Tryz.f232 0 ⟨[0, 1, 7, 8], ids 0, I_idxRule l u (0 : Nat), .node (small l) (.node (anyN l.length (fun i => !(ruleM (l.getD i (elDef .rule))))) (.leaf (.ret ⟨fr 19 [(4, .I (fstN l.length (fun i => !(ruleM (l.getD i (elDef .rule)))) : Nat))], []⟩)) (.leaf (.exit 0 ⟨fr 19 [], []⟩))) .bad, []⟩ := .mkW fun hq => r_idxRule l u (of_decide_eq_true hq)
def c_idxRule : Entry := ent2 (cL .rule) (k_rule) fun l u => (.when (small l), .I (idxM l.length (fun i => !(ruleM (l.getD i (elDef .rule))))))
theorem o_idxRule : ∀ (l : List (El .rule)) (u : Cd.ty (k_rule)), small l = true → OkC Tryz.prog 232 [(cL .rule).enc l, k_rule.enc u] (.I (idxM l.length (fun i => !(ruleM (l.getD i (elDef .rule)))))) := fun l u hq =>
  have hs : Sf (fnT Tryz.prog G11 (Ls (S_idxRule l u)) Tryz.f232 (bd Tryz.f232) [(cL .rule).enc l, k_rule.enc u]) := Sf.obls (b := bif small l then false else true) (by kernel_rfl) (by rw [hq]; rfl) (l := [I_idxRule l u (0 : Nat) = I_idxRule l u (0 : Nat)]) (by kernel_rfl) (by simp)
  (show (bif small l then idxM l.length (fun i => !(ruleM (l.getD i (elDef .rule)))) else 0) = idxM l.length (fun i => !(ruleM (l.getD i (elDef .rule)))) from by rw [hq]; rfl) ▸ (OkC.i (fn_okL G11_ok hmx Tryz.func232 (bd_eq (by kernel_rfl)) _ _ (.cons (z_idxRule l u) (.nil _)) hs) hs (by kernel_rfl) (by kernel_rfl) : OkC Tryz.prog 232 [(cL .rule).enc l, k_rule.enc u] (.I (bif small l then idxM l.length (fun i => !(ruleM (l.getD i (elDef .rule)))) else 0)))
theorem e_idxRule : EOk Tryz.prog 232 c_idxRule := ent2_ok Tryz.call232 fun l u hq => o_idxRule l u hq
def G12 : Ctx := G11.add [(232, c_idxRule)]
theorem G12_ok : COk Tryz.prog G12 := G11_ok.add (CsOk.cons e_idxRule (CsOk.nil))
def c_contRule : Entry := ent2 (cL .rule) k_rule fun l u => (.when (small l), .b (anyN l.length (fun i => !(ruleM (l.getD i (elDef .rule))))))
theorem o_contRule : ∀ l u, (small l) = true → OkC Tryz.prog 225 [(cL .rule).enc l, k_rule.enc u] (.b (anyN l.length (fun i => !(ruleM (l.getD i (elDef .rule)))))) := fun l u hq =>
  have hs : Sf (fnT Tryz.prog G12 (fun _ _ => none) Tryz.f225 (bd Tryz.f225) [(cL .rule).enc l, k_rule.enc u]) := Sf.bads (b := bif small l then false else true) (by kernel_rfl) ((by rw [hq]; rfl)) (by kernel_rfl)
  (show (bif small l then decide (idxM l.length (fun i => !(ruleM (l.getD i (elDef .rule)))) ≥ 0) else false) = (anyN l.length (fun i => !(ruleM (l.getD i (elDef .rule))))) from (by rw [hq]; exact idxM_ge)) ▸ (OkC.b (fn_ok0 G12_ok hmx Tryz.func225 (bd_eq (by kernel_rfl)) _ hs) hs (by kernel_rfl) (by kernel_rfl) : OkC Tryz.prog 225 [(cL .rule).enc l, k_rule.enc u] (.b (bif small l then decide (idxM l.length (fun i => !(ruleM (l.getD i (elDef .rule)))) ≥ 0) else false)))
theorem e_contRule : EOk Tryz.prog 225 c_contRule := ent2_ok Tryz.call225 fun l u hq => o_contRule l u hq
def G13 : Ctx := G12.add [(225, c_contRule)]
theorem G13_ok : COk Tryz.prog G13 := G12_ok.add (CsOk.cons e_contRule (CsOk.nil))
def rulesOK (l : List XRule) (i : Nat) : Bool := ruleM (l.getD i (elDef .rule))
def roleNs (r : XRole) : Bool := w_ r.quota 1 1000000 && (w_ r.minutes 1 1000 && w_ r.idle 1 1000)
def roleM (r : XRole) : Bool := bif shortM r.name then (bif decide ((r.rules.length : Int) > 8) then false else (allN r.rules.length (rulesOK r.rules) && roleNs r)) else false
theorem any_not {n : Nat} {p : Nat → Bool} : anyN n (fun i => !(p i)) = !(allN n p) := by
  rw [anyN_all]
  simp
theorem small_of {α : Type} {l : List α} {m : Int} (h : decide ((l.length : Int) > m) = false) (hm : m ≤ 1000) : small l = true := by
  simp at h
  unfold small
  simp
  omega
def c_RoleOK : Entry := ent1 (cA0 .role) fun r => (.yes, .b (roleM r))
theorem o_RoleOK : ∀ r, OkC Tryz.prog 202 [(cA0 .role).enc r] (.b (roleM r)) := fun r =>
  have hs : Sf (fnT Tryz.prog G13 (fun _ _ => none) Tryz.f202 (bd Tryz.f202) [(cA0 .role).enc r]) := Sf.bads (b := bif shortM r.name then (bif decide ((r.rules.length : Int) > 8) then false else bif small r.rules then false else true) else false) (by kernel_rfl) ((by
    cases shortM r.name <;> cases h : decide ((r.rules.length : Int) > 8) <;> try rfl
    rw [small_of h (by omega)]; rfl)) (by kernel_rfl)
  (show (bif shortM r.name then (bif decide ((r.rules.length : Int) > 8) then false else bif small r.rules then (bif anyN r.rules.length (fun i => !(ruleM (r.rules.getD i (elDef .rule)))) then false else roleNs r) else false) else false) = (roleM r) from (by
    unfold roleM
    cases shortM r.name <;> cases h : decide ((r.rules.length : Int) > 8) <;> try rfl
    rw [small_of h (by omega), show anyN r.rules.length (fun i => !(ruleM (r.rules.getD i (elDef .rule)))) = _ from any_not (p := rulesOK r.rules)]
    cases allN r.rules.length (rulesOK r.rules) <;> rfl)) ▸ (OkC.b (fn_ok0 G13_ok hmx Tryz.func202 (bd_eq (by kernel_rfl)) _ hs) hs (by kernel_rfl) (by kernel_rfl) : OkC Tryz.prog 202 [(cA0 .role).enc r] (.b (bif shortM r.name then (bif decide ((r.rules.length : Int) > 8) then false else bif small r.rules then (bif anyN r.rules.length (fun i => !(ruleM (r.rules.getD i (elDef .rule)))) then false else roleNs r) else false) else false)))
theorem e_RoleOK : EOk Tryz.prog 202 c_RoleOK := ent1_ok Tryz.call202 fun r hq => o_RoleOK r
def I_sRoleOK (r : Cd.ty ((cA0 .role))) (z : Int) : St := ⟨fr 52 [(1, .box 0 0), (3, .I z)], [⟨199, .cells (row .role r), false, false⟩]⟩
theorem r_sRoleOK (r : Cd.ty ((cA0 .role))) (hn : r.rules.length ≤ 8)  (h0 : 0 ≤ r.rules.length) : Sat Tryz.prog 0 (.loop (lpb Tryz.f190 0)) (I_sRoleOK r (0 : Nat)) (bif allF (fun i => rulesOK r.rules i) (r.rules.length) 0 then .exit 0 ⟨fr 52 [], []⟩ else .ret ⟨fr 52 [(2, .v (.bool false))], []⟩) :=
  sat_all (r.rules.length) 0 h0 (I_sRoleOK r) (fun i => rulesOK r.rules i) 0 _ _ fun k h0 hk =>
    rnd_sat (v := ⟨[1, 3], ids 1, [], ids 0, [2], []⟩) G13_ok hmx (noLoops (n := 1) (by kernel_rfl)) (n := 1) (L := fun _ _ => none) (SfO.bads (b := bif decide ((k : Int) < r.rules.length) then (bif decide ((k : Int) < r.rules.length) then false else true) else false) (by kernel_rfl) ((by cases decide ((k : Int) < r.rules.length) <;> rfl)) (by kernel_rfl))
      ((by kernel_rfl : _ = (bif decide ((k : Int) < (r.rules.length : Nat)) then (bif decide ((k : Int) < r.rules.length) then (bif ruleM (r.rules.getD k (elDef .rule)) then .nrm (I_sRoleOK r (wr (k + 1))) else .ret ⟨fr 52 [(2, .v (.bool false))], []⟩) else default) else .exit 0 ⟨fr 52 [], []⟩)).trans (all_eq fun hk => ((by rw [bnd hk, wrs hk (by omega)]; rfl))))
def S_sRoleOK (r : Cd.ty ((cA0 .role))) : LoopSpec := ⟨[1, 3], ids 1, I_sRoleOK r (0 : Nat), (.node (decide (r.rules.length ≤ 8)) (.node (allF (fun i => rulesOK r.rules i) (r.rules.length) 0) (.leaf (.exit 0 ⟨fr 52 [], []⟩)) (.leaf (.ret ⟨fr 52 [(2, .v (.bool false))], []⟩))) .bad), []⟩
theorem z_sRoleOK (r : Cd.ty ((cA0 .role)))  : SpecOk Tryz.prog Tryz.f190 0 ⟨[1, 3], ids 1, I_sRoleOK r (0 : Nat), (.node (decide (r.rules.length ≤ 8)) (.node (allF (fun i => rulesOK r.rules i) (r.rules.length) 0) (.leaf (.exit 0 ⟨fr 52 [], []⟩)) (.leaf (.ret ⟨fr 52 [(2, .v (.bool false))], []⟩))) .bad), []⟩ := .mkW fun hq => r_sRoleOK r (of_decide_eq_true hq) (Nat.zero_le _)
theorem le8 {n : Nat} (h : decide ((n : Int) > 8) = false) : decide (n ≤ 8) = true := by
  simp at h
  simp
  omega
def c_sRoleOK : Entry := ent1 (cA0 .role) fun r => (.yes, .b (roleM r))
theorem o_sRoleOK : ∀ (r : Cd.ty ((cA0 .role))), OkC Tryz.prog 190 [(cA0 .role).enc r] (.b (roleM r)) := fun r =>
  have hs : Sf (fnT Tryz.prog G13 (Ls [S_sRoleOK r]) Tryz.f190 (bd Tryz.f190) [(cA0 .role).enc r]) := Sf.obls (b := bif nameM r.name then (bif decide ((r.name.size : Int) > 8) then false else bif decide ((r.rules.length : Int) > 8) then false else (w_ r.quota 1 1000000 && (w_ r.minutes 1 1000 && (w_ r.idle 1 1000 && (bif decide (r.rules.length ≤ 8) then false else true))))) else false) (by kernel_rfl) ((by
    cases nameM r.name <;> cases decide ((r.name.size : Int) > 8) <;> cases h : decide ((r.rules.length : Int) > 8) <;> try rfl
    rw [le8 h]
    cases w_ r.quota 1 1000000 <;> cases w_ r.minutes 1 1000 <;> cases w_ r.idle 1 1000 <;> rfl)) (l := [I_sRoleOK r (0 : Nat) = I_sRoleOK r (0 : Nat)]) (by kernel_rfl) (by simp)
  (show (bif nameM r.name then (bif decide ((r.name.size : Int) > 8) then false else bif decide ((r.rules.length : Int) > 8) then false else (w_ r.quota 1 1000000 && (w_ r.minutes 1 1000 && (w_ r.idle 1 1000 && (bif decide (r.rules.length ≤ 8) then (bif allF (fun i => rulesOK r.rules i) r.rules.length 0 then true else false) else false))))) else false) = (roleM r) from (by
    unfold roleM shortM roleNs
    rw [show decide ((r.name.size : Int) ≤ 8) = !decide ((r.name.size : Int) > 8) from by rw [Bool.eq_iff_iff]; simp]
    cases nameM r.name <;> cases decide ((r.name.size : Int) > 8) <;> cases h : decide ((r.rules.length : Int) > 8) <;> try rfl
    rw [le8 h, allF_zero]
    cases w_ r.quota 1 1000000 <;> cases w_ r.minutes 1 1000 <;> cases w_ r.idle 1 1000 <;> cases allN r.rules.length (rulesOK r.rules) <;> rfl)) ▸ (OkC.b (fn_okL G13_ok hmx Tryz.func190 (bd_eq (by kernel_rfl)) _ _ (.cons (z_sRoleOK r) (.nil _)) hs) hs (by kernel_rfl) (by kernel_rfl) : OkC Tryz.prog 190 [(cA0 .role).enc r] (.b (bif nameM r.name then (bif decide ((r.name.size : Int) > 8) then false else bif decide ((r.rules.length : Int) > 8) then false else (w_ r.quota 1 1000000 && (w_ r.minutes 1 1000 && (w_ r.idle 1 1000 && (bif decide (r.rules.length ≤ 8) then (bif allF (fun i => rulesOK r.rules i) r.rules.length 0 then true else false) else false))))) else false)))
theorem e_sRoleOK : EOk Tryz.prog 190 c_sRoleOK := ent1_ok Tryz.call190 fun r hq => o_sRoleOK r
end Go.Proofs.YthlebalbiokjpaaGreat
namespace Go.Proofs.YthlebalbiokjpaaGreat
open Go.RowKit
set_option linter.unusedVariables false
set_option maxRecDepth 100000

def G14 : Ctx := G13.add [(202, c_RoleOK), (190, c_sRoleOK)]
theorem G14_ok : COk Tryz.prog G14 := G13_ok.add (CsOk.cons e_RoleOK (CsOk.cons e_sRoleOK (CsOk.nil)))
def placeM (x : XPlace) : Bool := netOK ⟨x.ip, x.bits⟩ && rangeM ⟨x.low, x.high⟩
def c_configOK1 : Entry := ent1 (cA0 .place) fun x => (.yes, .b (!(placeM x)))
theorem o_configOK1 : ∀ x, OkC Tryz.prog 200 [(cA0 .place).enc x] (.b (!(placeM x))) := fun x =>
  have hs : Sf (fnT Tryz.prog G14 (fun _ _ => none) Tryz.f200 (bd Tryz.f200) [(cA0 .place).enc x]) := Sf.chk (by kernel_rfl)
  (show (bif netOK ⟨x.ip, x.bits⟩ then !(rangeM ⟨x.low, x.high⟩) else true) = (!(placeM x)) from (by unfold placeM; cases netOK ⟨x.ip, x.bits⟩ <;> rfl)) ▸ (OkC.b (fn_ok0 G14_ok hmx Tryz.func200 (bd_eq (by kernel_rfl)) _ hs) hs (by kernel_rfl) (by kernel_rfl) : OkC Tryz.prog 200 [(cA0 .place).enc x] (.b (bif netOK ⟨x.ip, x.bits⟩ then !(rangeM ⟨x.low, x.high⟩) else true)))
theorem e_configOK1 : EOk Tryz.prog 200 c_configOK1 := ent1_ok Tryz.call200 fun x hq => o_configOK1 x
abbrev k_place := cC0 200
def G15 : Ctx := G14.add [(200, c_configOK1)]
theorem G15_ok : COk Tryz.prog G15 := G14_ok.add (CsOk.cons e_configOK1 (CsOk.nil))
def I_idxPlace (l : List (El .place)) (u : Cd.ty (k_place)) (z : Int) : St := ⟨fr 19 [(0, .lst .place l), (1, k_place.enc u), (7, .I l.length), (8, .I z)], []⟩
theorem r_idxPlace (l : List (El .place)) (u : Cd.ty (k_place)) (hn : l.length ≤ 1099511627776) : Sat Tryz.prog 0 (.loop (lpb Tryz.f224 0)) (I_idxPlace l u (0 : Nat)) (bif anyN l.length (fun i => !(placeM (l.getD i (elDef .place)))) then .ret ⟨fr 19 [(4, .I (fstN l.length (fun i => !(placeM (l.getD i (elDef .place)))) : Nat))], []⟩ else .exit 0 ⟨fr 19 [], []⟩) :=
  sat_find l.length (I_idxPlace l u) (fun i => !(placeM (l.getD i (elDef .place)))) 0 _ (fun k => ⟨fr 19 [(4, .I (k : Nat))], []⟩) fun k hk =>
    rnd_sat (v := ⟨[0, 1, 7, 8], ids 0, [], ids 0, [4], []⟩) G15_ok hmx (noLoops (n := 1) (by kernel_rfl)) (n := 1) (L := fun _ _ => none) (SfO.bads (b := bif decide ((k : Int) < l.length) then (bif decide ((k : Int) < l.length) then false else true) else false) (by kernel_rfl) (by cases decide ((k : Int) < l.length) <;> rfl) (by kernel_rfl))
      ((by kernel_rfl : _ = (bif decide ((k : Int) < l.length) then (bif decide ((k : Int) < l.length) then (bif (fun i => !(placeM (l.getD i (elDef .place)))) k then .ret ⟨fr 19 [(4, .I (k : Nat))], []⟩ else .nrm (I_idxPlace l u (wr (k + 1)))) else default) else .exit 0 ⟨fr 19 [], []⟩)).trans (rnd_eq (f := fun z => .nrm (I_idxPlace l u z)) (q := (fun i => !(placeM (l.getD i (elDef .place)))) k) (r := .ret ⟨fr 19 [(4, .I (k : Nat))], []⟩) (x := .exit 0 ⟨fr 19 [], []⟩) hn))
def S_idxPlace (l : List (El .place)) (u : Cd.ty (k_place)) : List LoopSpec := [⟨[0, 1, 7, 8], ids 0, I_idxPlace l u (0 : Nat), .node (small l) (.node (anyN l.length (fun i => !(placeM (l.getD i (elDef .place))))) (.leaf (.ret ⟨fr 19 [(4, .I (fstN l.length (fun i => !(placeM (l.getD i (elDef .place)))) : Nat))], []⟩)) (.leaf (.exit 0 ⟨fr 19 [], []⟩))) .bad, []⟩]
theorem z_idxPlace (l : List (El .place)) (u : Cd.ty (k_place)) : SpecOk Tryz.prog Tryz.f224 0 ⟨[0, 1, 7, 8], ids 0, I_idxPlace l u (0 : Nat), .node (small l) (.node (anyN l.length (fun i => !(placeM (l.getD i (elDef .place))))) (.leaf (.ret ⟨fr 19 [(4, .I (fstN l.length (fun i => !(placeM (l.getD i (elDef .place)))) : Nat))], []⟩)) (.leaf (.exit 0 ⟨fr 19 [], []⟩))) .bad, []⟩ := .mkW fun hq => r_idxPlace l u (of_decide_eq_true hq)
def c_idxPlace : Entry := ent2 (cL .place) (k_place) fun l u => (.when (small l), .I (idxM l.length (fun i => !(placeM (l.getD i (elDef .place))))))
theorem o_idxPlace : ∀ (l : List (El .place)) (u : Cd.ty (k_place)), small l = true → OkC Tryz.prog 224 [(cL .place).enc l, k_place.enc u] (.I (idxM l.length (fun i => !(placeM (l.getD i (elDef .place)))))) := fun l u hq =>
  have hs : Sf (fnT Tryz.prog G15 (Ls (S_idxPlace l u)) Tryz.f224 (bd Tryz.f224) [(cL .place).enc l, k_place.enc u]) := Sf.obls (b := bif small l then false else true) (by kernel_rfl) (by rw [hq]; rfl) (l := [I_idxPlace l u (0 : Nat) = I_idxPlace l u (0 : Nat)]) (by kernel_rfl) (by simp)
  (show (bif small l then idxM l.length (fun i => !(placeM (l.getD i (elDef .place)))) else 0) = idxM l.length (fun i => !(placeM (l.getD i (elDef .place)))) from by rw [hq]; rfl) ▸ (OkC.i (fn_okL G15_ok hmx Tryz.func224 (bd_eq (by kernel_rfl)) _ _ (.cons (z_idxPlace l u) (.nil _)) hs) hs (by kernel_rfl) (by kernel_rfl) : OkC Tryz.prog 224 [(cL .place).enc l, k_place.enc u] (.I (bif small l then idxM l.length (fun i => !(placeM (l.getD i (elDef .place)))) else 0)))
theorem e_idxPlace : EOk Tryz.prog 224 c_idxPlace := ent2_ok Tryz.call224 fun l u hq => o_idxPlace l u hq
def G16 : Ctx := G15.add [(224, c_idxPlace)]
theorem G16_ok : COk Tryz.prog G16 := G15_ok.add (CsOk.cons e_idxPlace (CsOk.nil))
def c_contPlace : Entry := ent2 (cL .place) k_place fun l u => (.when (small l), .b (anyN l.length (fun i => !(placeM (l.getD i (elDef .place))))))
theorem o_contPlace : ∀ l u, (small l) = true → OkC Tryz.prog 199 [(cL .place).enc l, k_place.enc u] (.b (anyN l.length (fun i => !(placeM (l.getD i (elDef .place)))))) := fun l u hq =>
  have hs : Sf (fnT Tryz.prog G16 (fun _ _ => none) Tryz.f199 (bd Tryz.f199) [(cL .place).enc l, k_place.enc u]) := Sf.bads (b := bif small l then false else true) (by kernel_rfl) ((by rw [hq]; rfl)) (by kernel_rfl)
  (show (bif small l then decide (idxM l.length (fun i => !(placeM (l.getD i (elDef .place)))) ≥ 0) else false) = (anyN l.length (fun i => !(placeM (l.getD i (elDef .place))))) from (by rw [hq]; exact idxM_ge)) ▸ (OkC.b (fn_ok0 G16_ok hmx Tryz.func199 (bd_eq (by kernel_rfl)) _ hs) hs (by kernel_rfl) (by kernel_rfl) : OkC Tryz.prog 199 [(cL .place).enc l, k_place.enc u] (.b (bif small l then decide (idxM l.length (fun i => !(placeM (l.getD i (elDef .place)))) ≥ 0) else false)))
theorem e_contPlace : EOk Tryz.prog 199 c_contPlace := ent2_ok Tryz.call199 fun l u hq => o_contPlace l u hq
def G17 : Ctx := G16.add [(199, c_contPlace)]
theorem G17_ok : COk Tryz.prog G17 := G16_ok.add (CsOk.cons e_contPlace (CsOk.nil))
/-- Roles rise by their names. -/
def geS (x y : ByteArray) : Bool := !(Op.bytesLess x.toList y.toList)
def rolesM (l : List XRole) (i : Nat) : Bool := bif roleM (l.getD i (elDef .role)) then (bif decide ((i : Int) > 0) then !(geS (l.getD (wr ((i : Int) - 1)).toNat (elDef .role)).name (l.getD i (elDef .role)).name) else true) else false
def placesM (l : List XPlace) (i : Nat) : Bool := placeM (l.getD i (elDef .place))
def lanM (c : XConfig) : XNet := ⟨c.lanIp, c.lanBits⟩
def configM (c : XConfig) : Bool :=
  netOK (lanM c) && (ip_ c.gate && (hasM (lanM c) c.gate && (ip_ c.resolver && (bif hasM (lanM c) c.resolver then false else (mac_ c.gateMac && (mac_ c.wanMac && (bif decide ((c.garden.length : Int) > 8) then false else
    (w_ c.roles.length 1 4 && (allN c.garden.length (placesM c.garden) && allN c.roles.length (rolesM c.roles))))))))))
/-- The place ahead is there. -/
theorem ahead {k n : Nat} (hk : k < n) (hn : n ≤ 1099511627776) (h : decide ((k : Int) > 0) = true) : decide ((0 : Int) ≤ wr ((k : Int) - 1)) = true ∧ decide (wr ((k : Int) - 1) < n) = true := by
  simp at h
  rw [wr_in (by omega) (by omega)]
  simp
  omega
def I_ConfigOK (c : Cd.ty ((cA0 .config))) (z : Int) : St := ⟨fr 92 [(1, .box 0 0), (65, .lst .role c.roles), (66, .I c.roles.length), (67, .I z)], [⟨44, .cells (row .config c), false, false⟩]⟩
theorem r_ConfigOK (c : Cd.ty ((cA0 .config))) (hn : c.roles.length ≤ 4)  (h0 : 0 ≤ c.roles.length) : Sat Tryz.prog 0 (.loop (lpb Tryz.f130 0)) (I_ConfigOK c (0 : Nat)) (bif allF (fun i => rolesM c.roles i) (c.roles.length) 0 then .exit 0 ⟨fr 92 [], []⟩ else .ret ⟨fr 92 [(2, .v (.bool false))], []⟩) :=
  sat_all (c.roles.length) 0 h0 (I_ConfigOK c) (fun i => rolesM c.roles i) 0 _ _ fun k h0 hk =>
    rnd_sat (v := ⟨[1, 65, 66, 67], ids 1, [], ids 0, [2], []⟩) G17_ok hmx (noLoops (n := 1) (by kernel_rfl)) (n := 1) (L := fun _ _ => none) (SfO.bads (b := bif decide ((k : Int) < c.roles.length) then (bif decide ((k : Int) < c.roles.length) then (bif roleM (c.roles.getD k (elDef .role)) then (bif decide ((k : Int) > 0) then (bif decide ((0 : Int) ≤ wr (k - 1)) then (bif decide (wr (k - 1) < c.roles.length) then false else true) else true) else false) else false) else true) else false) (by kernel_rfl) ((by
    by_cases hlt : k < c.roles.length
    · rw [bnd hlt]
      cases roleM (c.roles.getD k (elDef .role)) <;> cases h : decide ((k : Int) > 0) <;> try rfl
      rw [(ahead hlt (by omega) h).1, (ahead hlt (by omega) h).2]; rfl
    · rw [show decide ((k : Int) < c.roles.length) = false from by simpa using hlt]; rfl)) (by kernel_rfl))
      ((by kernel_rfl : _ = (bif decide ((k : Int) < (c.roles.length : Nat)) then (bif decide ((k : Int) < c.roles.length) then (bif roleM (c.roles.getD k (elDef .role)) then (bif decide ((k : Int) > 0) then (bif decide ((0 : Int) ≤ wr (k - 1)) then (bif decide (wr (k - 1) < c.roles.length) then (bif Op.bytesLess (c.roles.getD (wr ((k : Int) - 1)).toNat (elDef .role)).name.toList (c.roles.getD k (elDef .role)).name.toList then .nrm (I_ConfigOK c (wr (k + 1))) else .ret ⟨fr 92 [(2, .v (.bool false))], []⟩) else default) else default) else .nrm (I_ConfigOK c (wr (k + 1)))) else .ret ⟨fr 92 [(2, .v (.bool false))], []⟩) else default) else .exit 0 ⟨fr 92 [], []⟩)).trans (all_eq fun hk => ((by
    rw [bnd hk, wrs hk (by omega)]
    unfold rolesM geS
    cases roleM (c.roles.getD k (elDef .role)) <;> cases h : decide ((k : Int) > 0) <;> try rfl
    rw [(ahead hk (by omega) h).1, (ahead hk (by omega) h).2]
    cases Op.bytesLess (c.roles.getD (wr ((k : Int) - 1)).toNat (elDef .role)).name.toList (c.roles.getD k (elDef .role)).name.toList <;> rfl))))
def S_ConfigOK (c : Cd.ty ((cA0 .config))) : LoopSpec := ⟨[1, 65, 66, 67], ids 1, I_ConfigOK c (0 : Nat), (.node (decide (c.roles.length ≤ 4)) (.node (allF (fun i => rolesM c.roles i) (c.roles.length) 0) (.leaf (.exit 0 ⟨fr 92 [], []⟩)) (.leaf (.ret ⟨fr 92 [(2, .v (.bool false))], []⟩))) .bad), []⟩
theorem z_ConfigOK (c : Cd.ty ((cA0 .config)))  : SpecOk Tryz.prog Tryz.f130 0 ⟨[1, 65, 66, 67], ids 1, I_ConfigOK c (0 : Nat), (.node (decide (c.roles.length ≤ 4)) (.node (allF (fun i => rolesM c.roles i) (c.roles.length) 0) (.leaf (.exit 0 ⟨fr 92 [], []⟩)) (.leaf (.ret ⟨fr 92 [(2, .v (.bool false))], []⟩))) .bad), []⟩ := .mkW fun hq => r_ConfigOK c (of_decide_eq_true hq) (Nat.zero_le _)
theorem le4 {n : Nat} (h : w_ n 1 4 = true) : decide (n ≤ 4) = true := by
  have := w_true.1 h
  simp; omega
theorem places_any (l : List XPlace) : anyN l.length (fun i => !(placeM (l.getD i (elDef .place)))) = !(allN l.length (placesM l)) := any_not (p := placesM l)
def c_ConfigOK : Entry := ent1 (cA0 .config) fun c => (.yes, .b (configM c))
theorem o_ConfigOK : ∀ (c : Cd.ty ((cA0 .config))), OkC Tryz.prog 130 [(cA0 .config).enc c] (.b (configM c)) := fun c =>
  have hs : Sf (fnT Tryz.prog G17 (Ls [S_ConfigOK c]) Tryz.f130 (bd Tryz.f130) [(cA0 .config).enc c]) := Sf.obls (b := netOK (lanM c) && (ip_ c.gate && (bif w_ c.lanBits 0 32 then (hasM (lanM c) c.gate && (ip_ c.resolver && (bif w_ c.lanBits 0 32 then (bif hasM (lanM c) c.resolver then false else (mac_ c.gateMac && (mac_ c.wanMac && (bif decide ((c.garden.length : Int) > 8) then false else (w_ c.roles.length 1 4 && (bif small c.garden then (bif anyN c.garden.length (fun i => !(placeM (c.garden.getD i (elDef .place)))) then false else bif decide (c.roles.length ≤ 4) then false else true) else true)))))) else true))) else true))) (by kernel_rfl) ((by
    cases h0 : netOK (lanM c) <;> cases ip_ c.gate <;> try rfl
    rw [show w_ c.lanBits 0 32 = true from netOK_bits h0]
    cases hasM (lanM c) c.gate <;> cases ip_ c.resolver <;> cases hasM (lanM c) c.resolver <;> cases mac_ c.gateMac <;> cases mac_ c.wanMac <;> cases h8 : decide ((c.garden.length : Int) > 8) <;> cases h4 : w_ c.roles.length 1 4 <;> try rfl
    rw [small_of h8 (by omega), le4 h4]
    cases anyN c.garden.length (fun i => !(placeM (c.garden.getD i (elDef .place)))) <;> rfl)) (l := [I_ConfigOK c (0 : Nat) = I_ConfigOK c (0 : Nat)]) (by kernel_rfl) (by simp)
  (show (netOK (lanM c) && (ip_ c.gate && (bif w_ c.lanBits 0 32 then (hasM (lanM c) c.gate && (ip_ c.resolver && (bif w_ c.lanBits 0 32 then (bif hasM (lanM c) c.resolver then false else (mac_ c.gateMac && (mac_ c.wanMac && (bif decide ((c.garden.length : Int) > 8) then false else (w_ c.roles.length 1 4 && (bif small c.garden then (bif anyN c.garden.length (fun i => !(placeM (c.garden.getD i (elDef .place)))) then false else bif decide (c.roles.length ≤ 4) then (bif allF (fun i => rolesM c.roles i) c.roles.length 0 then true else false) else false) else false)))))) else false))) else false))) = (configM c) from (by
    unfold configM
    cases h0 : netOK (lanM c) <;> cases ip_ c.gate <;> try rfl
    rw [show w_ c.lanBits 0 32 = true from netOK_bits h0]
    cases hasM (lanM c) c.gate <;> cases ip_ c.resolver <;> cases hasM (lanM c) c.resolver <;> cases mac_ c.gateMac <;> cases mac_ c.wanMac <;> cases h8 : decide ((c.garden.length : Int) > 8) <;> cases h4 : w_ c.roles.length 1 4 <;> try rfl
    rw [small_of h8 (by omega), le4 h4, allF_zero, places_any]
    cases allN c.garden.length (placesM c.garden) <;> cases allN c.roles.length (rolesM c.roles) <;> rfl)) ▸ (OkC.b (fn_okL G17_ok hmx Tryz.func130 (bd_eq (by kernel_rfl)) _ _ (.cons (z_ConfigOK c) (.nil _)) hs) hs (by kernel_rfl) (by kernel_rfl) : OkC Tryz.prog 130 [(cA0 .config).enc c] (.b (netOK (lanM c) && (ip_ c.gate && (bif w_ c.lanBits 0 32 then (hasM (lanM c) c.gate && (ip_ c.resolver && (bif w_ c.lanBits 0 32 then (bif hasM (lanM c) c.resolver then false else (mac_ c.gateMac && (mac_ c.wanMac && (bif decide ((c.garden.length : Int) > 8) then false else (w_ c.roles.length 1 4 && (bif small c.garden then (bif anyN c.garden.length (fun i => !(placeM (c.garden.getD i (elDef .place)))) then false else bif decide (c.roles.length ≤ 4) then (bif allF (fun i => rolesM c.roles i) c.roles.length 0 then true else false) else false) else false)))))) else false))) else false)))))
theorem e_ConfigOK : EOk Tryz.prog 130 c_ConfigOK := ent1_ok Tryz.call130 fun c hq => o_ConfigOK c
/-- spec's. -/
def I_sConfigA (c : Cd.ty ((cA0 .config))) (z : Int) : St := ⟨fr 120 [(1, .box 0 0), (3, .I z)], [⟨44, .cells (row .config c), false, false⟩]⟩
theorem r_sConfigA (c : Cd.ty ((cA0 .config))) (hn : c.garden.length ≤ 8)  (h0 : 0 ≤ c.garden.length) : Sat Tryz.prog 0 (.loop (lpb Tryz.f121 0)) (I_sConfigA c (0 : Nat)) (bif allF (fun i => placesM c.garden i) (c.garden.length) 0 then .exit 0 ⟨fr 120 [(1, .box 0 0)], [⟨44, .cells (row .config c), false, false⟩]⟩ else .ret ⟨fr 120 [(2, .v (.bool false))], []⟩) :=
  sat_all (c.garden.length) 0 h0 (I_sConfigA c) (fun i => placesM c.garden i) 0 _ _ fun k h0 hk =>
    rnd_sat (v := ⟨[1, 3], ids 1, [1], ids 1, [2], []⟩) G17_ok hmx (noLoops (n := 1) (by kernel_rfl)) (n := 1) (L := fun _ _ => none) (SfO.bads (b := bif decide ((k : Int) < c.garden.length) then (bif decide ((k : Int) < c.garden.length) then (bif netOK ⟨(c.garden.getD k (elDef .place)).ip, (c.garden.getD k (elDef .place)).bits⟩ then (bif decide ((k : Int) < c.garden.length) then false else true) else false) else true) else false) (by kernel_rfl) ((by cases decide ((k : Int) < c.garden.length) <;> cases netOK ⟨(c.garden.getD k (elDef .place)).ip, (c.garden.getD k (elDef .place)).bits⟩ <;> rfl)) (by kernel_rfl))
      ((by kernel_rfl : _ = (bif decide ((k : Int) < (c.garden.length : Nat)) then (bif decide ((k : Int) < c.garden.length) then (bif netOK ⟨(c.garden.getD k (elDef .place)).ip, (c.garden.getD k (elDef .place)).bits⟩ then (bif decide ((k : Int) < c.garden.length) then (bif rangeM ⟨(c.garden.getD k (elDef .place)).low, (c.garden.getD k (elDef .place)).high⟩ then .nrm (I_sConfigA c (wr (k + 1))) else .ret ⟨fr 120 [(2, .v (.bool false))], []⟩) else default) else .ret ⟨fr 120 [(2, .v (.bool false))], []⟩) else default) else .exit 0 ⟨fr 120 [(1, .box 0 0)], [⟨44, .cells (row .config c), false, false⟩]⟩)).trans (all_eq fun hk => ((by
    rw [bnd hk, wrs hk (by omega)]
    unfold placesM placeM
    cases netOK ⟨(c.garden.getD k (elDef .place)).ip, (c.garden.getD k (elDef .place)).bits⟩ <;> rfl))))
def S_sConfigA (c : Cd.ty ((cA0 .config))) : LoopSpec := ⟨[1, 3], ids 1, I_sConfigA c (0 : Nat), (.node (decide (c.garden.length ≤ 8)) (.node (allF (fun i => placesM c.garden i) (c.garden.length) 0) (.leaf (.exit 0 ⟨fr 120 [(1, .box 0 0)], [⟨44, .cells (row .config c), false, false⟩]⟩)) (.leaf (.ret ⟨fr 120 [(2, .v (.bool false))], []⟩))) .bad), []⟩
theorem z_sConfigA (c : Cd.ty ((cA0 .config)))  : SpecOk Tryz.prog Tryz.f121 0 ⟨[1, 3], ids 1, I_sConfigA c (0 : Nat), (.node (decide (c.garden.length ≤ 8)) (.node (allF (fun i => placesM c.garden i) (c.garden.length) 0) (.leaf (.exit 0 ⟨fr 120 [(1, .box 0 0)], [⟨44, .cells (row .config c), false, false⟩]⟩)) (.leaf (.ret ⟨fr 120 [(2, .v (.bool false))], []⟩))) .bad), []⟩ := .mkW fun hq => r_sConfigA c (of_decide_eq_true hq) (Nat.zero_le _)
def I_sConfigB (c : Cd.ty ((cA0 .config))) (z : Int) : St := ⟨fr 120 [(1, .box 0 0), (4, .I z)], [⟨44, .cells (row .config c), false, false⟩]⟩
theorem r_sConfigB (c : Cd.ty ((cA0 .config))) (hn : c.roles.length ≤ 4)  (h0 : 0 ≤ c.roles.length) : Sat Tryz.prog 0 (.loop (lpb Tryz.f121 1)) (I_sConfigB c (0 : Nat)) (bif allF (fun i => rolesM c.roles i) (c.roles.length) 0 then .exit 2 ⟨fr 120 [], []⟩ else .ret ⟨fr 120 [(2, .v (.bool false))], []⟩) :=
  sat_all (c.roles.length) 0 h0 (I_sConfigB c) (fun i => rolesM c.roles i) 2 _ _ fun k h0 hk =>
    rnd_sat (v := ⟨[1, 4], ids 1, [], ids 0, [2], []⟩) G17_ok hmx (noLoops (n := 2) (by kernel_rfl)) (n := 2) (L := fun _ _ => none) (SfO.bads (b := bif decide ((k : Int) < c.roles.length) then (bif decide ((k : Int) < c.roles.length) then (bif roleM (c.roles.getD k (elDef .role)) then (bif decide ((k : Int) > 0) then (bif decide ((0 : Int) ≤ wr (k - 1)) then (bif decide (wr (k - 1) < c.roles.length) then (bif decide ((k : Int) < c.roles.length) then false else true) else true) else true) else false) else false) else true) else false) (by kernel_rfl) ((by
    by_cases hlt : k < c.roles.length
    · rw [bnd hlt]
      cases roleM (c.roles.getD k (elDef .role)) <;> cases h : decide ((k : Int) > 0) <;> try rfl
      rw [(ahead hlt (by omega) h).1, (ahead hlt (by omega) h).2]; rfl
    · rw [show decide ((k : Int) < c.roles.length) = false from by simpa using hlt]; rfl)) (by kernel_rfl))
      ((by kernel_rfl : _ = (bif decide ((k : Int) < (c.roles.length : Nat)) then (bif decide ((k : Int) < c.roles.length) then (bif roleM (c.roles.getD k (elDef .role)) then (bif decide ((k : Int) > 0) then (bif decide ((0 : Int) ≤ wr (k - 1)) then (bif decide (wr (k - 1) < c.roles.length) then (bif decide ((k : Int) < c.roles.length) then (bif Op.bytesLess (c.roles.getD (wr ((k : Int) - 1)).toNat (elDef .role)).name.toList (c.roles.getD k (elDef .role)).name.toList then .nrm (I_sConfigB c (wr (k + 1))) else .ret ⟨fr 120 [(2, .v (.bool false))], []⟩) else default) else default) else default) else .nrm (I_sConfigB c (wr (k + 1)))) else .ret ⟨fr 120 [(2, .v (.bool false))], []⟩) else default) else .exit 2 ⟨fr 120 [], []⟩)).trans (all_eq fun hk => ((by
    rw [bnd hk, wrs hk (by omega)]
    unfold rolesM geS
    cases roleM (c.roles.getD k (elDef .role)) <;> cases h : decide ((k : Int) > 0) <;> try rfl
    rw [(ahead hk (by omega) h).1, (ahead hk (by omega) h).2]
    cases Op.bytesLess (c.roles.getD (wr ((k : Int) - 1)).toNat (elDef .role)).name.toList (c.roles.getD k (elDef .role)).name.toList <;> rfl))))
def S_sConfigB (c : Cd.ty ((cA0 .config))) : LoopSpec := ⟨[1, 4], ids 1, I_sConfigB c (0 : Nat), (.node (decide (c.roles.length ≤ 4)) (.node (allF (fun i => rolesM c.roles i) (c.roles.length) 0) (.leaf (.exit 2 ⟨fr 120 [], []⟩)) (.leaf (.ret ⟨fr 120 [(2, .v (.bool false))], []⟩))) .bad), []⟩
theorem z_sConfigB (c : Cd.ty ((cA0 .config)))  : SpecOk Tryz.prog Tryz.f121 1 ⟨[1, 4], ids 1, I_sConfigB c (0 : Nat), (.node (decide (c.roles.length ≤ 4)) (.node (allF (fun i => rolesM c.roles i) (c.roles.length) 0) (.leaf (.exit 2 ⟨fr 120 [], []⟩)) (.leaf (.ret ⟨fr 120 [(2, .v (.bool false))], []⟩))) .bad), []⟩ := .mkW fun hq => r_sConfigB c (of_decide_eq_true hq) (Nat.zero_le _)
theorem le8' {n : Nat} (h : decide ((n : Int) > 8) = false) : decide (n ≤ 8) = true := le8 h
def c_sConfigOK : Entry := ent1 (cA0 .config) fun c => (.yes, .b (configM c))
theorem o_sConfigOK : ∀ (c : Cd.ty ((cA0 .config))), OkC Tryz.prog 121 [(cA0 .config).enc c] (.b (configM c)) := fun c =>
  have hs : Sf (fnT Tryz.prog G17 (Ls [S_sConfigA c, S_sConfigB c]) Tryz.f121 (bd Tryz.f121) [(cA0 .config).enc c]) := Sf.obls (b := netOK (lanM c) && (ip_ c.gate && (bif w_ c.lanBits 0 32 then (hasM (lanM c) c.gate && (mac_ c.gateMac && (mac_ c.wanMac && (ip_ c.resolver && (bif w_ c.lanBits 0 32 then (bif hasM (lanM c) c.resolver then false else bif decide ((c.garden.length : Int) > 8) then false else (w_ c.roles.length 1 4 && (bif decide (c.garden.length ≤ 8) then (bif allF (fun i => placesM c.garden i) c.garden.length 0 then (bif decide (c.roles.length ≤ 4) then false else true) else false) else true))) else true))))) else true))) (by kernel_rfl) ((by
    cases h0 : netOK (lanM c) <;> cases ip_ c.gate <;> try rfl
    rw [show w_ c.lanBits 0 32 = true from netOK_bits h0]
    cases hasM (lanM c) c.gate <;> cases ip_ c.resolver <;> cases hasM (lanM c) c.resolver <;> cases mac_ c.gateMac <;> cases mac_ c.wanMac <;> cases h8 : decide ((c.garden.length : Int) > 8) <;> cases h4 : w_ c.roles.length 1 4 <;> try rfl
    rw [le8 h8, le4 h4]
    cases allF (fun i => placesM c.garden i) c.garden.length 0 <;> rfl)) (l := [I_sConfigA c (0 : Nat) = I_sConfigA c (0 : Nat), I_sConfigB c (0 : Nat) = I_sConfigB c (0 : Nat)]) (by kernel_rfl) (by simp)
  (show (netOK (lanM c) && (ip_ c.gate && (bif w_ c.lanBits 0 32 then (hasM (lanM c) c.gate && (mac_ c.gateMac && (mac_ c.wanMac && (ip_ c.resolver && (bif w_ c.lanBits 0 32 then (bif hasM (lanM c) c.resolver then false else bif decide ((c.garden.length : Int) > 8) then false else (w_ c.roles.length 1 4 && (bif decide (c.garden.length ≤ 8) then (bif allF (fun i => placesM c.garden i) c.garden.length 0 then (bif decide (c.roles.length ≤ 4) then (bif allF (fun i => rolesM c.roles i) c.roles.length 0 then true else false) else false) else false) else false))) else false))))) else false))) = (configM c) from (by
    unfold configM
    cases h0 : netOK (lanM c) <;> cases ip_ c.gate <;> try rfl
    rw [show w_ c.lanBits 0 32 = true from netOK_bits h0]
    cases hasM (lanM c) c.gate <;> cases ip_ c.resolver <;> cases hasM (lanM c) c.resolver <;> cases mac_ c.gateMac <;> cases mac_ c.wanMac <;> cases h8 : decide ((c.garden.length : Int) > 8) <;> cases h4 : w_ c.roles.length 1 4 <;> try rfl
    rw [le8 h8, le4 h4, allF_zero, allF_zero]
    cases h1 : allN c.garden.length (placesM c.garden) <;> cases h2 : allN c.roles.length (rolesM c.roles) <;> simp_all)) ▸ (OkC.b (fn_okL G17_ok hmx Tryz.func121 (bd_eq (by kernel_rfl)) _ _ (.cons (z_sConfigA c) (.cons (z_sConfigB c) (.nil _))) hs) hs (by kernel_rfl) (by kernel_rfl) : OkC Tryz.prog 121 [(cA0 .config).enc c] (.b (netOK (lanM c) && (ip_ c.gate && (bif w_ c.lanBits 0 32 then (hasM (lanM c) c.gate && (mac_ c.gateMac && (mac_ c.wanMac && (ip_ c.resolver && (bif w_ c.lanBits 0 32 then (bif hasM (lanM c) c.resolver then false else bif decide ((c.garden.length : Int) > 8) then false else (w_ c.roles.length 1 4 && (bif decide (c.garden.length ≤ 8) then (bif allF (fun i => placesM c.garden i) c.garden.length 0 then (bif decide (c.roles.length ≤ 4) then (bif allF (fun i => rolesM c.roles i) c.roles.length 0 then true else false) else false) else false) else false))) else false))))) else false)))))
theorem e_sConfigOK : EOk Tryz.prog 121 c_sConfigOK := ent1_ok Tryz.call121 fun c hq => o_sConfigOK c
end Go.Proofs.YthlebalbiokjpaaGreat
