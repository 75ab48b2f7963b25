/- Whether flows hold: impl's and spec's answer alike. | What a user has spent: impl's and spec's answer alike. | The laws of FlowsHold and SpentOf, what they compute: true at every gateway that fits in memory. -/
import Derived.Test.YthlebalbiokjpaaGreatKh32
namespace Go.Proofs.YthlebalbiokjpaaGreat
open Go.RowKit
set_option linter.unusedVariables false
set_option maxRecDepth 100000

theorem holds_tup {ds es : List Da} (h : HoldsL ds es) : Holds (.tup ds) (.tup es) := by
  intro U W m v hv
  cases hv with
  | tup _ vs _ h1 h2 =>
    refine .tup _ vs _ (h1.trans h.len) fun i v e hv he => ?_
    · obtain ⟨d, g1, g2⟩ := h.at_ i e he
      exact g2 _ _ _ _ (h2 i v d hv g1)
def Da.two {A B : Type} (ca : Cd A) (cb : Cd B) (d : Da) : Option (A × B) := match d with
  | .tup [x, y] => (ca.dec x).bind fun a => (cb.dec y).bind fun b => some (a, b)
  | _ => none
theorem OkC.t2 {P : Program} {A B : Type} (ca : Cd A) (cb : Cd B) (a0 : A) (b0 : B) {f : FuncId} {ds : List Da} {t : Tree Da} {F : A} {G : B} (h : OkC P f ds t.get) (hs : Sf t) (hall : t.all (fun d => (d.two ca cb).isSome) = true)
    (hF : t.getBy (fun d => ((d.two ca cb).getD (a0, b0)).1) a0 = F) (hG : t.getBy (fun d => ((d.two ca cb).getD (a0, b0)).2) b0 = G) : OkC P f ds (.tup [ca.enc F, cb.enc G]) := by
  have h1 := Tree.all_get hs.out hall
  rw [Tree.getBy_eq hs.out] at hF hG
  generalize t.get = d at *
  obtain ⟨x, hx⟩ := Option.isSome_iff_exists.1 h1
  rw [hx] at hF hG
  simp only [Option.getD_some] at hF hG
  subst hF hG
  refine h.holds ?_
  unfold Da.two at hx
  split at hx
  · simp only [Option.bind_eq_some_iff, Option.some.injEq] at hx
    obtain ⟨a, ha, b, hb, rfl⟩ := hx
    exact holds_tup (.cons (ca.law _ _ ha) (.cons (cb.law _ _ hb) .nil))
  · cases hx
theorem t2_eq {A B : Type} (ca : Cd A) (cb : Cd B) {a a' : A} {b b' : B} (h : a = a') (h' : b = b') : (Da.tup [ca.enc a, cb.enc b]) = Da.tup [ca.enc a', cb.enc b'] := by rw [h, h']
theorem fstF_ok {q : Nat → Bool} : ∀ (m i : Nat), anyF q (i + m) i = true → i ≤ fstF q m i ∧ fstF q m i < i + m ∧ q (fstF q m i) = true
  | 0, i, h => by rw [Nat.add_zero, anyF_end] at h; cases h
  | m + 1, i, h => by
    rw [anyF_step (by omega)] at h
    cases hq : q i with
    | true => simp only [fstF, hq, cond_true]; exact ⟨Nat.le_refl _, by omega, trivial⟩
    | false =>
      rw [hq, Bool.false_or, show i + (m + 1) = i + 1 + m from by omega] at h
      obtain ⟨h1, h2, h3⟩ := fstF_ok m (i + 1) h
      simp only [fstF, hq, cond_false]
      exact ⟨by omega, by omega, h3⟩
theorem fstN_ok {q : Nat → Bool} {n : Nat} (h : anyN n q = true) : fstN n q < n ∧ q (fstN n q) = true := by
  rw [← anyF_zero] at h
  obtain ⟨-, h2, h3⟩ := fstF_ok n 0 (by simpa using h)
  exact ⟨by simpa [fstN] using h2, h3⟩
theorem idxM_in {n : Nat} {q : Nat → Bool} (h : decide (idxM n q < 0) = false) : decide (0 ≤ idxM n q) = true ∧ decide (idxM n q < n) = true ∧ (idxM n q).toNat < n ∧ q (idxM n q).toNat = true := by
  unfold idxM at *
  cases ha : anyN n q with
  | false => rw [ha] at h; simp at h
  | true =>
    obtain ⟨h1, h2⟩ := fstN_ok ha
    simp only [cond_true]
    exact ⟨decide_eq_true (by omega), decide_eq_true (by omega), by simpa using h1, by simpa using h2⟩
theorem idxM_has {n : Nat} {q : Nat → Bool} {i : Nat} (hi : i < n) (hq : q i = true) : decide (idxM n q < 0) = false := by
  have : anyN n q = true := by
    unfold anyN
    rw [List.any_eq_true]
    exact ⟨i, List.mem_range.2 hi, hq⟩
  unfold idxM
  rw [this]
  exact decide_eq_false (by simp)
/-! ## Sessions of a right gateway -/
theorem gw_parts {x : XGateway} (h : gatewayM x = true) : guestsI (gcfg x) (ggu x) = true ∧ flowsM x.flows = true ∧ ∀ i, i < x.flows.length → ownP x i = true := by
  unfold gatewayM at h
  simp only [Bool.and_eq_true] at h
  exact ⟨h.1, h.2.1, allN_iff.1 h.2.2.2.2.2.2⟩
theorem sess_alone {c : XConfig} {g : XGuests} (h : guestsI c g = true) : ∀ i j, i < j → j < g.sessions.length → (gS g.sessions i).id < (gS g.sessions j).id ∧ clashM (gS g.sessions i) (gS g.sessions j) = false := by
  unfold guestsI at h
  obtain ⟨-, h⟩ := and2 h
  cases h1 : decide ((g.users.length : Int) > 6) <;> rw [h1] at h <;> try cases h
  cases h2 : decide ((g.sessions.length : Int) > 3) <;> rw [h2] at h <;> try cases h
  cases h3 : decide ((g.fails.length : Int) > 20) <;> rw [h3] at h <;> try cases h
  cases h4 : decide ((g.records.length : Int) > 60) <;> rw [h4] at h <;> try cases h
  simp only [cond_false, Bool.and_eq_true] at h
  have hn : g.sessions.length ≤ 3 := by simp at h2; omega
  have hs := h.2.2.1
  rw [← sess_eq hn] at hs
  intro i j hij hj
  exact (sessS_iff.1 (allN_iff.1 hs j hj)).2 i hij
theorem clash_no {x s : XSession} (h : clashM x s = false) : (x.user == s.user) = false ∧ (x.mac.toList == s.mac.toList) = false ∧ (x.ip == s.ip) = false := by
  unfold clashM at h
  cases h1 : x.user == s.user <;> rw [h1] at h <;> try cases h
  cases h2 : x.mac.toList == s.mac.toList <;> rw [h2] at h <;> try cases h
  exact ⟨rfl, rfl, h⟩
theorem sess_id {c : XConfig} {g : XGuests} (h : guestsI c g = true) {i j : Nat} (hi : i < g.sessions.length) (hj : j < g.sessions.length) (e : (gS g.sessions i).id = (gS g.sessions j).id) : i = j := by
  rcases Nat.lt_trichotomy i j with h1 | h1 | h1
  · have := (sess_alone h i j h1 hj).1; omega
  · exact h1
  · have := (sess_alone h j i h1 hi).1; omega
theorem sess_ip {c : XConfig} {g : XGuests} (h : guestsI c g = true) {i j : Nat} (hi : i < g.sessions.length) (hj : j < g.sessions.length) (e : (gS g.sessions i).ip = (gS g.sessions j).ip) : i = j := by
  rcases Nat.lt_trichotomy i j with h1 | h1 | h1
  · exact absurd e (by simpa using (clash_no (sess_alone h i j h1 hj).2).2.2)
  · exact h1
  · exact absurd e.symm (by simpa using (clash_no (sess_alone h j i h1 hi).2).2.2)
theorem sess_user {c : XConfig} {g : XGuests} (h : guestsI c g = true) {i j : Nat} (hi : i < g.sessions.length) (hj : j < g.sessions.length) (e : (gS g.sessions i).user = (gS g.sessions j).user) : i = j := by
  rcases Nat.lt_trichotomy i j with h1 | h1 | h1
  · exact absurd e (by simpa using (clash_no (sess_alone h i j h1 hj).2).1)
  · exact h1
  · exact absurd e.symm (by simpa using (clash_no (sess_alone h j i h1 hi).2).1)
/-! ## Impl's -/
def ofQ (l : List XSession) (mac : ByteArray) (ip : Int) (i : Nat) : Bool := (l.getD i (elDef .session)).mac.toList == mac.toList && (l.getD i (elDef .session)).ip == ip
abbrev k_of := cC2 174 (cP1 cS) (cP1 cI)
def I_idxOf (l : List (El .session)) (e : Cd.ty (k_of)) (z : Int) : St := ⟨fr 19 [(0, .lst .session l), (1, k_of.enc e), (7, .I l.length), (8, .I z)], []⟩
theorem r_idxOf (l : List (El .session)) (e : Cd.ty (k_of)) (hn : l.length ≤ 1099511627776) : Sat Tryz.prog 0 (.loop (lpb Tryz.f140 0)) (I_idxOf l e (0 : Nat)) (bif anyN l.length (fun i => (l.getD i (elDef .session)).mac.toList == e.1.toList && (l.getD i (elDef .session)).ip == e.2) then .ret ⟨fr 19 [(4, .I (fstN l.length (fun i => (l.getD i (elDef .session)).mac.toList == e.1.toList && (l.getD i (elDef .session)).ip == e.2) : Nat))], []⟩ else .exit 0 ⟨fr 19 [], []⟩) :=
  sat_find l.length (I_idxOf l e) (fun i => (l.getD i (elDef .session)).mac.toList == e.1.toList && (l.getD i (elDef .session)).ip == e.2) 0 _ (fun k => ⟨fr 19 [(4, .I (k : Nat))], []⟩) fun k hk =>
    rnd_sat (v := ⟨[0, 1, 7, 8], ids 0, [], ids 0, [4], []⟩) G55_ok hmx (noLoops (n := 1) (by kernel_rfl)) (n := 1) (L := fun _ _ => none) (SfO.bads (b := bif decide ((k : Int) < l.length) then (bif decide ((k : Int) < l.length) then false else true) else false) (by kernel_rfl) (by cases decide ((k : Int) < l.length) <;> rfl) (by kernel_rfl))
      ((by kernel_rfl : _ = (bif decide ((k : Int) < l.length) then (bif decide ((k : Int) < l.length) then (bif (fun i => (l.getD i (elDef .session)).mac.toList == e.1.toList && (l.getD i (elDef .session)).ip == e.2) k then .ret ⟨fr 19 [(4, .I (k : Nat))], []⟩ else .nrm (I_idxOf l e (wr (k + 1)))) else default) else .exit 0 ⟨fr 19 [], []⟩)).trans (rnd_eq (f := fun z => .nrm (I_idxOf l e z)) (q := (fun i => (l.getD i (elDef .session)).mac.toList == e.1.toList && (l.getD i (elDef .session)).ip == e.2) k) (r := .ret ⟨fr 19 [(4, .I (k : Nat))], []⟩) (x := .exit 0 ⟨fr 19 [], []⟩) hn))
def S_idxOf (l : List (El .session)) (e : Cd.ty (k_of)) : List LoopSpec := [⟨[0, 1, 7, 8], ids 0, I_idxOf l e (0 : Nat), .node (small l) (.node (anyN l.length (fun i => (l.getD i (elDef .session)).mac.toList == e.1.toList && (l.getD i (elDef .session)).ip == e.2)) (.leaf (.ret ⟨fr 19 [(4, .I (fstN l.length (fun i => (l.getD i (elDef .session)).mac.toList == e.1.toList && (l.getD i (elDef .session)).ip == e.2) : Nat))], []⟩)) (.leaf (.exit 0 ⟨fr 19 [], []⟩))) .bad, []⟩]
theorem z_idxOf (l : List (El .session)) (e : Cd.ty (k_of)) : SpecOk Tryz.prog Tryz.f140 0 ⟨[0, 1, 7, 8], ids 0, I_idxOf l e (0 : Nat), .node (small l) (.node (anyN l.length (fun i => (l.getD i (elDef .session)).mac.toList == e.1.toList && (l.getD i (elDef .session)).ip == e.2)) (.leaf (.ret ⟨fr 19 [(4, .I (fstN l.length (fun i => (l.getD i (elDef .session)).mac.toList == e.1.toList && (l.getD i (elDef .session)).ip == e.2) : Nat))], []⟩)) (.leaf (.exit 0 ⟨fr 19 [], []⟩))) .bad, []⟩ := .mkW fun hq => r_idxOf l e (of_decide_eq_true hq)
def c_idxOf : Entry := ent2 (cL .session) (k_of) fun l e => (.when (small l), .I (idxM l.length (fun i => (l.getD i (elDef .session)).mac.toList == e.1.toList && (l.getD i (elDef .session)).ip == e.2)))
theorem o_idxOf : ∀ (l : List (El .session)) (e : Cd.ty (k_of)), small l = true → OkC Tryz.prog 140 [(cL .session).enc l, k_of.enc e] (.I (idxM l.length (fun i => (l.getD i (elDef .session)).mac.toList == e.1.toList && (l.getD i (elDef .session)).ip == e.2))) := fun l e hq =>
  have hs : Sf (fnT Tryz.prog G55 (Ls (S_idxOf l e)) Tryz.f140 (bd Tryz.f140) [(cL .session).enc l, k_of.enc e]) := Sf.obls (b := bif small l then false else true) (by kernel_rfl) (by rw [hq]; rfl) (l := [I_idxOf l e (0 : Nat) = I_idxOf l e (0 : Nat)]) (by kernel_rfl) (by simp)
  (show (bif small l then idxM l.length (fun i => (l.getD i (elDef .session)).mac.toList == e.1.toList && (l.getD i (elDef .session)).ip == e.2) else 0) = idxM l.length (fun i => (l.getD i (elDef .session)).mac.toList == e.1.toList && (l.getD i (elDef .session)).ip == e.2) from by rw [hq]; rfl) ▸ (OkC.i (fn_okL G55_ok hmx Tryz.func140 (bd_eq (by kernel_rfl)) _ _ (.cons (z_idxOf l e) (.nil _)) hs) hs (by kernel_rfl) (by kernel_rfl) : OkC Tryz.prog 140 [(cL .session).enc l, k_of.enc e] (.I (bif small l then idxM l.length (fun i => (l.getD i (elDef .session)).mac.toList == e.1.toList && (l.getD i (elDef .session)).ip == e.2) else 0)))
theorem e_idxOf : EOk Tryz.prog 140 c_idxOf := ent2_ok Tryz.call140 fun l e hq => o_idxOf l e hq
def G56 : Ctx := G55.add [(140, c_idxOf)]
theorem G56_ok : COk Tryz.prog G56 := G55_ok.add (CsOk.cons e_idxOf (CsOk.nil))
def c_of : Entry := ent3 (cR0 .guests) cS cI fun g mac ip => (.when (small g.sessions), .I (idxM g.sessions.length (ofQ g.sessions mac ip)))
theorem o_of : ∀ g mac ip, (small g.sessions) = true → OkC Tryz.prog 100 [(cR0 .guests).enc g, cS.enc mac, cI.enc ip] (.I (idxM g.sessions.length (ofQ g.sessions mac ip))) := fun g mac ip hq =>
  have hs : Sf (fnT Tryz.prog G56 (fun _ _ => none) Tryz.f100 (bd Tryz.f100) [(cR0 .guests).enc g, cS.enc mac, cI.enc ip]) := Sf.bads (b := bif small g.sessions then false else true) (by kernel_rfl) ((by rw [hq]; rfl)) (by kernel_rfl)
  (show (bif small g.sessions then idxM g.sessions.length (ofQ g.sessions mac ip) else 0) = (idxM g.sessions.length (ofQ g.sessions mac ip)) from (by rw [hq]; rfl)) ▸ (OkC.i (fn_ok0 G56_ok hmx Tryz.func100 (bd_eq (by kernel_rfl)) _ hs) hs (by kernel_rfl) (by kernel_rfl) : OkC Tryz.prog 100 [(cR0 .guests).enc g, cS.enc mac, cI.enc ip] (.I (bif small g.sessions then idxM g.sessions.length (ofQ g.sessions mac ip) else 0)))
theorem e_of : EOk Tryz.prog 100 c_of := ent3_ok Tryz.call100 fun g mac ip hq => o_of g mac ip hq
def G57 : Ctx := G56.add [(100, c_of)]
theorem G57_ok : COk Tryz.prog G57 := G56_ok.add (CsOk.cons e_of (CsOk.nil))
def ofM (x : XGateway) (f : XFlow) : Int := idxM x.sessions.length (ofQ x.sessions f.mac f.srcIp)
theorem ofM_in {x : XGateway} {f : XFlow} (h : decide (ofM x f < 0) = false) : decide (0 ≤ ofM x f) = true ∧ decide (ofM x f < x.sessions.length) = true ∧ (ofM x f).toNat < x.sessions.length ∧ ofQ x.sessions f.mac f.srcIp (ofM x f).toNat = true := idxM_in h
def fhT (x : XGateway) (f : XFlow) : Bool := bif small x.sessions then (bif f.owner == 0 then false else bif decide (ofM x f < 0) then true else (bif decide (0 ≤ ofM x f) then (bif decide (ofM x f < x.sessions.length) then !((gS x.sessions (ofM x f).toNat).id == f.owner) else false) else false)) else false
def fhB (x : XGateway) (f : XFlow) : Bool := bif small x.sessions then (bif f.owner == 0 then false else bif decide (ofM x f < 0) then false else (bif decide (0 ≤ ofM x f) then (bif decide (ofM x f < x.sessions.length) then false else true) else true)) else true
def fhBad (x : XGateway) (f : XFlow) : Bool := bif f.owner == 0 then false else bif decide (ofM x f < 0) then true else !((gS x.sessions (ofM x f).toNat).id == f.owner)
theorem fhB_no {x : XGateway} {f : XFlow} (h : small x.sessions = true) : fhB x f = false := by
  unfold fhB
  rw [h]
  cases f.owner == 0 <;> try rfl
  cases h1 : decide (ofM x f < 0) <;> try rfl
  rw [(ofM_in h1).1, (ofM_in h1).2.1]; rfl
theorem fhT_eq {x : XGateway} {f : XFlow} (h : small x.sessions = true) : fhT x f = fhBad x f := by
  unfold fhT fhBad
  rw [h]
  cases f.owner == 0 <;> try rfl
  cases h1 : decide (ofM x f < 0) <;> try rfl
  rw [(ofM_in h1).1, (ofM_in h1).2.1]; rfl
def c_FlowsHold1 : Entry := ent2 (cA0 .flow) (cR0 .gateway) fun f x => (.when (small x.sessions), .b (fhBad x f))
theorem o_FlowsHold1 : ∀ f x, (small x.sessions) = true → OkC Tryz.prog 99 [(cA0 .flow).enc f, (cR0 .gateway).enc x] (.b (fhBad x f)) := fun f x hq =>
  have hs : Sf (fnT Tryz.prog G57 (fun _ _ => none) Tryz.f99 (bd Tryz.f99) [(cA0 .flow).enc f, (cR0 .gateway).enc x]) := Sf.bads (b := fhB x f) (by kernel_rfl) (fhB_no hq) (by kernel_rfl)
  (show (fhT x f) = (fhBad x f) from fhT_eq hq) ▸ (OkC.b (fn_ok0 G57_ok hmx Tryz.func99 (bd_eq (by kernel_rfl)) _ hs) hs (by kernel_rfl) (by kernel_rfl) : OkC Tryz.prog 99 [(cA0 .flow).enc f, (cR0 .gateway).enc x] (.b (fhT x f)))
theorem e_FlowsHold1 : EOk Tryz.prog 99 c_FlowsHold1 := ent2_ok Tryz.call99 fun f x hq => o_FlowsHold1 f x hq
def G58 : Ctx := G57.add [(99, c_FlowsHold1)]
theorem G58_ok : COk Tryz.prog G58 := G57_ok.add (CsOk.cons e_FlowsHold1 (CsOk.nil))
abbrev k_hold := cC1 99 (cR0 .gateway)
def I_idxHold (l : List (El .flow)) (x : Cd.ty (k_hold)) (z : Int) : St := ⟨fr 19 [(0, .lst .flow l), (1, k_hold.enc x), (7, .I l.length), (8, .I z)], []⟩
theorem r_idxHold (l : List (El .flow)) (x : Cd.ty (k_hold)) (hn : l.length ≤ 1099511627776) (hc : (small x.sessions) = true) : Sat Tryz.prog 0 (.loop (lpb Tryz.f139 0)) (I_idxHold l x (0 : Nat)) (bif anyN l.length (fun i => fhBad x (l.getD i (elDef .flow))) then .ret ⟨fr 19 [(4, .I (fstN l.length (fun i => fhBad x (l.getD i (elDef .flow))) : Nat))], []⟩ else .exit 0 ⟨fr 19 [], []⟩) :=
  sat_find l.length (I_idxHold l x) (fun i => fhBad x (l.getD i (elDef .flow))) 0 _ (fun k => ⟨fr 19 [(4, .I (k : Nat))], []⟩) fun k hk =>
    rnd_sat (v := ⟨[0, 1, 7, 8], ids 0, [], ids 0, [4], []⟩) G58_ok hmx (noLoops (n := 1) (by kernel_rfl)) (n := 1) (L := fun _ _ => none) (SfO.bads (b := bif decide ((k : Int) < l.length) then (bif decide ((k : Int) < l.length) then (bif small x.sessions then false else true) else true) else false) (by kernel_rfl) (by rw [hc]; cases decide ((k : Int) < l.length) <;> rfl) (by kernel_rfl))
      ((by kernel_rfl : _ = (bif decide ((k : Int) < l.length) then (bif decide ((k : Int) < l.length) then (bif small x.sessions then (bif (fun i => fhBad x (l.getD i (elDef .flow))) k then .ret ⟨fr 19 [(4, .I (k : Nat))], []⟩ else .nrm (I_idxHold l x (wr (k + 1)))) else default) else default) else .exit 0 ⟨fr 19 [], []⟩)).trans (by rw [hc]; exact rnd_eq (f := fun z => .nrm (I_idxHold l x z)) (q := (fun i => fhBad x (l.getD i (elDef .flow))) k) (r := .ret ⟨fr 19 [(4, .I (k : Nat))], []⟩) (x := .exit 0 ⟨fr 19 [], []⟩) hn))
def S_idxHold (l : List (El .flow)) (x : Cd.ty (k_hold)) : List LoopSpec := [⟨[0, 1, 7, 8], ids 0, I_idxHold l x (0 : Nat), .node (small l && (small x.sessions)) (.node (anyN l.length (fun i => fhBad x (l.getD i (elDef .flow)))) (.leaf (.ret ⟨fr 19 [(4, .I (fstN l.length (fun i => fhBad x (l.getD i (elDef .flow))) : Nat))], []⟩)) (.leaf (.exit 0 ⟨fr 19 [], []⟩))) .bad, []⟩]
theorem z_idxHold (l : List (El .flow)) (x : Cd.ty (k_hold)) : SpecOk Tryz.prog Tryz.f139 0 ⟨[0, 1, 7, 8], ids 0, I_idxHold l x (0 : Nat), .node (small l && (small x.sessions)) (.node (anyN l.length (fun i => fhBad x (l.getD i (elDef .flow)))) (.leaf (.ret ⟨fr 19 [(4, .I (fstN l.length (fun i => fhBad x (l.getD i (elDef .flow))) : Nat))], []⟩)) (.leaf (.exit 0 ⟨fr 19 [], []⟩))) .bad, []⟩ := .mkW fun hq => r_idxHold l x (of_decide_eq_true (and2 hq).1) (and2 hq).2
def c_idxHold : Entry := ent2 (cL .flow) (k_hold) fun l x => (.when (small l && (small x.sessions)), .I (idxM l.length (fun i => fhBad x (l.getD i (elDef .flow)))))
theorem o_idxHold : ∀ (l : List (El .flow)) (x : Cd.ty (k_hold)), (small l && (small x.sessions)) = true → OkC Tryz.prog 139 [(cL .flow).enc l, k_hold.enc x] (.I (idxM l.length (fun i => fhBad x (l.getD i (elDef .flow))))) := fun l x hq =>
  have hs : Sf (fnT Tryz.prog G58 (Ls (S_idxHold l x)) Tryz.f139 (bd Tryz.f139) [(cL .flow).enc l, k_hold.enc x]) := Sf.obls (b := bif (small l && (small x.sessions)) then false else true) (by kernel_rfl) (by rw [hq]; rfl) (l := [I_idxHold l x (0 : Nat) = I_idxHold l x (0 : Nat)]) (by kernel_rfl) (by simp)
  (show (bif (small l && (small x.sessions)) then idxM l.length (fun i => fhBad x (l.getD i (elDef .flow))) else 0) = idxM l.length (fun i => fhBad x (l.getD i (elDef .flow))) from by rw [hq]; rfl) ▸ (OkC.i (fn_okL G58_ok hmx Tryz.func139 (bd_eq (by kernel_rfl)) _ _ (.cons (z_idxHold l x) (.nil _)) hs) hs (by kernel_rfl) (by kernel_rfl) : OkC Tryz.prog 139 [(cL .flow).enc l, k_hold.enc x] (.I (bif (small l && (small x.sessions)) then idxM l.length (fun i => fhBad x (l.getD i (elDef .flow))) else 0)))
theorem e_idxHold : EOk Tryz.prog 139 c_idxHold := ent2_ok Tryz.call139 fun l x hq => o_idxHold l x hq
def G59 : Ctx := G58.add [(139, c_idxHold)]
theorem G59_ok : COk Tryz.prog G59 := G58_ok.add (CsOk.cons e_idxHold (CsOk.nil))
def c_contHold : Entry := ent2 (cL .flow) k_hold fun l x => (.when ((small l && (small x.sessions))), .b (anyN l.length (fun i => fhBad x (l.getD i (elDef .flow)))))
theorem o_contHold : ∀ l x, ((small l && (small x.sessions))) = true → OkC Tryz.prog 56 [(cL .flow).enc l, k_hold.enc x] (.b (anyN l.length (fun i => fhBad x (l.getD i (elDef .flow))))) := fun l x hq =>
  have hs : Sf (fnT Tryz.prog G59 (fun _ _ => none) Tryz.f56 (bd Tryz.f56) [(cL .flow).enc l, k_hold.enc x]) := Sf.bads (b := bif (small l && (small x.sessions)) then false else true) (by kernel_rfl) ((by rw [hq]; rfl)) (by kernel_rfl)
  (show (bif (small l && (small x.sessions)) then decide (idxM l.length (fun i => fhBad x (l.getD i (elDef .flow))) ≥ 0) else false) = (anyN l.length (fun i => fhBad x (l.getD i (elDef .flow)))) from (by rw [hq]; exact idxM_ge)) ▸ (OkC.b (fn_ok0 G59_ok hmx Tryz.func56 (bd_eq (by kernel_rfl)) _ hs) hs (by kernel_rfl) (by kernel_rfl) : OkC Tryz.prog 56 [(cL .flow).enc l, k_hold.enc x] (.b (bif (small l && (small x.sessions)) then decide (idxM l.length (fun i => fhBad x (l.getD i (elDef .flow))) ≥ 0) else false)))
theorem e_contHold : EOk Tryz.prog 56 c_contHold := ent2_ok Tryz.call56 fun l x hq => o_contHold l x hq
def G60 : Ctx := G59.add [(56, c_contHold)]
theorem G60_ok : COk Tryz.prog G60 := G59_ok.add (CsOk.cons e_contHold (CsOk.nil))
/-! ## Spec's -/
abbrev fhJ (x : XGateway) (k : Nat) : Int := idxM x.sessions.length (sessQ x.sessions (gW x.flows k).owner)
def fhP (x : XGateway) (k : Nat) : Bool := bif (gW x.flows k).owner == 0 then true else (bif (gS x.sessions (fhJ x k).toNat).mac.toList == (gW x.flows k).mac.toList then (gS x.sessions (fhJ x k).toNat).ip == (gW x.flows k).srcIp else false)
theorem gw_small {x : XGateway} (h : gatewayM x = true) : small x.sessions = true ∧ small x.flows = true := ⟨gi_sess (gw_parts h).1, fl_small (gw_parts h).2.1⟩
theorem own_in {x : XGateway} (h : gatewayM x = true) {k : Nat} (hk : k < x.flows.length) (h0 : ((gW x.flows k).owner == 0) = false) : decide (fhJ x k < 0) = false := by
  obtain ⟨-, h1, h2⟩ := gw_parts h
  have h3 := h2 k hk
  have h4 := fl_own h1 k hk
  unfold ownP at h3
  rw [decide_eq_true (show (gW x.flows k).owner > 0 from by have := beq_eq_false_iff_ne.1 h0; omega)] at h3
  rwa [cond_true, Bool.not_eq_true'] at h3
theorem hold_eq {x : XGateway} (h : gatewayM x = true) {k : Nat} (hk : k < x.flows.length) : fhBad x (gW x.flows k) = !(fhP x k) := by
  unfold fhBad fhP
  cases h0 : (gW x.flows k).owner == 0
  · simp only [cond_false]
    have hg := (gw_parts h).1
    obtain ⟨-, -, hj1, hj2⟩ := idxM_in (own_in h hk h0)
    have hj2 : (gS x.sessions (fhJ x k).toNat).id = (gW x.flows k).owner := eq_of_beq hj2
    cases h1 : decide (ofM x (gW x.flows k) < 0)
    · obtain ⟨-, -, hi1, hi2⟩ := ofM_in h1
      obtain ⟨hi2, hi3⟩ := and2 hi2
      have hi3 : (gS x.sessions (ofM x (gW x.flows k)).toNat).ip = (gW x.flows k).srcIp := eq_of_beq hi3
      simp only [cond_false]
      cases h2 : (gS x.sessions (ofM x (gW x.flows k)).toNat).id == (gW x.flows k).owner
      · have hne : (fhJ x k).toNat ≠ (ofM x (gW x.flows k)).toNat := fun e => by
          rw [← e, hj2] at h2
          simp at h2
        cases h3 : (gS x.sessions (fhJ x k).toNat).mac.toList == (gW x.flows k).mac.toList <;> try rfl
        cases h4 : (gS x.sessions (fhJ x k).toNat).ip == (gW x.flows k).srcIp <;> try rfl
        exact absurd (sess_ip hg hj1 hi1 ((eq_of_beq h4 : (gS x.sessions (fhJ x k).toNat).ip = (gW x.flows k).srcIp).trans hi3.symm)) hne
      · have e : (ofM x (gW x.flows k)).toNat = (fhJ x k).toNat := sess_id hg hi1 hj1 ((eq_of_beq h2 : (gS x.sessions (ofM x (gW x.flows k)).toNat).id = (gW x.flows k).owner).trans hj2.symm)
        rw [← e, show ((gS x.sessions (ofM x (gW x.flows k)).toNat).mac.toList == (gW x.flows k).mac.toList) = true from hi2, show ((gS x.sessions (ofM x (gW x.flows k)).toNat).ip == (gW x.flows k).srcIp) = true from beq_iff_eq.2 hi3]; rfl
    · simp only [cond_true]
      cases h3 : (gS x.sessions (fhJ x k).toNat).mac.toList == (gW x.flows k).mac.toList <;> try rfl
      cases h4 : (gS x.sessions (fhJ x k).toNat).ip == (gW x.flows k).srcIp <;> try rfl
      have := idxM_has (q := ofQ x.sessions (gW x.flows k).mac (gW x.flows k).srcIp) hj1 (by unfold ofQ; rw [Bool.and_eq_true]; exact ⟨h3, h4⟩)
      unfold ofM at h1
      rw [this] at h1
      cases h1
  · rfl
theorem hold_any {x : XGateway} (h : gatewayM x = true) : anyN x.flows.length (fun i => fhBad x (gW x.flows i)) = !(allN x.flows.length (fhP x)) := by
  rw [← any_not, Bool.eq_iff_iff]
  simp only [anyN, List.any_eq_true, List.mem_range]
  exact exists_congr fun k => and_congr_right fun hk => by rw [hold_eq h hk]
def holdM (x : XGateway) : Bool := gatewayM x && allN x.flows.length (fhP x)
def errM (x : XGateway) : Int := bif gatewayM x then 0 else 1
def c_FlowsHold : Entry := ent1 (cA0 .gateway) fun x => (.yes, .tup [cB.enc (holdM x), cI.enc (errM x)])
theorem o_FlowsHold : ∀ (x : Cd.ty ((cA0 .gateway))), OkC Tryz.prog 28 [(cA0 .gateway).enc x] (.tup [cB.enc (holdM x), cI.enc (errM x)]) := fun x =>
  have hs : Sf (fnT Tryz.prog G60 (fun _ _ => none) Tryz.f28 (bd Tryz.f28) [(cA0 .gateway).enc x]) := Sf.bads (b := bif gatewayM x then (bif (small x.flows && (small x.sessions)) then false else true) else false) (by kernel_rfl) ((by
    cases h : gatewayM x <;> try rfl
    rw [(gw_small h).1, (gw_small h).2]; rfl)) (by kernel_rfl)
  (show ((.tup [cB.enc (bif gatewayM x then (bif (small x.flows && (small x.sessions)) then !(anyN x.flows.length (fun i => fhBad x (gW x.flows i))) else false) else false), cI.enc (bif gatewayM x then (bif (small x.flows && (small x.sessions)) then 0 else 0) else 1)]) : Da) = (.tup [cB.enc (holdM x), cI.enc (errM x)]) from t2_eq cB cI (show (bif gatewayM x then (bif (small x.flows && (small x.sessions)) then !(anyN x.flows.length (fun i => fhBad x (gW x.flows i))) else false) else false) = (holdM x) from (by
    unfold holdM
    cases h : gatewayM x <;> try rfl
    rw [(gw_small h).1, (gw_small h).2, hold_any h]
    cases allN x.flows.length (fhP x) <;> rfl)) (show (bif gatewayM x then (bif (small x.flows && (small x.sessions)) then 0 else 0) else 1) = (errM x) from (by
    unfold errM
    cases h : gatewayM x <;> try rfl
    rw [(gw_small h).1, (gw_small h).2]; rfl))) ▸ (OkC.t2 cB cI false 0 (fn_ok0 G60_ok hmx Tryz.func28 (bd_eq (by kernel_rfl)) _ hs) hs (by kernel_rfl) (by kernel_rfl) (by kernel_rfl) : OkC Tryz.prog 28 [(cA0 .gateway).enc x] (.tup [cB.enc (bif gatewayM x then (bif (small x.flows && (small x.sessions)) then !(anyN x.flows.length (fun i => fhBad x (gW x.flows i))) else false) else false), cI.enc (bif gatewayM x then (bif (small x.flows && (small x.sessions)) then 0 else 0) else 1)]))
theorem e_FlowsHold : EOk Tryz.prog 28 c_FlowsHold := ent1_ok Tryz.call28 fun x hq => o_FlowsHold x
def I_FhS (x : Cd.ty ((cA0 .gateway))) (z : Int) : St := ⟨fr 47 [(1, .box 0 0), (4, .I z)], [⟨54, .cells (row .gateway x), false, false⟩]⟩
theorem r_FhS (x : Cd.ty ((cA0 .gateway))) (hn : x.flows.length ≤ 1099511627776) (hg : gatewayM x = true) (h0 : 0 ≤ x.flows.length) : Sat Tryz.prog 0 (.loop (lpb Tryz.f27 0)) (I_FhS x (0 : Nat)) (bif allF (fun i => fhP x i) (x.flows.length) 0 then .exit 0 ⟨fr 47 [], []⟩ else .ret ⟨fr 47 [(2, .v (.bool false)), (3, .I 0)], []⟩) :=
  sat_all (x.flows.length) 0 h0 (I_FhS x) (fun i => fhP x i) 0 _ _ fun k h0 hk =>
    rnd_sat (v := ⟨[1, 4], ids 1, [], ids 0, [2, 3], []⟩) G60_ok hmx (noLoops (n := 1) (by kernel_rfl)) (n := 1) (L := fun _ _ => none) (SfO.bads (b := bif decide ((k : Int) < x.flows.length) then (bif decide ((k : Int) < x.flows.length) then (bif (gW x.flows k).owner == 0 then false else (bif small x.sessions then (bif decide (0 ≤ fhJ x k) then (bif decide (fhJ x k < x.sessions.length) then false else true) else true) else true)) else true) else false) (by kernel_rfl) ((by
    by_cases hlt : k < x.flows.length
    · rw [bnd hlt, (gw_small hg).1]
      cases h0 : (gW x.flows k).owner == 0 <;> try rfl
      rw [(idxM_in (own_in hg hlt h0)).1, (idxM_in (own_in hg hlt h0)).2.1]; rfl
    · rw [show decide ((k : Int) < x.flows.length) = false from by simpa using hlt]; rfl)) (by kernel_rfl))
      ((by kernel_rfl : _ = (bif decide ((k : Int) < (x.flows.length : Nat)) then (bif decide ((k : Int) < x.flows.length) then (bif (gW x.flows k).owner == 0 then .nrm (I_FhS x (wr (k + 1))) else (bif small x.sessions then (bif decide (0 ≤ fhJ x k) then (bif decide (fhJ x k < x.sessions.length) then (bif (gS x.sessions (fhJ x k).toNat).mac.toList == (gW x.flows k).mac.toList then (bif (gS x.sessions (fhJ x k).toNat).ip == (gW x.flows k).srcIp then .nrm (I_FhS x (wr (k + 1))) else .ret ⟨fr 47 [(2, .v (.bool false)), (3, .I 0)], []⟩) else .ret ⟨fr 47 [(2, .v (.bool false)), (3, .I 0)], []⟩) else default) else default) else default)) else default) else .exit 0 ⟨fr 47 [], []⟩)).trans (all_eq fun hk => ((by
    rw [bnd hk, wrs hk hn, (gw_small hg).1]
    unfold fhP
    cases h0 : (gW x.flows k).owner == 0 <;> try rfl
    rw [(idxM_in (own_in hg hk h0)).1, (idxM_in (own_in hg hk h0)).2.1]
    cases (gS x.sessions (fhJ x k).toNat).mac.toList == (gW x.flows k).mac.toList <;> cases (gS x.sessions (fhJ x k).toNat).ip == (gW x.flows k).srcIp <;> rfl))))
def S_FhS (x : Cd.ty ((cA0 .gateway))) : LoopSpec := ⟨[1, 4], ids 1, I_FhS x (0 : Nat), (.node (gatewayM x) (.node (allF (fun i => fhP x i) (x.flows.length) 0) (.leaf (.exit 0 ⟨fr 47 [], []⟩)) (.leaf (.ret ⟨fr 47 [(2, .v (.bool false)), (3, .I 0)], []⟩))) .bad), []⟩
theorem z_FhS (x : Cd.ty ((cA0 .gateway)))  : SpecOk Tryz.prog Tryz.f27 0 ⟨[1, 4], ids 1, I_FhS x (0 : Nat), (.node (gatewayM x) (.node (allF (fun i => fhP x i) (x.flows.length) 0) (.leaf (.exit 0 ⟨fr 47 [], []⟩)) (.leaf (.ret ⟨fr 47 [(2, .v (.bool false)), (3, .I 0)], []⟩))) .bad), []⟩ := .mkW fun hq => r_FhS x (of_decide_eq_true (gw_small hq).2) hq (Nat.zero_le _)
def c_sFlowsHold : Entry := ent1 (cA0 .gateway) fun x => (.when (small x.users && small x.conns), .tup [cB.enc (holdM x), cI.enc (errM x)])
theorem o_sFlowsHold : ∀ (x : Cd.ty ((cA0 .gateway))), (small x.users && small x.conns) = true → OkC Tryz.prog 27 [(cA0 .gateway).enc x] (.tup [cB.enc (holdM x), cI.enc (errM x)]) := fun x hq =>
  have hs : Sf (fnT Tryz.prog G60 (Ls [S_FhS x]) Tryz.f27 (bd Tryz.f27) [(cA0 .gateway).enc x]) := Sf.obls (b := bif small x.users && small x.conns then (bif gatewayM x then (bif gatewayM x then false else true) else false) else true) (by kernel_rfl) ((by rw [hq]; cases gatewayM x <;> rfl)) (l := [I_FhS x (0 : Nat) = I_FhS x (0 : Nat)]) (by kernel_rfl) (by simp)
  (show ((.tup [cB.enc (bif small x.users && small x.conns then (bif gatewayM x then (bif gatewayM x then (bif allF (fun i => fhP x i) x.flows.length 0 then true else false) else false) else false) else false), cI.enc (bif small x.users && small x.conns then (bif gatewayM x then (bif gatewayM x then (bif allF (fun i => fhP x i) x.flows.length 0 then 0 else 0) else 0) else 1) else 0)]) : Da) = (.tup [cB.enc (holdM x), cI.enc (errM x)]) from t2_eq cB cI (show (bif small x.users && small x.conns then (bif gatewayM x then (bif gatewayM x then (bif allF (fun i => fhP x i) x.flows.length 0 then true else false) else false) else false) else false) = (holdM x) from (by
    unfold holdM
    rw [hq, allF_zero]
    cases gatewayM x <;> try rfl
    show (bif allN x.flows.length (fhP x) then true else false) = _
    cases allN x.flows.length (fhP x) <;> rfl)) (show (bif small x.users && small x.conns then (bif gatewayM x then (bif gatewayM x then (bif allF (fun i => fhP x i) x.flows.length 0 then 0 else 0) else 0) else 1) else 0) = (errM x) from (by
    unfold errM
    rw [hq]
    cases gatewayM x <;> try rfl
    cases allF (fun i => fhP x i) x.flows.length 0 <;> rfl))) ▸ (OkC.t2 cB cI false 0 (fn_okL G60_ok hmx Tryz.func27 (bd_eq (by kernel_rfl)) _ _ (.cons (z_FhS x) (.nil _)) hs) hs (by kernel_rfl) (by kernel_rfl) (by kernel_rfl) : OkC Tryz.prog 27 [(cA0 .gateway).enc x] (.tup [cB.enc (bif small x.users && small x.conns then (bif gatewayM x then (bif gatewayM x then (bif allF (fun i => fhP x i) x.flows.length 0 then true else false) else false) else false) else false), cI.enc (bif small x.users && small x.conns then (bif gatewayM x then (bif gatewayM x then (bif allF (fun i => fhP x i) x.flows.length 0 then 0 else 0) else 0) else 1) else 0)]))
theorem e_sFlowsHold : EOk Tryz.prog 27 c_sFlowsHold := ent1_ok Tryz.call27 fun x hq => o_sFlowsHold x hq
def G61 : Ctx := G60.add [(28, c_FlowsHold), (27, c_sFlowsHold)]
theorem G61_ok : COk Tryz.prog G61 := G60_ok.add (CsOk.cons e_FlowsHold (CsOk.cons e_sFlowsHold (CsOk.nil)))
end Go.Proofs.YthlebalbiokjpaaGreat
namespace Go.Proofs.YthlebalbiokjpaaGreat
open Go.RowKit
set_option linter.unusedVariables false
set_option maxRecDepth 100000

theorem all_eqX {k n : Nat} {A B X X' : Out} (hk : k ≤ n) (hX : k = n → X = X') (h : k < n → A = B) : (bif decide ((k : Int) < n) then A else X) = (bif decide (k < n) then B else X') := by
  by_cases hkn : k < n
  · rw [show decide ((k : Int) < n) = true from by simpa using hkn, show decide (k < n) = true from by simpa using hkn]
    exact h hkn
  · rw [show decide ((k : Int) < n) = false from by simpa using hkn, show decide (k < n) = false from by simpa using hkn]
    exact hX (by omega)
theorem gw_users {x : XGateway} (h : gatewayM x = true) : small x.users = true := by
  have h := (gw_parts h).1
  unfold guestsI at h
  obtain ⟨-, h⟩ := and2 h
  cases h1 : decide (((ggu x).users.length : Int) > 6) <;> rw [h1] at h <;> try cases h
  unfold small
  simp at h1
  simp
  show x.users.length ≤ _
  have : (ggu x).users.length = x.users.length := rfl
  omega
theorem gw_sess {x : XGateway} (h : gatewayM x = true) : ∀ k, k < x.sessions.length → sessionOK (gcfg x) (ggu x) (gS x.sessions k) = true := by
  have h := (gw_parts h).1
  unfold guestsI at h
  obtain ⟨-, h⟩ := and2 h
  cases h1 : decide (((ggu x).users.length : Int) > 6) <;> rw [h1] at h <;> try cases h
  cases h2 : decide (((ggu x).sessions.length : Int) > 3) <;> rw [h2] at h <;> try cases h
  cases h3 : decide (((ggu x).fails.length : Int) > 20) <;> rw [h3] at h <;> try cases h
  cases h4 : decide (((ggu x).records.length : Int) > 60) <;> rw [h4] at h <;> try cases h
  simp only [cond_false, Bool.and_eq_true] at h
  have hs := h.2.2.1
  have hn : (ggu x).sessions.length ≤ 3 := by simp at h2; omega
  rw [← sess_eq hn] at hs
  intro k hk
  exact (sessS_iff.1 (allN_iff.1 hs k hk)).1
theorem used_in {c : XConfig} {g : XGuests} {s : XSession} (h : sessionOK c g s = true) : 0 ≤ s.used ∧ s.used ≤ 1000000 := by
  unfold sessionOK at h
  simp only [Bool.and_eq_true] at h
  have h1 := w_true.1 h.2.2.2.2.2.2.2.1
  have h2 := w_true.1 h.2.2.2.2.2.2.2.2.1
  omega
def userQ (l : List XUser) (name : ByteArray) (i : Nat) : Bool := (l.getD i (elDef .user)).name.toList == name.toList
abbrev k_user := cC1 176 (cP1 cS)
def I_idxUser (l : List (El .user)) (u : Cd.ty (k_user)) (z : Int) : St := ⟨fr 19 [(0, .lst .user l), (1, k_user.enc u), (7, .I l.length), (8, .I z)], []⟩
theorem r_idxUser (l : List (El .user)) (u : Cd.ty (k_user)) (hn : l.length ≤ 1099511627776) : Sat Tryz.prog 0 (.loop (lpb Tryz.f175 0)) (I_idxUser l u (0 : Nat)) (bif anyN l.length (fun i => (l.getD i (elDef .user)).name.toList == u.toList) then .ret ⟨fr 19 [(4, .I (fstN l.length (fun i => (l.getD i (elDef .user)).name.toList == u.toList) : Nat))], []⟩ else .exit 0 ⟨fr 19 [], []⟩) :=
  sat_find l.length (I_idxUser l u) (fun i => (l.getD i (elDef .user)).name.toList == u.toList) 0 _ (fun k => ⟨fr 19 [(4, .I (k : Nat))], []⟩) fun k hk =>
    rnd_sat (v := ⟨[0, 1, 7, 8], ids 0, [], ids 0, [4], []⟩) G61_ok hmx (noLoops (n := 1) (by kernel_rfl)) (n := 1) (L := fun _ _ => none) (SfO.bads (b := bif decide ((k : Int) < l.length) then (bif decide ((k : Int) < l.length) then false else true) else false) (by kernel_rfl) (by cases decide ((k : Int) < l.length) <;> rfl) (by kernel_rfl))
      ((by kernel_rfl : _ = (bif decide ((k : Int) < l.length) then (bif decide ((k : Int) < l.length) then (bif (fun i => (l.getD i (elDef .user)).name.toList == u.toList) k then .ret ⟨fr 19 [(4, .I (k : Nat))], []⟩ else .nrm (I_idxUser l u (wr (k + 1)))) else default) else .exit 0 ⟨fr 19 [], []⟩)).trans (rnd_eq (f := fun z => .nrm (I_idxUser l u z)) (q := (fun i => (l.getD i (elDef .user)).name.toList == u.toList) k) (r := .ret ⟨fr 19 [(4, .I (k : Nat))], []⟩) (x := .exit 0 ⟨fr 19 [], []⟩) hn))
def S_idxUser (l : List (El .user)) (u : Cd.ty (k_user)) : List LoopSpec := [⟨[0, 1, 7, 8], ids 0, I_idxUser l u (0 : Nat), .node (small l) (.node (anyN l.length (fun i => (l.getD i (elDef .user)).name.toList == u.toList)) (.leaf (.ret ⟨fr 19 [(4, .I (fstN l.length (fun i => (l.getD i (elDef .user)).name.toList == u.toList) : Nat))], []⟩)) (.leaf (.exit 0 ⟨fr 19 [], []⟩))) .bad, []⟩]
theorem z_idxUser (l : List (El .user)) (u : Cd.ty (k_user)) : SpecOk Tryz.prog Tryz.f175 0 ⟨[0, 1, 7, 8], ids 0, I_idxUser l u (0 : Nat), .node (small l) (.node (anyN l.length (fun i => (l.getD i (elDef .user)).name.toList == u.toList)) (.leaf (.ret ⟨fr 19 [(4, .I (fstN l.length (fun i => (l.getD i (elDef .user)).name.toList == u.toList) : Nat))], []⟩)) (.leaf (.exit 0 ⟨fr 19 [], []⟩))) .bad, []⟩ := .mkW fun hq => r_idxUser l u (of_decide_eq_true hq)
def c_idxUser : Entry := ent2 (cL .user) (k_user) fun l u => (.when (small l), .I (idxM l.length (fun i => (l.getD i (elDef .user)).name.toList == u.toList)))
theorem o_idxUser : ∀ (l : List (El .user)) (u : Cd.ty (k_user)), small l = true → OkC Tryz.prog 175 [(cL .user).enc l, k_user.enc u] (.I (idxM l.length (fun i => (l.getD i (elDef .user)).name.toList == u.toList))) := fun l u hq =>
  have hs : Sf (fnT Tryz.prog G61 (Ls (S_idxUser l u)) Tryz.f175 (bd Tryz.f175) [(cL .user).enc l, k_user.enc u]) := Sf.obls (b := bif small l then false else true) (by kernel_rfl) (by rw [hq]; rfl) (l := [I_idxUser l u (0 : Nat) = I_idxUser l u (0 : Nat)]) (by kernel_rfl) (by simp)
  (show (bif small l then idxM l.length (fun i => (l.getD i (elDef .user)).name.toList == u.toList) else 0) = idxM l.length (fun i => (l.getD i (elDef .user)).name.toList == u.toList) from by rw [hq]; rfl) ▸ (OkC.i (fn_okL G61_ok hmx Tryz.func175 (bd_eq (by kernel_rfl)) _ _ (.cons (z_idxUser l u) (.nil _)) hs) hs (by kernel_rfl) (by kernel_rfl) : OkC Tryz.prog 175 [(cL .user).enc l, k_user.enc u] (.I (bif small l then idxM l.length (fun i => (l.getD i (elDef .user)).name.toList == u.toList) else 0)))
theorem e_idxUser : EOk Tryz.prog 175 c_idxUser := ent2_ok Tryz.call175 fun l u hq => o_idxUser l u hq
def G62 : Ctx := G61.add [(175, c_idxUser)]
theorem G62_ok : COk Tryz.prog G62 := G61_ok.add (CsOk.cons e_idxUser (CsOk.nil))
def c_user : Entry := ent2 (cR0 .guests) cS fun g u => (.when (small g.users), .I (idxM g.users.length (userQ g.users u)))
theorem o_user : ∀ g u, (small g.users) = true → OkC Tryz.prog 101 [(cR0 .guests).enc g, cS.enc u] (.I (idxM g.users.length (userQ g.users u))) := fun g u hq =>
  have hs : Sf (fnT Tryz.prog G62 (fun _ _ => none) Tryz.f101 (bd Tryz.f101) [(cR0 .guests).enc g, cS.enc u]) := Sf.bads (b := bif small g.users then false else true) (by kernel_rfl) ((by rw [hq]; rfl)) (by kernel_rfl)
  (show (bif small g.users then idxM g.users.length (userQ g.users u) else 0) = (idxM g.users.length (userQ g.users u)) from (by rw [hq]; rfl)) ▸ (OkC.i (fn_ok0 G62_ok hmx Tryz.func101 (bd_eq (by kernel_rfl)) _ hs) hs (by kernel_rfl) (by kernel_rfl) : OkC Tryz.prog 101 [(cR0 .guests).enc g, cS.enc u] (.I (bif small g.users then idxM g.users.length (userQ g.users u) else 0)))
theorem e_user : EOk Tryz.prog 101 c_user := ent2_ok Tryz.call101 fun g u hq => o_user g u hq
def G63 : Ctx := G62.add [(101, c_user)]
theorem G63_ok : COk Tryz.prog G63 := G62_ok.add (CsOk.cons e_user (CsOk.nil))
def usesQ (x : XGateway) (j : Int) (i : Nat) : Bool := (gS x.sessions i).user == j
def I_SpI (x : Cd.ty ((cA0 .gateway))) (j : Cd.ty (cI)) (z : Int) : St := ⟨fr 37 [(6, .I j), (24, .lst .session x.sessions), (25, .I x.sessions.length), (26, .I z)], []⟩
theorem r_SpI (x : Cd.ty ((cA0 .gateway))) (j : Cd.ty (cI)) (hn : x.sessions.length ≤ 1099511627776)  : Sat Tryz.prog 0 (.loop (lpb Tryz.f30 0)) (I_SpI x j (0 : Nat)) (bif anyN (x.sessions.length) (fun i => usesQ x j i) then .ret ⟨fr 37 [(4, .I (gS x.sessions (fstN (x.sessions.length) (fun i => usesQ x j i))).used), (5, .I 0)], []⟩ else .exit 1 ⟨fr 37 [], []⟩) :=
  sat_find (x.sessions.length) (I_SpI x j) (fun i => usesQ x j i) 1 _ (fun k => ⟨fr 37 [(4, .I (gS x.sessions k).used), (5, .I 0)], []⟩) fun k hk =>
    rnd_sat (v := ⟨[6, 24, 25, 26], ids 0, [], ids 0, [4, 5], []⟩) G63_ok hmx (noLoops (n := 1) (by kernel_rfl)) (n := 1) (L := fun _ _ => none) (SfO.bads (b := bif decide ((k : Int) < x.sessions.length) then (bif decide ((k : Int) < x.sessions.length) then false else true) else false) (by kernel_rfl) (bb1 _ _) (by kernel_rfl))
      ((by kernel_rfl : _ = (bif decide ((k : Int) < (x.sessions.length : Nat)) then (bif decide ((k : Int) < x.sessions.length) then (bif (gS x.sessions k).user == j then .ret ⟨fr 37 [(4, .I (gS x.sessions k).used), (5, .I 0)], []⟩ else .nrm (I_SpI x j (wr (k + 1)))) else default) else .exit 1 ⟨fr 37 [], []⟩)).trans (all_eq fun hk => ((by rw [bnd hk, wrs hk hn]; rfl))))
def S_SpI (x : Cd.ty ((cA0 .gateway))) (j : Cd.ty (cI)) : LoopSpec := ⟨[6, 24, 25, 26], ids 0, I_SpI x j (0 : Nat), (.node (decide (x.sessions.length ≤ 1099511627776)) (.node (anyN (x.sessions.length) (fun i => usesQ x j i)) (.leaf (.ret ⟨fr 37 [(4, .I (gS x.sessions (fstN (x.sessions.length) (fun i => usesQ x j i))).used), (5, .I 0)], []⟩)) (.leaf (.exit 1 ⟨fr 37 [], []⟩))) .bad), []⟩
theorem z_SpI (x : Cd.ty ((cA0 .gateway))) (j : Cd.ty (cI)) : SpecOk Tryz.prog Tryz.f30 0 ⟨[6, 24, 25, 26], ids 0, I_SpI x j (0 : Nat), (.node (decide (x.sessions.length ≤ 1099511627776)) (.node (anyN (x.sessions.length) (fun i => usesQ x j i)) (.leaf (.ret ⟨fr 37 [(4, .I (gS x.sessions (fstN (x.sessions.length) (fun i => usesQ x j i))).used), (5, .I 0)], []⟩)) (.leaf (.exit 1 ⟨fr 37 [], []⟩))) .bad), []⟩ := .mkW fun hq => r_SpI x j (of_decide_eq_true hq)
def usedOf (x : XGateway) (j : Int) : Int := bif anyN x.sessions.length (usesQ x j) then (gS x.sessions (fstN x.sessions.length (usesQ x j))).used else 0
abbrev spK (x : XGateway) (u : ByteArray) : Int := idxM x.users.length (userQ x.users u)
def spentM (x : XGateway) (u : ByteArray) : Int := bif decide ((u.size : Int) > 65536) then 0 else bif gatewayM x then (bif decide (spK x u < 0) then 0 else usedOf x (spK x u)) else 0
def sperrM (x : XGateway) (u : ByteArray) : Int := bif decide ((u.size : Int) > 65536) then 2 else bif gatewayM x then (bif decide (spK x u < 0) then 13 else 0) else 1
def c_SpentOf : Entry := ent2 (cA0 .gateway) cS fun x u => (.yes, .tup [cI.enc (spentM x u), cI.enc (sperrM x u)])
theorem o_SpentOf : ∀ (x : Cd.ty ((cA0 .gateway))) (u : Cd.ty (cS)), OkC Tryz.prog 30 [(cA0 .gateway).enc x, cS.enc u] (.tup [cI.enc (spentM x u), cI.enc (sperrM x u)]) := fun x u =>
  have hs : Sf (fnT Tryz.prog G63 (Ls [S_SpI x (spK x u)]) Tryz.f30 (bd Tryz.f30) [(cA0 .gateway).enc x, cS.enc u]) := Sf.obls (b := bif decide ((u.size : Int) > 65536) then false else bif gatewayM x then (bif small x.users then (bif decide (spK x u < 0) then false else (bif small x.sessions then false else true)) else true) else false) (by kernel_rfl) ((by
    cases decide ((u.size : Int) > 65536) <;> try rfl
    cases h : gatewayM x <;> try rfl
    rw [(gw_small h).1, gw_users h]
    cases decide (spK x u < 0) <;> rfl)) (l := [I_SpI x (spK x u) (0 : Nat) = I_SpI x (spK x u) (0 : Nat)]) (by kernel_rfl) (by simp)
  (show ((.tup [cI.enc (bif decide ((u.size : Int) > 65536) then 0 else bif gatewayM x then (bif small x.users then (bif decide (spK x u < 0) then 0 else (bif small x.sessions then (bif anyN x.sessions.length (fun i => usesQ x (spK x u) i) then (gS x.sessions (fstN x.sessions.length (fun i => usesQ x (spK x u) i))).used else 0) else 0)) else 0) else 0), cI.enc (bif decide ((u.size : Int) > 65536) then 2 else bif gatewayM x then (bif small x.users then (bif decide (spK x u < 0) then 13 else (bif small x.sessions then (bif anyN x.sessions.length (fun i => usesQ x (spK x u) i) then 0 else 0) else 0)) else 0) else 1)]) : Da) = (.tup [cI.enc (spentM x u), cI.enc (sperrM x u)]) from t2_eq cI cI (show (bif decide ((u.size : Int) > 65536) then 0 else bif gatewayM x then (bif small x.users then (bif decide (spK x u < 0) then 0 else (bif small x.sessions then (bif anyN x.sessions.length (fun i => usesQ x (spK x u) i) then (gS x.sessions (fstN x.sessions.length (fun i => usesQ x (spK x u) i))).used else 0) else 0)) else 0) else 0) = (spentM x u) from (by
    unfold spentM
    cases decide ((u.size : Int) > 65536) <;> try rfl
    cases h : gatewayM x <;> try rfl
    rw [(gw_small h).1, gw_users h]
    cases decide (spK x u < 0) <;> rfl)) (show (bif decide ((u.size : Int) > 65536) then 2 else bif gatewayM x then (bif small x.users then (bif decide (spK x u < 0) then 13 else (bif small x.sessions then (bif anyN x.sessions.length (fun i => usesQ x (spK x u) i) then 0 else 0) else 0)) else 0) else 1) = (sperrM x u) from (by
    unfold sperrM
    cases decide ((u.size : Int) > 65536) <;> try rfl
    cases h : gatewayM x <;> try rfl
    rw [(gw_small h).1, gw_users h]
    cases decide (spK x u < 0) <;> try rfl
    cases anyN x.sessions.length (fun i => usesQ x (spK x u) i) <;> rfl))) ▸ (OkC.t2 cI cI 0 0 (fn_okL G63_ok hmx Tryz.func30 (bd_eq (by kernel_rfl)) _ _ (.cons (z_SpI x (spK x u)) (.nil _)) hs) hs (by kernel_rfl) (by kernel_rfl) (by kernel_rfl) : OkC Tryz.prog 30 [(cA0 .gateway).enc x, cS.enc u] (.tup [cI.enc (bif decide ((u.size : Int) > 65536) then 0 else bif gatewayM x then (bif small x.users then (bif decide (spK x u < 0) then 0 else (bif small x.sessions then (bif anyN x.sessions.length (fun i => usesQ x (spK x u) i) then (gS x.sessions (fstN x.sessions.length (fun i => usesQ x (spK x u) i))).used else 0) else 0)) else 0) else 0), cI.enc (bif decide ((u.size : Int) > 65536) then 2 else bif gatewayM x then (bif small x.users then (bif decide (spK x u < 0) then 13 else (bif small x.sessions then (bif anyN x.sessions.length (fun i => usesQ x (spK x u) i) then 0 else 0) else 0)) else 0) else 1)]))
theorem e_SpentOf : EOk Tryz.prog 30 c_SpentOf := ent2_ok Tryz.call30 fun x u hq => o_SpentOf x u
/-! ## Spec's -/
def spA (x : XGateway) (j : Nat) : Nat → Int
  | 0 => 0
  | k + 1 => bif usesQ x (j : Nat) k then wr (spA x j k + (gS x.sessions k).used) else spA x j k
def I_SpN (x : Cd.ty ((cA0 .gateway))) (j : Nat) (z : Int) : St := ⟨fr 59 [(2, .box 0 0), (6, .I (j : Nat)), (7, .I (spA x j z.toNat)), (8, .I z)], [⟨54, .cells (row .gateway x), false, false⟩]⟩
theorem r_SpN (x : Cd.ty ((cA0 .gateway))) (j : Nat) (hn : x.sessions.length ≤ 1099511627776)  (h0 : 0 ≤ x.sessions.length) : Sat Tryz.prog 0 (.loop (lpb Tryz.f29 1)) (I_SpN x j (0 : Nat)) (bif allF (fun i => true) (x.sessions.length) 0 then .exit 2 ⟨fr 59 [(7, .I (spA x j (x.sessions.length)))], []⟩ else .ret ⟨fr 59 [], []⟩) :=
  sat_all (x.sessions.length) 0 h0 (I_SpN x j) (fun i => true) 2 _ _ fun k h0 hk =>
    rnd_sat (v := ⟨[2, 6, 7, 8], ids 1, [7], ids 0, [], []⟩) G63_ok hmx (noLoops (n := 2) (by kernel_rfl)) (n := 2) (L := fun _ _ => none) (SfO.bads (b := bif decide ((k : Int) < x.sessions.length) then (bif decide ((k : Int) < x.sessions.length) then (bif usesQ x (j : Nat) k then (bif decide ((k : Int) < x.sessions.length) then false else true) else false) else true) else false) (by kernel_rfl) ((by cases decide ((k : Int) < x.sessions.length) <;> cases usesQ x (j : Nat) k <;> rfl)) (by kernel_rfl))
      ((by kernel_rfl : _ = (bif decide ((k : Int) < (x.sessions.length : Nat)) then (bif decide ((k : Int) < x.sessions.length) then (bif usesQ x (j : Nat) k then (bif decide ((k : Int) < x.sessions.length) then .nrm ⟨fr 59 [(2, .box 0 0), (6, .I (j : Nat)), (7, .I (wr (spA x j k + (gS x.sessions k).used))), (8, .I (wr (k + 1)))], [⟨54, .cells (row .gateway x), false, false⟩]⟩ else default) else .nrm ⟨fr 59 [(2, .box 0 0), (6, .I (j : Nat)), (7, .I (spA x j k)), (8, .I (wr (k + 1)))], [⟨54, .cells (row .gateway x), false, false⟩]⟩) else default) else .exit 2 ⟨fr 59 [(7, .I (spA x j (k)))], []⟩)).trans (all_eqX hk (fun e => by rw [e]) fun hk => ((by
    have e : I_SpN x j ((k + 1 : Nat) : Int) = ⟨fr 59 [(2, .box 0 0), (6, .I (j : Nat)), (7, .I (bif usesQ x (j : Nat) k then wr (spA x j k + (gS x.sessions k).used) else spA x j k)), (8, .I ((k + 1 : Nat) : Int))], [⟨54, .cells (row .gateway x), false, false⟩]⟩ := rfl
    rw [bnd hk, wrs hk hn]
    show _ = Out.nrm (I_SpN x j ((k + 1 : Nat) : Int))
    rw [e]
    cases usesQ x (j : Nat) k <;> rfl))))
def S_SpN (x : Cd.ty ((cA0 .gateway))) (j : Nat) : LoopSpec := ⟨[2, 6, 7, 8], ids 1, I_SpN x j (0 : Nat), (.node (small x.sessions) (.node (allF (fun i => true) (x.sessions.length) 0) (.leaf (.exit 2 ⟨fr 59 [(7, .I (spA x j (x.sessions.length)))], []⟩)) (.leaf (.ret ⟨fr 59 [], []⟩))) .bad), []⟩
theorem z_SpN (x : Cd.ty ((cA0 .gateway))) (j : Nat)  : SpecOk Tryz.prog Tryz.f29 1 ⟨[2, 6, 7, 8], ids 1, I_SpN x j (0 : Nat), (.node (small x.sessions) (.node (allF (fun i => true) (x.sessions.length) 0) (.leaf (.exit 2 ⟨fr 59 [(7, .I (spA x j (x.sessions.length)))], []⟩)) (.leaf (.ret ⟨fr 59 [], []⟩))) .bad), []⟩ := .mkW fun hq => r_SpN x j (of_decide_eq_true hq) (Nat.zero_le _)
theorem spA_eq {x : XGateway} (h : gatewayM x = true) (j : Nat) : spA x j x.sessions.length = usedOf x (j : Nat) := by
  have hg := (gw_parts h).1
  have none : ∀ m, m ≤ x.sessions.length → (∀ i, i < m → usesQ x (j : Nat) i = false) → spA x j m = 0 := by
    intro m
    induction m with
    | zero => exact fun _ _ => rfl
    | succ m ih =>
      intro hm hi
      rw [spA, hi m (by omega)]
      exact ih (by omega) fun i h => hi i (by omega)
  unfold usedOf
  cases ha : anyN x.sessions.length (usesQ x (j : Nat))
  · exact none _ (Nat.le_refl _) (anyN_no.1 ha)
  · obtain ⟨h1, h2⟩ := fstN_ok ha
    generalize fstN x.sessions.length (usesQ x (j : Nat)) = i at *
    have alone : ∀ i', i' < x.sessions.length → i' ≠ i → usesQ x (j : Nat) i' = false := fun i' hi' hne => by
      cases hq : usesQ x (j : Nat) i' with
      | false => rfl
      | true => exact absurd (sess_user (g := ggu x) hg hi' h1 ((eq_of_beq hq : (gS x.sessions i').user = (j : Nat)).trans (eq_of_beq h2 : (gS x.sessions i).user = (j : Nat)).symm)) hne
    have key : ∀ d, i + 1 + d ≤ x.sessions.length → spA x j (i + 1 + d) = (gS x.sessions i).used := by
      intro d
      induction d with
      | zero =>
        intro hd
        rw [Nat.add_zero, spA, h2, none i (by omega) fun i' hi' => alone i' (by omega) (by omega)]
        have := used_in (gw_sess h i h1)
        simp only [cond_true]
        rw [Int.zero_add, wr_in (by omega) (by omega)]
      | succ d ih =>
        intro hd
        rw [← Nat.add_assoc, spA, alone (i + 1 + d) (by omega) (by omega)]
        exact ih (by omega)
    have := key (x.sessions.length - (i + 1)) (by omega)
    rw [show i + 1 + (x.sessions.length - (i + 1)) = x.sessions.length from by omega] at this
    exact this
def I_SpO (x : Cd.ty ((cA0 .gateway))) (u : Cd.ty (cS)) (z : Int) : St := ⟨fr 59 [(1, .S u), (2, .box 0 0), (6, .I z)], [⟨54, .cells (row .gateway x), false, false⟩]⟩
theorem r_SpO (x : Cd.ty ((cA0 .gateway))) (u : Cd.ty (cS)) (hn : x.users.length ≤ 1099511627776) (hs : small x.sessions = true) : Sat Tryz.prog 0 (.loop (lpb Tryz.f29 0)) (I_SpO x u (0 : Nat)) (bif anyN (x.users.length) (fun i => userQ x.users u i) then .ret ⟨fr 59 [(4, .I (spA x (fstN (x.users.length) (fun i => userQ x.users u i)) x.sessions.length)), (5, .I 0)], []⟩ else .exit 0 ⟨fr 59 [], []⟩) :=
  sat_find (x.users.length) (I_SpO x u) (fun i => userQ x.users u i) 0 _ (fun k => ⟨fr 59 [(4, .I (spA x k x.sessions.length)), (5, .I 0)], []⟩) fun k hk =>
    rnd_sat (v := ⟨[1, 2, 6], ids 1, [], ids 0, [4, 5], []⟩) G63_ok hmx (hL_one (b := lpb Tryz.f29 1) (n := 1) (by kernel_rfl) (z_SpN x k).out) (n := 1) (L := fun _ _ => some (S_SpN x k)) (SfO.obls (b := bif decide ((k : Int) < x.users.length) then (bif decide ((k : Int) < x.users.length) then (bif userQ x.users u k then (bif small x.sessions then false else true) else false) else true) else false) (by kernel_rfl) ((by rw [hs]; cases decide ((k : Int) < x.users.length) <;> cases userQ x.users u k <;> rfl)) (l := [I_SpN x k (0 : Nat) = I_SpN x k (0 : Nat)]) (by kernel_rfl) (by simp))
      ((by kernel_rfl : _ = (bif decide ((k : Int) < (x.users.length : Nat)) then (bif decide ((k : Int) < x.users.length) then (bif userQ x.users u k then (bif small x.sessions then (bif allF (fun i => true) x.sessions.length 0 then .ret ⟨fr 59 [(4, .I (spA x k x.sessions.length)), (5, .I 0)], []⟩ else .ret ⟨fr 59 [], []⟩) else default) else .nrm (I_SpO x u (wr (k + 1)))) else default) else .exit 0 ⟨fr 59 [], []⟩)).trans (all_eq fun hk => ((by rw [bnd hk, wrs hk hn, hs, allF_true]; rfl))))
def S_SpO (x : Cd.ty ((cA0 .gateway))) (u : Cd.ty (cS)) : LoopSpec := ⟨[1, 2, 6], ids 1, I_SpO x u (0 : Nat), (.node (small x.users && small x.sessions) (.node (anyN (x.users.length) (fun i => userQ x.users u i)) (.leaf (.ret ⟨fr 59 [(4, .I (spA x (fstN (x.users.length) (fun i => userQ x.users u i)) x.sessions.length)), (5, .I 0)], []⟩)) (.leaf (.exit 0 ⟨fr 59 [], []⟩))) .bad), []⟩
theorem z_SpO (x : Cd.ty ((cA0 .gateway))) (u : Cd.ty (cS)) : SpecOk Tryz.prog Tryz.f29 0 ⟨[1, 2, 6], ids 1, I_SpO x u (0 : Nat), (.node (small x.users && small x.sessions) (.node (anyN (x.users.length) (fun i => userQ x.users u i)) (.leaf (.ret ⟨fr 59 [(4, .I (spA x (fstN (x.users.length) (fun i => userQ x.users u i)) x.sessions.length)), (5, .I 0)], []⟩)) (.leaf (.exit 0 ⟨fr 59 [], []⟩))) .bad), []⟩ := .mkW fun hq => r_SpO x u (of_decide_eq_true (and2 hq).1) (and2 hq).2
def c_sSpentOf : Entry := ent2 (cA0 .gateway) cS fun x u => (.when (small x.users && small x.conns), .tup [cI.enc (spentM x u), cI.enc (sperrM x u)])
theorem o_sSpentOf : ∀ (x : Cd.ty ((cA0 .gateway))) (u : Cd.ty (cS)), (small x.users && small x.conns) = true → OkC Tryz.prog 29 [(cA0 .gateway).enc x, cS.enc u] (.tup [cI.enc (spentM x u), cI.enc (sperrM x u)]) := fun x u hq =>
  have hs : Sf (fnT Tryz.prog G63 (Ls [S_SpO x u, S_SpN x 0]) Tryz.f29 (bd Tryz.f29) [(cA0 .gateway).enc x, cS.enc u]) := Sf.obls (b := bif decide ((u.size : Int) > 65536) then false else bif small x.users && small x.conns then (bif gatewayM x then (bif (small x.users && small x.sessions) then false else true) else false) else true) (by kernel_rfl) ((by
    rw [hq]
    cases decide ((u.size : Int) > 65536) <;> try rfl
    cases h : gatewayM x <;> try rfl
    rw [(gw_small h).1, gw_users h]; rfl)) (l := [I_SpO x u (0 : Nat) = I_SpO x u (0 : Nat)]) (by kernel_rfl) (by simp)
  (show ((.tup [cI.enc (bif decide ((u.size : Int) > 65536) then 0 else bif small x.users && small x.conns then (bif gatewayM x then (bif (small x.users && small x.sessions) then (bif anyN x.users.length (fun i => userQ x.users u i) then spA x (fstN x.users.length (fun i => userQ x.users u i)) x.sessions.length else 0) else 0) else 0) else 0), cI.enc (bif decide ((u.size : Int) > 65536) then 2 else bif small x.users && small x.conns then (bif gatewayM x then (bif (small x.users && small x.sessions) then (bif anyN x.users.length (fun i => userQ x.users u i) then 0 else 13) else 0) else 1) else 0)]) : Da) = (.tup [cI.enc (spentM x u), cI.enc (sperrM x u)]) from t2_eq cI cI (show (bif decide ((u.size : Int) > 65536) then 0 else bif small x.users && small x.conns then (bif gatewayM x then (bif (small x.users && small x.sessions) then (bif anyN x.users.length (fun i => userQ x.users u i) then spA x (fstN x.users.length (fun i => userQ x.users u i)) x.sessions.length else 0) else 0) else 0) else 0) = (spentM x u) from (by
    unfold spentM
    rw [hq]
    cases decide ((u.size : Int) > 65536) <;> try rfl
    cases h : gatewayM x <;> try rfl
    rw [(gw_small h).1, gw_users h]
    unfold spK idxM
    show (bif anyN x.users.length (userQ x.users u) then spA x (fstN x.users.length (userQ x.users u)) x.sessions.length else 0) = _
    cases ha : anyN x.users.length (userQ x.users u) <;> try rfl
    rw [spA_eq h]
    rw [show decide ((bif true then ((fstN x.users.length (userQ x.users u) : Nat) : Int) else -1) < 0) = false from decide_eq_false (by simp)]
    rfl)) (show (bif decide ((u.size : Int) > 65536) then 2 else bif small x.users && small x.conns then (bif gatewayM x then (bif (small x.users && small x.sessions) then (bif anyN x.users.length (fun i => userQ x.users u i) then 0 else 13) else 0) else 1) else 0) = (sperrM x u) from (by
    unfold sperrM
    rw [hq]
    cases decide ((u.size : Int) > 65536) <;> try rfl
    cases h : gatewayM x <;> try rfl
    rw [(gw_small h).1, gw_users h]
    unfold spK idxM
    show (bif anyN x.users.length (userQ x.users u) then 0 else 13) = _
    cases ha : anyN x.users.length (userQ x.users u) <;> rfl))) ▸ (OkC.t2 cI cI 0 0 (fn_okL G63_ok hmx Tryz.func29 (bd_eq (by kernel_rfl)) _ _ (.cons (z_SpO x u) (.cons (z_SpN x 0) (.nil _))) hs) hs (by kernel_rfl) (by kernel_rfl) (by kernel_rfl) : OkC Tryz.prog 29 [(cA0 .gateway).enc x, cS.enc u] (.tup [cI.enc (bif decide ((u.size : Int) > 65536) then 0 else bif small x.users && small x.conns then (bif gatewayM x then (bif (small x.users && small x.sessions) then (bif anyN x.users.length (fun i => userQ x.users u i) then spA x (fstN x.users.length (fun i => userQ x.users u i)) x.sessions.length else 0) else 0) else 0) else 0), cI.enc (bif decide ((u.size : Int) > 65536) then 2 else bif small x.users && small x.conns then (bif gatewayM x then (bif (small x.users && small x.sessions) then (bif anyN x.users.length (fun i => userQ x.users u i) then 0 else 13) else 0) else 1) else 0)]))
theorem e_sSpentOf : EOk Tryz.prog 29 c_sSpentOf := ent2_ok Tryz.call29 fun x u hq => o_sSpentOf x u hq
def G64 : Ctx := G63.add [(30, c_SpentOf), (29, c_sSpentOf)]
theorem G64_ok : COk Tryz.prog G64 := G63_ok.add (CsOk.cons e_SpentOf (CsOk.cons e_sSpentOf (CsOk.nil)))
end Go.Proofs.YthlebalbiokjpaaGreat
namespace Go.Proofs.YthlebalbiokjpaaGreat
open Go.RowKit
set_option linter.unusedVariables false
set_option maxRecDepth 100000

def T_lawFlowsHold (x : XGateway) : Bool := bif wL 1048576 && fGateway x then (bif decide (szGatewayM x 1048576 < 0) then true else (bif smG x then (bif small x.users && small x.conns then (bif smG x then (bif holdM x == holdM x then (bif errM x == errM x then (bif smG x then (bif smallG x then (bif qGateway x x then true else false) else false) else false) else false) else false) else false) else false) else false)) else false
def B_lawFlowsHold (x : XGateway) : Bool := bif wL 1048576 && fGateway x then (bif decide (szGatewayM x 1048576 < 0) then false else (bif smG x then (bif small x.users && small x.conns then (bif smG x then (bif holdM x == holdM x then (bif errM x == errM x then (bif smG x then (bif smallG x then false else true) else true) else false) else false) else true) else true) else true)) else true
theorem B_lawFlowsHold_no (x : XGateway) (hf : fGateway x = true) : B_lawFlowsHold x = false := by
  unfold B_lawFlowsHold

  rw [hf, show wL 1048576 = true from by decide]
  rcases lawG_sm hf with h | ⟨h, h1, h2, h3⟩
  · rw [h]; rfl
  · rw [h, h1, h2, h3]
    simp only [beq_self_eq_true, qGateway_refl, cond_true, cond_false, Bool.and_self]
theorem T_lawFlowsHold_eq (x : XGateway) (hf : fGateway x = true) : T_lawFlowsHold x = true := by
  unfold T_lawFlowsHold

  rw [hf, show wL 1048576 = true from by decide]
  rcases lawG_sm hf with h | ⟨h, h1, h2, h3⟩
  · rw [h]; rfl
  · rw [h, h1, h2, h3]
    simp only [beq_self_eq_true, qGateway_refl, cond_true, cond_false, Bool.and_self]
def c_lawFlowsHold : Entry := ent1 (cA0 .gateway) fun x => (.when (fGateway x), .b (true))
theorem o_lawFlowsHold : ∀ x, (fGateway x) = true → OkC Tryz.prog 5 [(cA0 .gateway).enc x] (.b (true)) := fun x hq =>
  have hs : Sf (fnT Tryz.prog G64 (fun _ _ => none) Tryz.f5 (bd Tryz.f5) [(cA0 .gateway).enc x]) := Sf.bads (b := B_lawFlowsHold x) (by kernel_rfl) ((B_lawFlowsHold_no x hq)) (by kernel_rfl)
  (show (T_lawFlowsHold x) = (true) from (T_lawFlowsHold_eq x hq)) ▸ (OkC.b (fn_ok0 G64_ok hmx Tryz.func5 (bd_eq (by kernel_rfl)) _ hs) hs (by kernel_rfl) (by kernel_rfl) : OkC Tryz.prog 5 [(cA0 .gateway).enc x] (.b (T_lawFlowsHold x)))
theorem e_lawFlowsHold : EOk Tryz.prog 5 c_lawFlowsHold := ent1_ok Tryz.call5 fun x hq => o_lawFlowsHold x hq
def T_lawSpentOf (x : XGateway) (u : Cd.ty (cS)) : Bool := bif decide ((u.size : Int) > 1048576) then true else (bif wL 1048576 && fGateway x then (bif decide (szGatewayM x 1048576 < 0) then true else (bif smG x then (bif small x.users && small x.conns then (bif smG x then (bif spentM x u == spentM x u then (bif sperrM x u == sperrM x u then (bif smG x then (bif smallG x then (bif qGateway x x then true else false) else false) else false) else false) else false) else false) else false) else false)) else false)
def B_lawSpentOf (x : XGateway) (u : Cd.ty (cS)) : Bool := bif decide ((u.size : Int) > 1048576) then false else (bif wL 1048576 && fGateway x then (bif decide (szGatewayM x 1048576 < 0) then false else (bif smG x then (bif small x.users && small x.conns then (bif smG x then (bif spentM x u == spentM x u then (bif sperrM x u == sperrM x u then (bif smG x then (bif smallG x then false else true) else true) else false) else false) else true) else true) else true)) else true)
theorem B_lawSpentOf_no (x : XGateway) (u : Cd.ty (cS)) (hf : fGateway x = true) : B_lawSpentOf x u = false := by
  unfold B_lawSpentOf
  cases decide ((u.size : Int) > 1048576) <;> try rfl
  rw [hf, show wL 1048576 = true from by decide]
  rcases lawG_sm hf with h | ⟨h, h1, h2, h3⟩
  · rw [h]; rfl
  · rw [h, h1, h2, h3]
    simp only [beq_self_eq_true, qGateway_refl, cond_true, cond_false, Bool.and_self]
theorem T_lawSpentOf_eq (x : XGateway) (u : Cd.ty (cS)) (hf : fGateway x = true) : T_lawSpentOf x u = true := by
  unfold T_lawSpentOf
  cases decide ((u.size : Int) > 1048576) <;> try rfl
  rw [hf, show wL 1048576 = true from by decide]
  rcases lawG_sm hf with h | ⟨h, h1, h2, h3⟩
  · rw [h]; rfl
  · rw [h, h1, h2, h3]
    simp only [beq_self_eq_true, qGateway_refl, cond_true, cond_false, Bool.and_self]
def c_lawSpentOf : Entry := ent2 (cA0 .gateway) cS fun x u => (.when (fGateway x), .b (true))
theorem o_lawSpentOf : ∀ x u, (fGateway x) = true → OkC Tryz.prog 6 [(cA0 .gateway).enc x, cS.enc u] (.b (true)) := fun x u hq =>
  have hs : Sf (fnT Tryz.prog G64 (fun _ _ => none) Tryz.f6 (bd Tryz.f6) [(cA0 .gateway).enc x, cS.enc u]) := Sf.bads (b := B_lawSpentOf x u) (by kernel_rfl) ((B_lawSpentOf_no x u hq)) (by kernel_rfl)
  (show (T_lawSpentOf x u) = (true) from (T_lawSpentOf_eq x u hq)) ▸ (OkC.b (fn_ok0 G64_ok hmx Tryz.func6 (bd_eq (by kernel_rfl)) _ hs) hs (by kernel_rfl) (by kernel_rfl) : OkC Tryz.prog 6 [(cA0 .gateway).enc x, cS.enc u] (.b (T_lawSpentOf x u)))
theorem e_lawSpentOf : EOk Tryz.prog 6 c_lawSpentOf := ent2_ok Tryz.call6 fun x u hq => o_lawSpentOf x u hq
end Go.Proofs.YthlebalbiokjpaaGreat
