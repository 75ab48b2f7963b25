/- The gateway's tests: flows, impl's. -/
import Derived.Test.YthlebalbiokjpaaGreatKhGo
namespace Go.Proofs.YthlebalbiokjpaaGreat
open Go.RowKit
set_option linter.unusedVariables false
set_option maxRecDepth 100000

def Da.asIB : Da → Option (Int × Bool)
  | .tup [x, y] => match x.asI, y.asB with
    | some n, some c => some (n, c)
    | _, _ => none
  | _ => none
theorem OkC.ib {P : Program} {f : FuncId} {ds : List Da} {t : Tree Da} {F : Int} {B : Bool} (h : OkC P f ds t.get) (hs : Sf t) (hall : t.all (fun d => d.asIB.isSome) = true) (hF : t.getBy (fun d => (d.asIB.getD (0, false)).1) 0 = F) (hB : t.getBy (fun d => (d.asIB.getD (0, false)).2) false = B) : OkC P f ds (.tup [.I F, .b B]) := by
  have h1 := Tree.all_get hs.out hall
  rw [Tree.getBy_eq hs.out] at hF hB
  generalize t.get = d at *
  obtain ⟨x, hx⟩ := Option.isSome_iff_exists.1 h1
  rw [hx] at hF hB
  simp only [Option.getD_some] at hF hB
  subst hF hB
  unfold Da.asIB at hx
  split at hx
  · rename_i x0 y0
    split at hx
    · rename_i a b ha hb
      cases hx
      have e : x0 = .I a := by
        unfold Da.asI at ha
        split at ha <;> simp at ha
        subst ha; rfl
      subst e
      intro U w vs h1 h2 h3
      refine (h U w vs h1 h2 h3).mono fun e w' ⟨v, g1, g2, g3⟩ => ⟨v, g1, ?_, g3⟩
      cases g2 with
      | tup m us es hsz hh =>
        refine .tup _ us _ hsz fun i v d hv hd => ?_
        match i, hd with
        | 0, hd => cases hd; exact hh 0 v _ hv rfl
        | 1, hd => cases hd; rw [asB_eq (hh 1 v _ hv rfl) hb]; exact .b _ _
        | (i + 2), hd => simp at hd
    · cases hx
  · cases hx
abbrev k_find1 := cC5 208 (cP1 cI) (cP1 cI) (cP1 cI) (cP1 cI) (cP1 cI)
abbrev k_find2 := cC5 210 (cP1 cI) (cP1 cI) (cP1 cI) (cP1 cI) (cP1 cI)
def I_idxFlow1 (l : List (El .flow)) (e : Cd.ty (k_find1)) (z : Int) : St := ⟨fr 19 [(0, .lst .flow l), (1, k_find1.enc e), (7, .I l.length), (8, .I z)], []⟩
theorem r_idxFlow1 (l : List (El .flow)) (e : Cd.ty (k_find1)) (hn : l.length ≤ 1099511627776) : Sat Tryz.prog 0 (.loop (lpb Tryz.f139 0)) (I_idxFlow1 l e (0 : Nat)) (bif anyN l.length (fun i => isM (l.getD i (elDef .flow)) e.1 e.2.1 e.2.2.1 e.2.2.2.1 e.2.2.2.2) then .ret ⟨fr 19 [(4, .I (fstN l.length (fun i => isM (l.getD i (elDef .flow)) e.1 e.2.1 e.2.2.1 e.2.2.2.1 e.2.2.2.2) : Nat))], []⟩ else .exit 0 ⟨fr 19 [], []⟩) :=
  sat_find l.length (I_idxFlow1 l e) (fun i => isM (l.getD i (elDef .flow)) e.1 e.2.1 e.2.2.1 e.2.2.2.1 e.2.2.2.2) 0 _ (fun k => ⟨fr 19 [(4, .I (k : Nat))], []⟩) fun k hk =>
    rnd_sat (v := ⟨[0, 1, 7, 8], ids 0, [], ids 0, [4], []⟩) G25_ok hmx (noLoops (n := 1) (by kernel_rfl)) (n := 1) (L := fun _ _ => none) (SfO.bads (b := bif decide ((k : Int) < l.length) then (bif decide ((k : Int) < l.length) then false else true) else false) (by kernel_rfl) (by cases decide ((k : Int) < l.length) <;> rfl) (by kernel_rfl))
      ((by kernel_rfl : _ = (bif decide ((k : Int) < l.length) then (bif decide ((k : Int) < l.length) then (bif (fun i => isM (l.getD i (elDef .flow)) e.1 e.2.1 e.2.2.1 e.2.2.2.1 e.2.2.2.2) k then .ret ⟨fr 19 [(4, .I (k : Nat))], []⟩ else .nrm (I_idxFlow1 l e (wr (k + 1)))) else default) else .exit 0 ⟨fr 19 [], []⟩)).trans (rnd_eq (f := fun z => .nrm (I_idxFlow1 l e z)) (q := (fun i => isM (l.getD i (elDef .flow)) e.1 e.2.1 e.2.2.1 e.2.2.2.1 e.2.2.2.2) k) (r := .ret ⟨fr 19 [(4, .I (k : Nat))], []⟩) (x := .exit 0 ⟨fr 19 [], []⟩) hn))
def S_idxFlow1 (l : List (El .flow)) (e : Cd.ty (k_find1)) : List LoopSpec := [⟨[0, 1, 7, 8], ids 0, I_idxFlow1 l e (0 : Nat), .node (small l) (.node (anyN l.length (fun i => isM (l.getD i (elDef .flow)) e.1 e.2.1 e.2.2.1 e.2.2.2.1 e.2.2.2.2)) (.leaf (.ret ⟨fr 19 [(4, .I (fstN l.length (fun i => isM (l.getD i (elDef .flow)) e.1 e.2.1 e.2.2.1 e.2.2.2.1 e.2.2.2.2) : Nat))], []⟩)) (.leaf (.exit 0 ⟨fr 19 [], []⟩))) .bad, []⟩]
theorem z_idxFlow1 (l : List (El .flow)) (e : Cd.ty (k_find1)) : SpecOk Tryz.prog Tryz.f139 0 ⟨[0, 1, 7, 8], ids 0, I_idxFlow1 l e (0 : Nat), .node (small l) (.node (anyN l.length (fun i => isM (l.getD i (elDef .flow)) e.1 e.2.1 e.2.2.1 e.2.2.2.1 e.2.2.2.2)) (.leaf (.ret ⟨fr 19 [(4, .I (fstN l.length (fun i => isM (l.getD i (elDef .flow)) e.1 e.2.1 e.2.2.1 e.2.2.2.1 e.2.2.2.2) : Nat))], []⟩)) (.leaf (.exit 0 ⟨fr 19 [], []⟩))) .bad, []⟩ := .mkW fun hq => r_idxFlow1 l e (of_decide_eq_true hq)
def c_idxFlow1 : Entry := ent2 (cL .flow) (k_find1) fun l e => (.when (small l), .I (idxM l.length (fun i => isM (l.getD i (elDef .flow)) e.1 e.2.1 e.2.2.1 e.2.2.2.1 e.2.2.2.2)))
theorem o_idxFlow1 : ∀ (l : List (El .flow)) (e : Cd.ty (k_find1)), small l = true → OkC Tryz.prog 139 [(cL .flow).enc l, k_find1.enc e] (.I (idxM l.length (fun i => isM (l.getD i (elDef .flow)) e.1 e.2.1 e.2.2.1 e.2.2.2.1 e.2.2.2.2))) := fun l e hq =>
  have hs : Sf (fnT Tryz.prog G25 (Ls (S_idxFlow1 l e)) Tryz.f139 (bd Tryz.f139) [(cL .flow).enc l, k_find1.enc e]) := Sf.obls (b := bif small l then false else true) (by kernel_rfl) (by rw [hq]; rfl) (l := [I_idxFlow1 l e (0 : Nat) = I_idxFlow1 l e (0 : Nat)]) (by kernel_rfl) (by simp)
  (show (bif small l then idxM l.length (fun i => isM (l.getD i (elDef .flow)) e.1 e.2.1 e.2.2.1 e.2.2.2.1 e.2.2.2.2) else 0) = idxM l.length (fun i => isM (l.getD i (elDef .flow)) e.1 e.2.1 e.2.2.1 e.2.2.2.1 e.2.2.2.2) from by rw [hq]; rfl) ▸ (OkC.i (fn_okL G25_ok hmx Tryz.func139 (bd_eq (by kernel_rfl)) _ _ (.cons (z_idxFlow1 l e) (.nil _)) hs) hs (by kernel_rfl) (by kernel_rfl) : OkC Tryz.prog 139 [(cL .flow).enc l, k_find1.enc e] (.I (bif small l then idxM l.length (fun i => isM (l.getD i (elDef .flow)) e.1 e.2.1 e.2.2.1 e.2.2.2.1 e.2.2.2.2) else 0)))
theorem e_idxFlow1 : EOk Tryz.prog 139 c_idxFlow1 := ent2_ok Tryz.call139 fun l e hq => o_idxFlow1 l e hq
def I_idxFlow2 (l : List (El .flow)) (e : Cd.ty (k_find2)) (z : Int) : St := ⟨fr 19 [(0, .lst .flow l), (1, k_find2.enc e), (7, .I l.length), (8, .I z)], []⟩
theorem r_idxFlow2 (l : List (El .flow)) (e : Cd.ty (k_find2)) (hn : l.length ≤ 1099511627776) : Sat Tryz.prog 0 (.loop (lpb Tryz.f139 0)) (I_idxFlow2 l e (0 : Nat)) (bif anyN l.length (fun i => isM (l.getD i (elDef .flow)) e.1 e.2.1 e.2.2.1 e.2.2.2.1 e.2.2.2.2) then .ret ⟨fr 19 [(4, .I (fstN l.length (fun i => isM (l.getD i (elDef .flow)) e.1 e.2.1 e.2.2.1 e.2.2.2.1 e.2.2.2.2) : Nat))], []⟩ else .exit 0 ⟨fr 19 [], []⟩) :=
  sat_find l.length (I_idxFlow2 l e) (fun i => isM (l.getD i (elDef .flow)) e.1 e.2.1 e.2.2.1 e.2.2.2.1 e.2.2.2.2) 0 _ (fun k => ⟨fr 19 [(4, .I (k : Nat))], []⟩) fun k hk =>
    rnd_sat (v := ⟨[0, 1, 7, 8], ids 0, [], ids 0, [4], []⟩) G25_ok hmx (noLoops (n := 1) (by kernel_rfl)) (n := 1) (L := fun _ _ => none) (SfO.bads (b := bif decide ((k : Int) < l.length) then (bif decide ((k : Int) < l.length) then false else true) else false) (by kernel_rfl) (by cases decide ((k : Int) < l.length) <;> rfl) (by kernel_rfl))
      ((by kernel_rfl : _ = (bif decide ((k : Int) < l.length) then (bif decide ((k : Int) < l.length) then (bif (fun i => isM (l.getD i (elDef .flow)) e.1 e.2.1 e.2.2.1 e.2.2.2.1 e.2.2.2.2) k then .ret ⟨fr 19 [(4, .I (k : Nat))], []⟩ else .nrm (I_idxFlow2 l e (wr (k + 1)))) else default) else .exit 0 ⟨fr 19 [], []⟩)).trans (rnd_eq (f := fun z => .nrm (I_idxFlow2 l e z)) (q := (fun i => isM (l.getD i (elDef .flow)) e.1 e.2.1 e.2.2.1 e.2.2.2.1 e.2.2.2.2) k) (r := .ret ⟨fr 19 [(4, .I (k : Nat))], []⟩) (x := .exit 0 ⟨fr 19 [], []⟩) hn))
def S_idxFlow2 (l : List (El .flow)) (e : Cd.ty (k_find2)) : List LoopSpec := [⟨[0, 1, 7, 8], ids 0, I_idxFlow2 l e (0 : Nat), .node (small l) (.node (anyN l.length (fun i => isM (l.getD i (elDef .flow)) e.1 e.2.1 e.2.2.1 e.2.2.2.1 e.2.2.2.2)) (.leaf (.ret ⟨fr 19 [(4, .I (fstN l.length (fun i => isM (l.getD i (elDef .flow)) e.1 e.2.1 e.2.2.1 e.2.2.2.1 e.2.2.2.2) : Nat))], []⟩)) (.leaf (.exit 0 ⟨fr 19 [], []⟩))) .bad, []⟩]
theorem z_idxFlow2 (l : List (El .flow)) (e : Cd.ty (k_find2)) : SpecOk Tryz.prog Tryz.f139 0 ⟨[0, 1, 7, 8], ids 0, I_idxFlow2 l e (0 : Nat), .node (small l) (.node (anyN l.length (fun i => isM (l.getD i (elDef .flow)) e.1 e.2.1 e.2.2.1 e.2.2.2.1 e.2.2.2.2)) (.leaf (.ret ⟨fr 19 [(4, .I (fstN l.length (fun i => isM (l.getD i (elDef .flow)) e.1 e.2.1 e.2.2.1 e.2.2.2.1 e.2.2.2.2) : Nat))], []⟩)) (.leaf (.exit 0 ⟨fr 19 [], []⟩))) .bad, []⟩ := .mkW fun hq => r_idxFlow2 l e (of_decide_eq_true hq)
def c_idxFlow2 : Entry := ent2 (cL .flow) (k_find2) fun l e => (.when (small l), .I (idxM l.length (fun i => isM (l.getD i (elDef .flow)) e.1 e.2.1 e.2.2.1 e.2.2.2.1 e.2.2.2.2)))
theorem o_idxFlow2 : ∀ (l : List (El .flow)) (e : Cd.ty (k_find2)), small l = true → OkC Tryz.prog 139 [(cL .flow).enc l, k_find2.enc e] (.I (idxM l.length (fun i => isM (l.getD i (elDef .flow)) e.1 e.2.1 e.2.2.1 e.2.2.2.1 e.2.2.2.2))) := fun l e hq =>
  have hs : Sf (fnT Tryz.prog G25 (Ls (S_idxFlow2 l e)) Tryz.f139 (bd Tryz.f139) [(cL .flow).enc l, k_find2.enc e]) := Sf.obls (b := bif small l then false else true) (by kernel_rfl) (by rw [hq]; rfl) (l := [I_idxFlow2 l e (0 : Nat) = I_idxFlow2 l e (0 : Nat)]) (by kernel_rfl) (by simp)
  (show (bif small l then idxM l.length (fun i => isM (l.getD i (elDef .flow)) e.1 e.2.1 e.2.2.1 e.2.2.2.1 e.2.2.2.2) else 0) = idxM l.length (fun i => isM (l.getD i (elDef .flow)) e.1 e.2.1 e.2.2.1 e.2.2.2.1 e.2.2.2.2) from by rw [hq]; rfl) ▸ (OkC.i (fn_okL G25_ok hmx Tryz.func139 (bd_eq (by kernel_rfl)) _ _ (.cons (z_idxFlow2 l e) (.nil _)) hs) hs (by kernel_rfl) (by kernel_rfl) : OkC Tryz.prog 139 [(cL .flow).enc l, k_find2.enc e] (.I (bif small l then idxM l.length (fun i => isM (l.getD i (elDef .flow)) e.1 e.2.1 e.2.2.1 e.2.2.2.1 e.2.2.2.2) else 0)))
theorem e_idxFlow2 : EOk Tryz.prog 139 c_idxFlow2 := ent2_ok Tryz.call139 fun l e hq => o_idxFlow2 l e hq
def G26 : Ctx := G25.add [(139, c_idxFlow1), (139, c_idxFlow2), (44, c_sFlowsOK)]
theorem G26_ok : COk Tryz.prog G26 := G25_ok.add (CsOk.cons e_idxFlow1 (CsOk.cons e_idxFlow2 (CsOk.cons e_sFlowsOK (CsOk.nil))))
def findQ (l : List XFlow) (p a ap b bp : Int) (i : Nat) : Bool := isM (l.getD i (elDef .flow)) p a ap b bp
def findA (l : List XFlow) (p a ap b bp : Int) : Int := bif decide (idxM l.length (findQ l p a ap b bp) ≥ 0) then idxM l.length (findQ l p a ap b bp) else idxM l.length (findQ l p b bp a ap)
def findB (l : List XFlow) (p a ap b bp : Int) : Bool := bif decide (idxM l.length (findQ l p a ap b bp) ≥ 0) then false else decide (idxM l.length (findQ l p b bp a ap) ≥ 0)
def c_find : Entry := ent6 (cL .flow) cI cI cI cI cI fun l p a ap b bp => (.when (small l), .tup [.I (findA l p a ap b bp), .b (findB l p a ap b bp)])
theorem o_find (l : List XFlow) (p a ap b bp : Int) (hq : small l = true) : OkC Tryz.prog 138 [(cL .flow).enc l, cI.enc p, cI.enc a, cI.enc ap, cI.enc b, cI.enc bp] (.tup [.I (findA l p a ap b bp), .b (findB l p a ap b bp)]) :=
  have hs : Sf (fnT Tryz.prog G26 (fun _ _ => none) Tryz.f138 (bd Tryz.f138) [(cL .flow).enc l, cI.enc p, cI.enc a, cI.enc ap, cI.enc b, cI.enc bp]) := Sf.bads (b := bif small l then (bif decide (idxM l.length (findQ l p a ap b bp) ≥ 0) then false else bif small l then false else true) else true) (by kernel_rfl) (by rw [hq]; cases decide (idxM l.length (findQ l p a ap b bp) ≥ 0) <;> rfl) (by kernel_rfl)
  OkC.ib (fn_ok0 G26_ok hmx Tryz.func138 (bd_eq (by kernel_rfl)) _ hs) hs (by kernel_rfl)
    ((by kernel_rfl : _ = (bif small l then (bif decide (idxM l.length (findQ l p a ap b bp) ≥ 0) then idxM l.length (findQ l p a ap b bp) else bif small l then idxM l.length (findQ l p b bp a ap) else 0) else 0)).trans (by rw [hq]; rfl))
    ((by kernel_rfl : _ = (bif small l then (bif decide (idxM l.length (findQ l p a ap b bp) ≥ 0) then false else bif small l then decide (idxM l.length (findQ l p b bp a ap) ≥ 0) else false) else false)).trans (by rw [hq]; rfl))
theorem e_find : EOk Tryz.prog 138 c_find := ent6_ok Tryz.call138 fun l p a ap b bp hq => o_find l p a ap b bp hq
def G27 : Ctx := G26.add [(138, c_find)]
theorem G27_ok : COk Tryz.prog G27 := G26_ok.add (CsOk.cons e_find (CsOk.nil))
def flowI (l : List XFlow) (k : Nat) : Bool := bif flowEnds (gW l k) then (bif w_ (gW l k).state 1 3 then (bif w_ (gW l k).until_ 0 100100 then !(decide (findA (l.take k) (gW l k).proto (gW l k).srcIp (gW l k).srcPort (gW l k).dstIp (gW l k).dstPort ≥ 0)) else false) else false) else false
theorem small_take8 {α : Type} {l : List α} (h : l.length ≤ 8) (k : Nat) : small (l.take k) = true := by
  unfold small
  simp
  omega
def I_FiO (l : Cd.ty ((cL .flow))) (z : Int) : St := ⟨fr 67 [(0, .lst .flow l), (11, .I l.length), (12, .I z)], []⟩
theorem r_FiO (l : Cd.ty ((cL .flow))) (hn : l.length ≤ 8)  (h0 : 0 ≤ l.length) : Sat Tryz.prog 0 (.loop (lpb Tryz.f52 0)) (I_FiO l (0 : Nat)) (bif allF (fun i => flowI l i) (l.length) 0 then .exit 0 ⟨fr 67 [], []⟩ else .ret ⟨fr 67 [(2, .v (.bool false))], []⟩) :=
  sat_all (l.length) 0 h0 (I_FiO l) (fun i => flowI l i) 0 _ _ fun k h0 hk =>
    rnd_sat (v := ⟨[0, 11, 12], ids 0, [], ids 0, [2], []⟩) G27_ok hmx (noLoops (n := 1) (by kernel_rfl)) (n := 1) (L := fun _ _ => none) (SfO.bads (b := bif decide ((k : Int) < l.length) then (bif decide ((k : Int) < l.length) then (bif flowEnds (gW l k) then (bif w_ (gW l k).state 1 3 then (bif w_ (gW l k).until_ 0 100100 then (bif decide ((k : Int) ≤ l.length) then (bif small (l.take k) then false else true) else true) else false) else false) else false) else true) else false) (by kernel_rfl) ((by
    by_cases hlt : k < l.length
    · rw [bnd hlt, le_of hlt, small_take8 hn k]
      cases flowEnds (gW l k) <;> cases w_ (gW l k).state 1 3 <;> cases w_ (gW l k).until_ 0 100100 <;> rfl
    · rw [show decide ((k : Int) < l.length) = false from by simpa using hlt]; rfl)) (by kernel_rfl))
      ((by kernel_rfl : _ = (bif decide ((k : Int) < (l.length : Nat)) then (bif decide ((k : Int) < l.length) then (bif flowEnds (gW l k) then (bif w_ (gW l k).state 1 3 then (bif w_ (gW l k).until_ 0 100100 then (bif decide ((k : Int) ≤ l.length) then (bif small (l.take k) then (bif decide (findA (l.take k) (gW l k).proto (gW l k).srcIp (gW l k).srcPort (gW l k).dstIp (gW l k).dstPort ≥ 0) then .ret ⟨fr 67 [(2, .v (.bool false))], []⟩ else .nrm (I_FiO l (wr (k + 1)))) else default) else default) else .ret ⟨fr 67 [(2, .v (.bool false))], []⟩) else .ret ⟨fr 67 [(2, .v (.bool false))], []⟩) else .ret ⟨fr 67 [(2, .v (.bool false))], []⟩) else default) else .exit 0 ⟨fr 67 [], []⟩)).trans (all_eq fun hk => ((by
    rw [bnd hk, wrs hk (by omega), le_of hk, small_take8 hn k]
    unfold flowI
    cases flowEnds (gW l k) <;> cases w_ (gW l k).state 1 3 <;> cases w_ (gW l k).until_ 0 100100 <;> cases decide (findA (l.take k) (gW l k).proto (gW l k).srcIp (gW l k).srcPort (gW l k).dstIp (gW l k).dstPort ≥ 0) <;> rfl))))
def S_FiO (l : Cd.ty ((cL .flow))) : LoopSpec := ⟨[0, 11, 12], ids 0, I_FiO l (0 : Nat), (.node (decide (l.length ≤ 8)) (.node (allF (fun i => flowI l i) (l.length) 0) (.leaf (.exit 0 ⟨fr 67 [], []⟩)) (.leaf (.ret ⟨fr 67 [(2, .v (.bool false))], []⟩))) .bad), []⟩
theorem z_FiO (l : Cd.ty ((cL .flow)))  : SpecOk Tryz.prog Tryz.f52 0 ⟨[0, 11, 12], ids 0, I_FiO l (0 : Nat), (.node (decide (l.length ≤ 8)) (.node (allF (fun i => flowI l i) (l.length) 0) (.leaf (.exit 0 ⟨fr 67 [], []⟩)) (.leaf (.ret ⟨fr 67 [(2, .v (.bool false))], []⟩))) .bad), []⟩ := .mkW fun hq => r_FiO l (of_decide_eq_true hq) (Nat.zero_le _)
theorem idx_ge {n : Nat} {q : Nat → Bool} : decide (idxM n q ≥ 0) = anyN n q := idxM_ge
theorem flowI_eq {l : List XFlow} {k : Nat} (hk : k < l.length) : flowI l k = flowP l k := by
  have e : decide (findA (l.take k) (gW l k).proto (gW l k).srcIp (gW l k).srcPort (gW l k).dstIp (gW l k).dstPort ≥ 0) = !(allN k (fun i => !(bothM (gW l i) (gW l k)))) := by
    have e1 : ∀ p a ap b bp, anyN (l.take k).length (findQ (l.take k) p a ap b bp) = anyN k (findQ l p a ap b bp) := fun p a ap b bp => by
      rw [List.length_take, Nat.min_eq_left (Nat.le_of_lt hk)]
      rw [Bool.eq_iff_iff]
      simp only [anyN, List.any_eq_true, List.mem_range]
      refine exists_congr fun i => and_congr_right fun hi => ?_
      unfold findQ
      rw [show (l.take k).getD i (elDef .flow) = l.getD i (elDef .flow) from by rw [List.getD_eq_getElem?_getD, List.getD_eq_getElem?_getD, List.getElem?_take, if_pos hi]]
    have e2 : allN k (fun i => !(bothM (gW l i) (gW l k))) = !(anyN k (findQ l (gW l k).proto (gW l k).srcIp (gW l k).srcPort (gW l k).dstIp (gW l k).dstPort) || anyN k (findQ l (gW l k).proto (gW l k).dstIp (gW l k).dstPort (gW l k).srcIp (gW l k).srcPort)) := by
      rw [Bool.eq_iff_iff]
      simp only [allN, anyN, List.all_eq_true, Bool.not_eq_true', Bool.or_eq_false_iff, List.any_eq_false, List.mem_range, Bool.not_eq_true]
      unfold bothM findQ gW
      constructor
      · intro h
        refine ⟨fun i hi => ?_, fun i hi => ?_⟩
        · have := h i hi
          revert this
          cases isM (l.getD i (elDef .flow)) (l.getD k (elDef .flow)).proto (l.getD k (elDef .flow)).srcIp (l.getD k (elDef .flow)).srcPort (l.getD k (elDef .flow)).dstIp (l.getD k (elDef .flow)).dstPort <;> simp
        · have := h i hi
          revert this
          cases isM (l.getD i (elDef .flow)) (l.getD k (elDef .flow)).proto (l.getD k (elDef .flow)).srcIp (l.getD k (elDef .flow)).srcPort (l.getD k (elDef .flow)).dstIp (l.getD k (elDef .flow)).dstPort <;> simp
      · intro h i hi
        rw [h.1 i hi, h.2 i hi]; rfl
    rw [e2, Bool.not_not]
    unfold findA
    rw [idx_ge, e1]
    cases h1 : anyN k (findQ l (gW l k).proto (gW l k).srcIp (gW l k).srcPort (gW l k).dstIp (gW l k).dstPort)
    · simp only [cond_false, Bool.false_or]
      rw [idx_ge, e1]
    · simp only [cond_true, Bool.true_or]
      rw [idx_ge, e1]; exact h1
  unfold flowI flowP flowOK
  rw [e, Bool.not_not]
  cases flowEnds (gW l k) <;> cases w_ (gW l k).state 1 3 <;> cases w_ (gW l k).until_ 0 100100 <;> rfl
theorem flows_eq {l : List XFlow} : allN l.length (flowI l) = allN l.length (flowP l) := by
  rw [Bool.eq_iff_iff, allN_iff, allN_iff]
  exact forall_congr' fun k => forall_congr' fun hk => by rw [flowI_eq hk]
def c_FlowsOK : Entry := ent1 (cL .flow) fun l => (.yes, .b (flowsM l))
theorem o_FlowsOK : ∀ (l : Cd.ty ((cL .flow))), OkC Tryz.prog 52 [(cL .flow).enc l] (.b (flowsM l)) := fun l =>
  have hs : Sf (fnT Tryz.prog G27 (Ls [S_FiO l]) Tryz.f52 (bd Tryz.f52) [(cL .flow).enc l]) := Sf.obls (b := bif decide ((l.length : Int) > 8) then false else bif decide (l.length ≤ 8) then false else true) (by kernel_rfl) ((by
    cases h2 : decide ((l.length : Int) > 8) <;> try rfl
    rw [le_m (m := 8) h2]; rfl)) (l := [I_FiO l (0 : Nat) = I_FiO l (0 : Nat)]) (by kernel_rfl) (by simp)
  (show (bif decide ((l.length : Int) > 8) then false else bif decide (l.length ≤ 8) then (bif allF (fun i => flowI l i) l.length 0 then true else false) else false) = (flowsM l) from (by
    unfold flowsM
    cases h2 : decide ((l.length : Int) > 8)
    · rw [le_m (m := 8) h2, allF_zero, ← flows_eq]
      show (bif allN l.length (flowI l) then true else false) = allN l.length (flowI l)
      cases allN l.length (flowI l) <;> rfl
    · rfl)) ▸ (OkC.b (fn_okL G27_ok hmx Tryz.func52 (bd_eq (by kernel_rfl)) _ _ (.cons (z_FiO l) (.nil _)) hs) hs (by kernel_rfl) (by kernel_rfl) : OkC Tryz.prog 52 [(cL .flow).enc l] (.b (bif decide ((l.length : Int) > 8) then false else bif decide (l.length ≤ 8) then (bif allF (fun i => flowI l i) l.length 0 then true else false) else false)))
theorem e_FlowsOK : EOk Tryz.prog 52 c_FlowsOK := ent1_ok Tryz.call52 fun l hq => o_FlowsOK l
def G28 : Ctx := G27.add [(52, c_FlowsOK)]
theorem G28_ok : COk Tryz.prog G28 := G27_ok.add (CsOk.cons e_FlowsOK (CsOk.nil))
end Go.Proofs.YthlebalbiokjpaaGreat
