/- The law's size of a gateway, whole. | The law of GatewayOK, what it computes: true at every gateway that fits in memory. -/
import Derived.Test.YthlebalbiokjpaaGreatKhGz
namespace Go.Proofs.YthlebalbiokjpaaGreat
open Go.RowKit
set_option linter.unusedVariables false
set_option maxRecDepth 100000

def G53 : Ctx := G52.add [(16, c_szConfig)]
theorem G53_ok : COk Tryz.prog G53 := G52_ok.add (CsOk.cons e_szConfig (CsOk.nil))
/-- One step, whose callee asks something. -/
def stT {α : Type} (q : Bool) (v : Int) (z n : α) (F : α) : α := bif q then (bif decide (v < 0) then n else F) else z
def szGuestsT (x : XGuests) (left : Int) : Int :=
  let a := V_szUserS x.users left
  let b := V_szSessionS x.sessions a
  let c := V_szFailS x.fails b
  let d := szM c x.records.length
  stT (szW left x.users.length) a 0 (-1) (stT (szW a x.sessions.length) b 0 (-1) (stT (szW b x.fails.length) c 0 (-1) (bif decide (d < 0) then -1 else d)))
def szGuestsB (x : XGuests) (left : Int) : Bool :=
  let a := V_szUserS x.users left
  let b := V_szSessionS x.sessions a
  let c := V_szFailS x.fails b
  stT (szW left x.users.length) a true false (stT (szW a x.sessions.length) b true false (bif szW b x.fails.length then false else true))
def szGuestsM (x : XGuests) (left : Int) : Int :=
  bif decide (V_szUserS x.users left < 0) then -1 else (fun a => bif decide (V_szSessionS x.sessions a < 0) then -1 else (fun b => bif decide (V_szFailS x.fails b < 0) then -1 else (fun c => bif decide (szM c x.records.length < 0) then -1 else szM c x.records.length) (V_szFailS x.fails b)) (V_szSessionS x.sessions a)) (V_szUserS x.users left)
theorem Sz.rg {left v : Int} (h : Rg left) (hs : Sz left v) (hd : decide (v < 0) = false) : Rg v := by
  have := of_decide_eq_false hd
  unfold Sz at hs
  exact ⟨by omega, by have := h.2; omega⟩
theorem szGuests_ok {x : XGuests} {left : Int} (h : Rg left) (hf : fGuests x = true) : szGuestsB x left = false ∧ szGuestsT x left = szGuestsM x left ∧ Sz left (szGuestsM x left) ∧ (0 ≤ szGuestsM x left → (x.users.length : Int) ≤ 1048576 ∧ (x.sessions.length : Int) ≤ 1048576 ∧ (x.fails.length : Int) ≤ 1048576 ∧ (x.records.length : Int) ≤ 1048576) := by
  obtain ⟨f1, f2⟩ := and2 hf
  obtain ⟨f2, f3⟩ := and2 f2
  obtain ⟨f3, f4⟩ := and2 f3
  have n1 := (fL_ok (k := .user) f1).1
  have n2 := (fL_ok (k := .session) f2).1
  have n3 := (fL_ok (k := .fail) f3).1
  have u1 := fun {a : Int} (ha : Rg a) => szUserS_ok (l := x.users) ha f1
  have u2 := fun {a : Int} (ha : Rg a) => szSessionS_ok (l := x.sessions) ha f2
  have u3 := fun {a : Int} (ha : Rg a) => szFailS_ok (l := x.fails) ha f3
  refine ⟨?_, ?_, ?_⟩
  · unfold szGuestsB stT
    simp only [szW_of h n1, cond_true]
    cases c1 : decide (V_szUserS x.users left < 0) with
    | true => rfl
    | false =>
      have h1 := (u1 h).1.rg h c1
      simp only [szW_of h1 n2, cond_true, cond_false]
      cases c2 : decide (V_szSessionS x.sessions (V_szUserS x.users left) < 0) with
      | true => rfl
      | false =>
        have h2 := (u2 h1).1.rg h1 c2
        simp only [szW_of h2 n3, cond_true, cond_false]
  · unfold szGuestsT szGuestsM stT
    simp only [szW_of h n1, cond_true]
    cases c1 : decide (V_szUserS x.users left < 0) with
    | true => rfl
    | false =>
      have h1 := (u1 h).1.rg h c1
      simp only [szW_of h1 n2, cond_true, cond_false]
      cases c2 : decide (V_szSessionS x.sessions (V_szUserS x.users left) < 0) with
      | true => rfl
      | false =>
        have h2 := (u2 h1).1.rg h1 c2
        simp only [szW_of h2 n3, cond_true, cond_false]
  · unfold szGuestsM
    have key := neg1_ok (F := fun a => bif decide (V_szSessionS x.sessions a < 0) then -1 else (fun b => bif decide (V_szFailS x.fails b < 0) then -1 else (fun c => bif decide (szM c x.records.length < 0) then -1 else szM c x.records.length) (V_szFailS x.fails b)) (V_szSessionS x.sessions a)) (u1 h) fun h0 hle => neg1_ok (F := fun b => bif decide (V_szFailS x.fails b < 0) then -1 else (fun c => bif decide (szM c x.records.length < 0) then -1 else szM c x.records.length) (V_szFailS x.fails b)) (u2 (h.sub h0 hle)) fun h1 hle1 => neg1_ok (F := fun c => bif decide (szM c x.records.length < 0) then -1 else szM c x.records.length) (u3 ((h.sub h0 hle).sub h1 hle1)) fun h2 hle2 => neg1_ok (F := fun v => v) (X := True) (szM_ok (((h.sub h0 hle).sub h1 hle1).sub h2 hle2) (fN_ok f4)) fun h3 _ => ⟨.inr ⟨h3, Int.le_refl _⟩, fun _ => trivial⟩
    refine ⟨key.1, fun hp => ?_⟩
    obtain ⟨g1, g2, g3, g4, -⟩ := key.2 hp
    have e1 := (u1 h).1
    have r0 := h.2
    have p1 : 0 ≤ V_szUserS x.users left := by have := g2.1; unfold Sz at e1; omega
    have R1 := h.sub p1 (by unfold Sz at e1; omega)
    have e2 := (u2 R1).1
    have p2 : 0 ≤ V_szSessionS x.sessions (V_szUserS x.users left) := by have := g3.1; unfold Sz at e2; omega
    have R2 := R1.sub p2 (by unfold Sz at e2; omega)
    have e3 := (u3 R2).1
    have := R1.2
    have := R2.2
    have := g1.1
    have := g2.1
    have := g3.1
    refine ⟨by omega, by omega, by omega, ?_⟩
    unfold Sz at e3
    omega
def c_szGuests : Entry := ent2 (cA0 .guests) cI fun x left => (.when (wL left && fGuests x), .I (szGuestsM x left))
theorem o_szGuests : ∀ x left, (wL left && fGuests x) = true → OkC Tryz.prog 17 [(cA0 .guests).enc x, cI.enc left] (.I (szGuestsM x left)) := fun x left hq =>
  have hs : Sf (fnT Tryz.prog G53 (fun _ _ => none) Tryz.f17 (bd Tryz.f17) [(cA0 .guests).enc x, cI.enc left]) := Sf.bads (b := szGuestsB x left) (by kernel_rfl) (((szGuests_ok (wL_ok (and2 hq).1) (and2 hq).2).1)) (by kernel_rfl)
  (show (szGuestsT x left) = (szGuestsM x left) from ((szGuests_ok (wL_ok (and2 hq).1) (and2 hq).2).2.1)) ▸ (OkC.i (fn_ok0 G53_ok hmx Tryz.func17 (bd_eq (by kernel_rfl)) _ hs) hs (by kernel_rfl) (by kernel_rfl) : OkC Tryz.prog 17 [(cA0 .guests).enc x, cI.enc left] (.I (szGuestsT x left)))
theorem e_szGuests : EOk Tryz.prog 17 c_szGuests := ent2_ok Tryz.call17 fun x left hq => o_szGuests x left hq
def G54 : Ctx := G53.add [(17, c_szGuests)]
theorem G54_ok : COk Tryz.prog G54 := G53_ok.add (CsOk.cons e_szGuests (CsOk.nil))
def szGatewayT (x : XGateway) (left : Int) : Int :=
  let a := szConfigM (cfgOf x) left
  let b := szGuestsM (gstOf x) a
  let c := V_szFlowS x.flows b
  let d := V_szConnS x.conns c
  stT (wL left && fConfig (cfgOf x)) a 0 (-1) (stT (wL a && fGuests (gstOf x)) b 0 (-1) (stT (szW b x.flows.length) c 0 (-1) (stT (szW c x.conns.length) d 0 (-1) d)))
def szGatewayB (x : XGateway) (left : Int) : Bool :=
  let a := szConfigM (cfgOf x) left
  let b := szGuestsM (gstOf x) a
  let c := V_szFlowS x.flows b
  stT (wL left && fConfig (cfgOf x)) a true false (stT (wL a && fGuests (gstOf x)) b true false (stT (szW b x.flows.length) c true false (bif szW c x.conns.length then false else true)))
def szGatewayM (x : XGateway) (left : Int) : Int :=
  bif decide (szConfigM (cfgOf x) left < 0) then -1 else (fun a => bif decide (szGuestsM (gstOf x) a < 0) then -1 else (fun b => bif decide (V_szFlowS x.flows b < 0) then -1 else (fun c => bif decide (V_szConnS x.conns c < 0) then -1 else V_szConnS x.conns c) (V_szFlowS x.flows b)) (szGuestsM (gstOf x) a)) (szConfigM (cfgOf x) left)
theorem sm30_of {α : Type} {l : List α} (h : (l.length : Int) ≤ 1048576) : sm30 l = true := by unfold sm30; simp; omega
theorem small_of20 {α : Type} {l : List α} (h : (l.length : Int) ≤ 1048576) : small l = true := by unfold small; simp; omega
theorem wL_of {a : Int} (h : Rg a) : wL a = true := w_true.2 h
theorem szGateway_ok {x : XGateway} {left : Int} (h : Rg left) (hf : fGateway x = true) : szGatewayB x left = false ∧ szGatewayT x left = szGatewayM x left ∧ (0 ≤ szGatewayM x left → smG x = true ∧ smallG x = true) := by
  obtain ⟨f1, f2⟩ := and2 hf
  obtain ⟨f2, f3⟩ := and2 f2
  obtain ⟨f3, f4⟩ := and2 f3
  have n3 := (fL_ok (k := .flow) f3).1
  have n4 := (fL_ok (k := .conn) f4).1
  have u1 := fun {a : Int} (ha : Rg a) => (szConfig_ok (x := cfgOf x) ha f1).2.2
  have u2 := fun {a : Int} (ha : Rg a) => (szGuests_ok (x := gstOf x) ha f2).2.2
  have u3 := fun {a : Int} (ha : Rg a) => szFlowS_ok (l := x.flows) ha f3
  have u4 := fun {a : Int} (ha : Rg a) => szConnS_ok (l := x.conns) ha f4
  refine ⟨?_, ?_, ?_⟩
  · unfold szGatewayB stT
    simp only [wL_of h, f1, Bool.and_self, cond_true]
    cases c1 : decide (szConfigM (cfgOf x) left < 0) with
    | true => rfl
    | false =>
      have h1 := (u1 h).1.rg h c1
      simp only [wL_of h1, f2, Bool.and_self, cond_true, cond_false]
      cases c2 : decide (szGuestsM (gstOf x) (szConfigM (cfgOf x) left) < 0) with
      | true => rfl
      | false =>
        have h2 := (u2 h1).1.rg h1 c2
        simp only [szW_of h2 n3, cond_true, cond_false]
        cases c3 : decide (V_szFlowS x.flows (szGuestsM (gstOf x) (szConfigM (cfgOf x) left)) < 0) with
        | true => rfl
        | false =>
          have h3 := (u3 h2).1.rg h2 c3
          simp only [szW_of h3 n4, cond_true, cond_false]
  · unfold szGatewayT szGatewayM stT
    simp only [wL_of h, f1, Bool.and_self, cond_true]
    cases c1 : decide (szConfigM (cfgOf x) left < 0) with
    | true => rfl
    | false =>
      have h1 := (u1 h).1.rg h c1
      simp only [wL_of h1, f2, Bool.and_self, cond_true, cond_false]
      cases c2 : decide (szGuestsM (gstOf x) (szConfigM (cfgOf x) left) < 0) with
      | true => rfl
      | false =>
        have h2 := (u2 h1).1.rg h1 c2
        simp only [szW_of h2 n3, cond_true, cond_false]
        cases c3 : decide (V_szFlowS x.flows (szGuestsM (gstOf x) (szConfigM (cfgOf x) left)) < 0) with
        | true => rfl
        | false =>
          have h3 := (u3 h2).1.rg h2 c3
          simp only [szW_of h3 n4, cond_true, cond_false]
  · intro hp
    unfold szGatewayM at hp
    have key := neg1_ok (F := fun a => bif decide (szGuestsM (gstOf x) a < 0) then -1 else (fun b => bif decide (V_szFlowS x.flows b < 0) then -1 else (fun c => bif decide (V_szConnS x.conns c < 0) then -1 else V_szConnS x.conns c) (V_szFlowS x.flows b)) (szGuestsM (gstOf x) a)) (u1 h) fun h0 hle => neg1_ok (F := fun b => bif decide (V_szFlowS x.flows b < 0) then -1 else (fun c => bif decide (V_szConnS x.conns c < 0) then -1 else V_szConnS x.conns c) (V_szFlowS x.flows b)) (u2 (h.sub h0 hle)) fun h1 hle1 => neg1_ok (F := fun c => bif decide (V_szConnS x.conns c < 0) then -1 else V_szConnS x.conns c) (u3 ((h.sub h0 hle).sub h1 hle1)) fun h2 hle2 => neg1_ok (F := fun v => v) (X := True) (u4 (((h.sub h0 hle).sub h1 hle1).sub h2 hle2)) fun h3 _ => ⟨.inr ⟨h3, Int.le_refl _⟩, fun _ => trivial⟩
    obtain ⟨⟨g1, g1b, g1c⟩, ⟨g2a, g2b, g2c, g2d⟩, g3, g4, -⟩ := key.2 hp
    have r0 := h.2
    have e1 := (u1 h).1
    have hflow : (x.flows.length : Int) ≤ 1048576 ∧ (x.conns.length : Int) ≤ 1048576 := by
      by_cases c1 : szConfigM (cfgOf x) left < 0
      · rw [decide_eq_true c1] at hp; simp at hp
      · have R1 := e1.rg h (decide_eq_false c1)
        have e2 := (u2 R1).1
        rw [decide_eq_false c1] at hp
        simp only [cond_false] at hp
        by_cases c2 : szGuestsM (gstOf x) (szConfigM (cfgOf x) left) < 0
        · rw [decide_eq_true c2] at hp; simp at hp
        · have R2 := e2.rg R1 (decide_eq_false c2)
          have e3 := (u3 R2).1
          rw [decide_eq_false c2] at hp
          simp only [cond_false] at hp
          by_cases c3 : V_szFlowS x.flows (szGuestsM (gstOf x) (szConfigM (cfgOf x) left)) < 0
          · rw [decide_eq_true c3] at hp; simp at hp
          · have R3 := e3.rg R2 (decide_eq_false c3)
            have a1 := g3.1
            have a2 := g4.1
            have a3 := R2.2
            have a4 := R3.2
            exact ⟨by omega, by omega⟩
    have hR : ∀ (p : List XRule → Bool), (∀ l : List XRule, (l.length : Int) ≤ 1048576 → p l = true) → allN (cfgOf x).roles.length (fun i => p ((cfgOf x).roles.getD i (elDef .role)).rules) = true := fun p hp => allN_iff.2 fun i hi => hp _ (g1c i hi)
    refine ⟨?_, ?_⟩
    · unfold smG smC smU smR
      rw [sm30_of g1, sm30_of g1b, hR sm30 fun l => sm30_of, sm30_of g2a, sm30_of g2b, sm30_of g2c, sm30_of g2d, sm30_of hflow.1, sm30_of hflow.2]; rfl
    · unfold smallG smallC smallU smallR
      rw [small_of20 g1, small_of20 g1b, hR small fun l => small_of20, small_of20 g2a, small_of20 g2b, small_of20 g2c, small_of20 g2d, small_of20 hflow.1, small_of20 hflow.2]; rfl
def c_szGateway : Entry := ent2 (cA0 .gateway) cI fun x left => (.when (wL left && fGateway x), .I (szGatewayM x left))
theorem o_szGateway : ∀ x left, (wL left && fGateway x) = true → OkC Tryz.prog 11 [(cA0 .gateway).enc x, cI.enc left] (.I (szGatewayM x left)) := fun x left hq =>
  have hs : Sf (fnT Tryz.prog G54 (fun _ _ => none) Tryz.f11 (bd Tryz.f11) [(cA0 .gateway).enc x, cI.enc left]) := Sf.bads (b := szGatewayB x left) (by kernel_rfl) (((szGateway_ok (wL_ok (and2 hq).1) (and2 hq).2).1)) (by kernel_rfl)
  (show (szGatewayT x left) = (szGatewayM x left) from ((szGateway_ok (wL_ok (and2 hq).1) (and2 hq).2).2.1)) ▸ (OkC.i (fn_ok0 G54_ok hmx Tryz.func11 (bd_eq (by kernel_rfl)) _ hs) hs (by kernel_rfl) (by kernel_rfl) : OkC Tryz.prog 11 [(cA0 .gateway).enc x, cI.enc left] (.I (szGatewayT x left)))
theorem e_szGateway : EOk Tryz.prog 11 c_szGateway := ent2_ok Tryz.call11 fun x left hq => o_szGateway x left hq
def G55 : Ctx := G54.add [(11, c_szGateway), (13, c_toGateway), (15, c_eqGateway)]
theorem G55_ok : COk Tryz.prog G55 := G54_ok.add (CsOk.cons e_szGateway (CsOk.cons e_toGateway (CsOk.cons e_eqGateway (CsOk.nil))))
end Go.Proofs.YthlebalbiokjpaaGreat
namespace Go.Proofs.YthlebalbiokjpaaGreat
open Go.RowKit
set_option linter.unusedVariables false
set_option maxRecDepth 100000

def lawGT (x : XGateway) : Bool :=
  bif wL 1048576 && fGateway x then (bif decide (szGatewayM x 1048576 < 0) then true else (bif smG x then (bif small x.users && small x.conns then (bif smG x then (bif gatewayM x == gatewayM x then (bif smG x then (bif smallG x then (bif qGateway x x then true else false) else false) else false) else false) else false) else false) else false)) else false
def lawGB (x : XGateway) : Bool :=
  bif wL 1048576 && fGateway x then (bif decide (szGatewayM x 1048576 < 0) then false else (bif smG x then (bif small x.users && small x.conns then (bif smG x then (bif gatewayM x == gatewayM x then (bif smG x then (bif smallG x then false else true) else true) else false) else true) else true) else true)) else true
theorem lawG_sm {x : XGateway} (hf : fGateway x = true) : decide (szGatewayM x 1048576 < 0) = true ∨ (decide (szGatewayM x 1048576 < 0) = false ∧ smG x = true ∧ smallG x = true ∧ (small x.users && small x.conns) = true) := by
  by_cases h : szGatewayM x 1048576 < 0
  · exact .inl (decide_eq_true h)
  · obtain ⟨h1, h2⟩ := (szGateway_ok (x := x) (left := 1048576) ⟨by decide, by decide⟩ hf).2.2 (by omega)
    refine .inr ⟨decide_eq_false h, h1, h2, ?_⟩
    unfold smallG smallU at h2
    simp only [Bool.and_eq_true] at h2 ⊢
    exact ⟨h2.2.1.1, h2.2.2.2⟩
theorem lawGB_no {x : XGateway} (hf : fGateway x = true) : lawGB x = false := by
  unfold lawGB
  rw [hf, show wL 1048576 = true from by decide]
  rcases lawG_sm hf with h | ⟨h, h1, h2, h3⟩
  · rw [h]; rfl
  · rw [h, h1, h2, h3, beq_self_eq_true]; rfl
theorem lawGT_eq {x : XGateway} (hf : fGateway x = true) : lawGT x = true := by
  unfold lawGT
  rw [hf, show wL 1048576 = true from by decide]
  rcases lawG_sm hf with h | ⟨h, h1, h2, h3⟩
  · rw [h]; rfl
  · rw [h, h1, h2, h3, beq_self_eq_true, qGateway_refl]; rfl
def c_lawGatewayOK : Entry := ent1 (cA0 .gateway) fun x => (.when (fGateway x), .b (true))
theorem o_lawGatewayOK : ∀ x, (fGateway x) = true → OkC Tryz.prog 3 [(cA0 .gateway).enc x] (.b (true)) := fun x hq =>
  have hs : Sf (fnT Tryz.prog G55 (fun _ _ => none) Tryz.f3 (bd Tryz.f3) [(cA0 .gateway).enc x]) := Sf.bads (b := lawGB x) (by kernel_rfl) ((lawGB_no hq)) (by kernel_rfl)
  (show (lawGT x) = (true) from (lawGT_eq hq)) ▸ (OkC.b (fn_ok0 G55_ok hmx Tryz.func3 (bd_eq (by kernel_rfl)) _ hs) hs (by kernel_rfl) (by kernel_rfl) : OkC Tryz.prog 3 [(cA0 .gateway).enc x] (.b (lawGT x)))
theorem e_lawGatewayOK : EOk Tryz.prog 3 c_lawGatewayOK := ent1_ok Tryz.call3 fun x hq => o_lawGatewayOK x hq
end Go.Proofs.YthlebalbiokjpaaGreat
