/- The law's size of a gateway: what it says. -/
import Derived.Test.YthlebalbiokjpaaGreatKh30
namespace Go.Proofs.YthlebalbiokjpaaGreat
open Go.RowKit
set_option linter.unusedVariables false
set_option maxRecDepth 100000

abbrev M63 : Nat := 9223372036854775807
def Rg (a : Int) : Prop := 0 ≤ a ∧ a ≤ 1048576
/-- What is left of left. -/
def Sz (left r : Int) : Prop := r = -1 ∨ (0 ≤ r ∧ r ≤ left)
theorem Rg.sub {a b : Int} (h : Rg a) (h0 : 0 ≤ b) (hb : b ≤ a) : Rg b := ⟨h0, by have := h.2; omega⟩
theorem Sz.trans {a b c : Int} (h : Sz a b) (hb : 0 ≤ b) (k : Sz b c) : Sz a c := by
  unfold Sz at *
  omega
theorem wr_sub {left : Int} {n : Nat} (h : Rg left) (hn : n ≤ M63) : wr (left - n) = left - n := by
  have hn : n ≤ 9223372036854775807 := hn
  exact wr_in (by have := h.1; omega) (by have := h.2; omega)
theorem szM_ok {left : Int} {n : Nat} (h : Rg left) (hn : n ≤ M63) : Sz left (szM left n) ∧ (0 ≤ szM left n → (n : Int) ≤ left) := by
  unfold szM Sz
  rw [wr_sub h hn]
  by_cases hc : left - n < 0
  · rw [decide_eq_true hc]; simp
  · rw [decide_eq_false hc]; simp; omega
theorem szC_ok {left : Int} {n : Nat} {F : Int → Int} {X : Prop} (h : Rg left) (hn : n ≤ M63) (hF : ∀ a, Rg a → a ≤ left → Sz a (F a) ∧ (0 ≤ F a → X)) : Sz left (szC left n F) ∧ (0 ≤ szC left n F → X) := by
  unfold szC
  rw [wr_sub h hn]
  by_cases hc : left - n < 0
  · rw [decide_eq_true hc]; exact ⟨.inl rfl, fun h => by simp at h⟩
  · rw [decide_eq_false hc]
    have := hF (left - n) ⟨by omega, by have := h.2; omega⟩ (by omega)
    refine ⟨?_, this.2⟩
    simp only [cond_false]
    have h1 := this.1
    unfold Sz at h1 ⊢
    omega
theorem loop_ok {A : Nat → Int} {n : Nat} {left : Int} {C : Nat → Int → Int} {X : Nat → Prop} (hA0 : A 0 = wr (left - n)) (hA : ∀ k, A (k + 1) = C k (A k)) (hC : ∀ k a, k < n → Rg a → Sz a (C k a) ∧ (0 ≤ C k a → X k)) (h : Rg left) (hn : n ≤ M63) :
    Sz left (bif decide (wr (left - n) < 0) then -1 else (bif allF (fun i => !(decide (A (i + 1) < 0))) n 0 then A n else -1)) ∧ (0 ≤ (bif decide (wr (left - n) < 0) then -1 else (bif allF (fun i => !(decide (A (i + 1) < 0))) n 0 then A n else -1)) → (n : Int) ≤ left ∧ ∀ k, k < n → X k) := by
  rw [wr_sub h hn] at hA0 ⊢
  by_cases hc : left - n < 0
  · rw [decide_eq_true hc]; exact ⟨.inl rfl, fun h => by simp at h⟩
  · rw [decide_eq_false hc]
    simp only [cond_false]
    cases hall : allF (fun i => !(decide (A (i + 1) < 0))) n 0 with
    | false => exact ⟨.inl rfl, fun h => by simp at h⟩
    | true =>
      simp only [cond_true]
      rw [allF_zero] at hall
      have hpos : ∀ i, i < n → 0 ≤ A (i + 1) := fun i hi => by
        have := allN_iff.1 hall i hi
        simp at this
        exact this
      have key : ∀ i, i ≤ n → Rg (A i) ∧ A i ≤ left := by
        intro i
        induction i with
        | zero => intro _; rw [hA0]; exact ⟨⟨by omega, by have := h.2; omega⟩, by omega⟩
        | succ i ih =>
          intro hi
          obtain ⟨h1, h2⟩ := ih (by omega)
          have h3 := (hC i (A i) (by omega) h1).1
          have h4 := hpos i (by omega)
          rw [hA] at h4 ⊢
          unfold Sz at h3
          exact ⟨⟨h4, by have := h1.2; omega⟩, by omega⟩
      obtain ⟨h1, h2⟩ := key n (Nat.le_refl _)
      refine ⟨.inr ⟨h1.1, h2⟩, fun _ => ⟨by omega, fun k hk => ?_⟩⟩
      have h3 := (hC k (A k) hk (key k (by omega)).1).2
      have h4 := hpos k hk
      rw [hA] at h4
      exact h3 h4
/-! ## Sizes that fit in memory -/
def fS (t : ByteArray) : Bool := decide (t.size ≤ M63)
def fN {α : Type} (l : List α) : Bool := decide (l.length ≤ M63)
theorem fS_ok {t : ByteArray} (h : fS t = true) : t.size ≤ M63 := of_decide_eq_true h
theorem fN_ok {α : Type} {l : List α} (h : fN l = true) : l.length ≤ M63 := of_decide_eq_true h
def fL {α : Type} (l : List α) (f : α → Bool) : Bool := fN l && l.all f
theorem fL_ok {k : Kd} {l : List (El k)} {f : El k → Bool} (h : fL l f = true) : l.length ≤ M63 ∧ ∀ i, i < l.length → f (l.getD i (elDef k)) = true := by
  obtain ⟨h1, h2⟩ := and2 h
  refine ⟨fN_ok h1, fun i hi => ?_⟩
  rw [List.getD_eq_getElem?_getD, List.getElem?_eq_getElem hi]
  exact List.all_eq_true.1 h2 _ (List.getElem_mem hi)
def fUser (u : XUser) : Bool := fS u.name && (fS u.salt && (fS u.hash && fS u.role))
def fConn (c : XConn) : Bool := fS c.mac && (fS c.in_ && fS c.out)
def fRole (r : XRole) : Bool := fS r.name && fN r.rules
def fConfig (c : XConfig) : Bool := fS c.gateMac && (fS c.wanMac && (fN c.garden && fL c.roles fRole))
def fGuests (g : XGuests) : Bool := fL g.users fUser && (fL g.sessions (fun s => fS s.mac) && (fL g.fails (fun s => fS s.mac) && fN g.records))
def fGateway (x : XGateway) : Bool := fConfig (cfgOf x) && (fGuests (gstOf x) && (fL x.flows (fun s => fS s.mac) && fL x.conns fConn))
section
variable {left : Int}
theorem szFailS_ok {l : List XFail} (h : Rg left) (hf : fL l (fun s => fS s.mac) = true) : Sz left (V_szFailS l left) ∧ (0 ≤ V_szFailS l left → (l.length : Int) ≤ left ∧ ∀ k, k < l.length → True) :=
  loop_ok (A := A_szFailS l left) (C := fun k a => szM a (l.getD k (elDef .fail)).mac.size) (X := fun _ => True) rfl (fun _ => rfl) (fun k a hk ha => ⟨(szM_ok ha (fS_ok ((fL_ok (k := .fail) hf).2 k hk))).1, fun _ => trivial⟩) h (fL_ok (k := .fail) hf).1
theorem szFlowS_ok {l : List XFlow} (h : Rg left) (hf : fL l (fun s => fS s.mac) = true) : Sz left (V_szFlowS l left) ∧ (0 ≤ V_szFlowS l left → (l.length : Int) ≤ left ∧ ∀ k, k < l.length → True) :=
  loop_ok (A := A_szFlowS l left) (C := fun k a => szM a (l.getD k (elDef .flow)).mac.size) (X := fun _ => True) rfl (fun _ => rfl) (fun k a hk ha => ⟨(szM_ok ha (fS_ok ((fL_ok (k := .flow) hf).2 k hk))).1, fun _ => trivial⟩) h (fL_ok (k := .flow) hf).1
theorem szSessionS_ok {l : List XSession} (h : Rg left) (hf : fL l (fun s => fS s.mac) = true) : Sz left (V_szSessionS l left) ∧ (0 ≤ V_szSessionS l left → (l.length : Int) ≤ left ∧ ∀ k, k < l.length → True) :=
  loop_ok (A := A_szSessionS l left) (C := fun k a => szM a (l.getD k (elDef .session)).mac.size) (X := fun _ => True) rfl (fun _ => rfl) (fun k a hk ha => ⟨(szM_ok ha (fS_ok ((fL_ok (k := .session) hf).2 k hk))).1, fun _ => trivial⟩) h (fL_ok (k := .session) hf).1
theorem szConnS_ok {l : List XConn} (h : Rg left) (hf : fL l fConn = true) : Sz left (V_szConnS l left) ∧ (0 ≤ V_szConnS l left → (l.length : Int) ≤ left ∧ ∀ k, k < l.length → True) :=
  loop_ok (A := A_szConnS l left) (C := fun k a => szC a (l.getD k (elDef .conn)).mac.size fun a => szC a (l.getD k (elDef .conn)).in_.size fun b => szM b (l.getD k (elDef .conn)).out.size) (X := fun _ => True) rfl (fun _ => rfl) (fun k a hk ha => by
    have hk := (fL_ok (k := .conn) hf).2 k hk
    obtain ⟨g1, g2⟩ := and2 hk
    obtain ⟨g2, g3⟩ := and2 g2
    exact szC_ok ha (fS_ok g1) fun b hb _ => szC_ok hb (fS_ok g2) fun d hd _ => ⟨(szM_ok hd (fS_ok g3)).1, fun _ => trivial⟩) h (fL_ok (k := .conn) hf).1
theorem szUserS_ok {l : List XUser} (h : Rg left) (hf : fL l fUser = true) : Sz left (V_szUserS l left) ∧ (0 ≤ V_szUserS l left → (l.length : Int) ≤ left ∧ ∀ k, k < l.length → True) :=
  loop_ok (A := A_szUserS l left) (C := fun k a => szC a (l.getD k (elDef .user)).name.size fun a => szC a (l.getD k (elDef .user)).salt.size fun b => szC b (l.getD k (elDef .user)).hash.size fun d => szM d (l.getD k (elDef .user)).role.size) (X := fun _ => True) rfl (fun _ => rfl) (fun k a hk ha => by
    have hk := (fL_ok (k := .user) hf).2 k hk
    obtain ⟨g1, g2⟩ := and2 hk
    obtain ⟨g2, g3⟩ := and2 g2
    obtain ⟨g3, g4⟩ := and2 g3
    exact szC_ok ha (fS_ok g1) fun b hb _ => szC_ok hb (fS_ok g2) fun d hd _ => szC_ok hd (fS_ok g3) fun e he _ => ⟨(szM_ok he (fS_ok g4)).1, fun _ => trivial⟩) h (fL_ok (k := .user) hf).1
theorem neg1_ok {left v : Int} {F : Int → Int} {X Y : Prop} (hv : Sz left v ∧ (0 ≤ v → Y)) (hF : 0 ≤ v → v ≤ left → Sz v (F v) ∧ (0 ≤ F v → X)) : Sz left (bif decide (v < 0) then -1 else F v) ∧ (0 ≤ (bif decide (v < 0) then -1 else F v) → Y ∧ X) := by
  by_cases hc : v < 0
  · rw [decide_eq_true hc]; exact ⟨.inl rfl, fun h => by simp at h⟩
  · rw [decide_eq_false hc]
    simp only [cond_false]
    have h1 := hv.1
    unfold Sz at h1
    obtain ⟨h2, h3⟩ := hF (by omega) (by omega)
    refine ⟨?_, fun h => ⟨hv.2 (by omega), h3 h⟩⟩
    unfold Sz at h2 ⊢
    omega
theorem szRoleS_ok {l : List XRole} (h : Rg left) (hf : fL l fRole = true) : Sz left (V_szRoleS l left) ∧ (0 ≤ V_szRoleS l left → (l.length : Int) ≤ left ∧ ∀ k, k < l.length → ((l.getD k (elDef .role)).rules.length : Int) ≤ 1048576) :=
  loop_ok (A := A_szRoleS l left) (C := fun k a => szRoleM a (l.getD k (elDef .role))) (X := fun k => ((l.getD k (elDef .role)).rules.length : Int) ≤ 1048576) rfl (fun _ => rfl) (fun k a hk ha => by
    have hk := (fL_ok (k := .role) hf).2 k hk
    obtain ⟨g1, g2⟩ := and2 hk
    unfold szRoleM
    refine szC_ok ha (fS_ok g1) fun b hb _ => ?_
    have h1 := szM_ok hb (fN_ok g2)
    have h2 := neg1_ok (F := fun v => v) (X := True) h1 fun h0 _ => ⟨.inr ⟨h0, Int.le_refl _⟩, fun _ => trivial⟩
    exact ⟨h2.1, fun h => by have := (h2.2 h).1; have := hb.2; omega⟩) h (fL_ok (k := .role) hf).1
end
/-! ## Whole -/
def szConfigM (x : XConfig) (left : Int) : Int := szC left x.gateMac.size fun a => szC a x.wanMac.size fun b => bif decide (szM b x.garden.length < 0) then -1 else (bif decide (V_szRoleS x.roles (szM b x.garden.length) < 0) then -1 else V_szRoleS x.roles (szM b x.garden.length))
def szConfigT (x : XConfig) (left : Int) : Int := szC left x.gateMac.size fun a => szC a x.wanMac.size fun b => bif decide (szM b x.garden.length < 0) then -1 else (bif szW (szM b x.garden.length) x.roles.length then (bif decide (V_szRoleS x.roles (szM b x.garden.length) < 0) then -1 else V_szRoleS x.roles (szM b x.garden.length)) else 0)
def szConfigB (x : XConfig) (left : Int) : Bool := bif decide (wr (left - x.gateMac.size) < 0) then false else (bif decide (wr (wr (left - x.gateMac.size) - x.wanMac.size) < 0) then false else (bif decide (szM (wr (wr (left - x.gateMac.size) - x.wanMac.size)) x.garden.length < 0) then false else (bif szW (szM (wr (wr (left - x.gateMac.size) - x.wanMac.size)) x.garden.length) x.roles.length then false else true)))
def wL (left : Int) : Bool := w_ left 0 1048576
theorem wL_ok {left : Int} (h : wL left = true) : Rg left := w_true.1 h
theorem szW_of {left : Int} {n : Nat} (h : Rg left) (hn : n ≤ M63) : szW left n = true := by
  unfold szW
  rw [show w_ left 0 1048576 = true from w_true.2 h, decide_eq_true hn]; rfl
theorem szConfig_ok {x : XConfig} {left : Int} (h : Rg left) (hf : fConfig x = true) : szConfigB x left = false ∧ szConfigT x left = szConfigM x left ∧ Sz left (szConfigM x left) ∧ (0 ≤ szConfigM x left → (x.garden.length : Int) ≤ 1048576 ∧ (x.roles.length : Int) ≤ 1048576 ∧ ∀ k, k < x.roles.length → ((x.roles.getD k (elDef .role)).rules.length : Int) ≤ 1048576) := by
  obtain ⟨f1, f2⟩ := and2 hf
  obtain ⟨f2, f3⟩ := and2 f2
  obtain ⟨f3, f4⟩ := and2 f3
  have hr := (fL_ok (k := .role) f4).1
  have hW : ∀ b, Rg b → decide (szM b x.garden.length < 0) = false → szW (szM b x.garden.length) x.roles.length = true := fun b hb hd => by
    have h1 := (szM_ok hb (fN_ok f3)).1
    have h2 := of_decide_eq_false hd
    unfold Sz at h1
    exact szW_of ⟨by omega, by have := hb.2; omega⟩ hr
  refine ⟨?_, ?_, ?_⟩
  · unfold szConfigB
    rw [wr_sub h (fS_ok f1)]
    by_cases c1 : left - x.gateMac.size < 0
    · rw [decide_eq_true c1]; rfl
    · have hb : Rg (left - x.gateMac.size) := ⟨by omega, by have := h.2; omega⟩
      rw [decide_eq_false c1, wr_sub hb (fS_ok f2)]
      by_cases c2 : left - x.gateMac.size - x.wanMac.size < 0
      · rw [decide_eq_true c2]; rfl
      · have hb2 : Rg (left - x.gateMac.size - x.wanMac.size) := ⟨by omega, by have := hb.2; omega⟩
        rw [decide_eq_false c2]
        cases c3 : decide (szM (left - x.gateMac.size - x.wanMac.size) x.garden.length < 0) with
        | true => rfl
        | false => rw [hW _ hb2 c3]; rfl
  · unfold szConfigT szConfigM szC
    rw [wr_sub h (fS_ok f1)]
    by_cases c1 : left - x.gateMac.size < 0
    · rw [decide_eq_true c1]; rfl
    · have hb : Rg (left - x.gateMac.size) := ⟨by omega, by have := h.2; omega⟩
      rw [decide_eq_false c1]
      simp only [cond_false]
      rw [wr_sub hb (fS_ok f2)]
      by_cases c2 : left - x.gateMac.size - x.wanMac.size < 0
      · rw [decide_eq_true c2]; rfl
      · have hb2 : Rg (left - x.gateMac.size - x.wanMac.size) := ⟨by omega, by have := hb.2; omega⟩
        rw [decide_eq_false c2]
        simp only [cond_false]
        cases c3 : decide (szM (left - x.gateMac.size - x.wanMac.size) x.garden.length < 0) with
        | true => rfl
        | false => rw [hW _ hb2 c3]; rfl
  · unfold szConfigM
    refine szC_ok h (fS_ok f1) fun a ha _ => szC_ok ha (fS_ok f2) fun b hb _ => ?_
    have := neg1_ok (F := fun v => bif decide (V_szRoleS x.roles v < 0) then -1 else V_szRoleS x.roles v) (szM_ok hb (fN_ok f3)) fun h0 hle => neg1_ok (F := fun v => v) (X := True) (szRoleS_ok (l := x.roles) (hb.sub h0 hle) f4) fun h0 _ => ⟨.inr ⟨h0, Int.le_refl _⟩, fun _ => trivial⟩
    refine ⟨this.1, fun h => ?_⟩
    obtain ⟨g1, ⟨g2, g3⟩, -⟩ := this.2 h
    have := hb.2
    have h9 := (szM_ok hb (fN_ok f3)).1
    unfold Sz at h9
    exact ⟨by omega, by omega, g3⟩
def c_szConfig : Entry := ent2 (cA0 .config) cI fun x left => (.when (wL left && fConfig x), .I (szConfigM x left))
theorem o_szConfig : ∀ x left, (wL left && fConfig x) = true → OkC Tryz.prog 16 [(cA0 .config).enc x, cI.enc left] (.I (szConfigM x left)) := fun x left hq =>
  have hs : Sf (fnT Tryz.prog G52 (fun _ _ => none) Tryz.f16 (bd Tryz.f16) [(cA0 .config).enc x, cI.enc left]) := Sf.bads (b := szConfigB x left) (by kernel_rfl) (((szConfig_ok (wL_ok (and2 hq).1) (and2 hq).2).1)) (by kernel_rfl)
  (show (szConfigT x left) = (szConfigM x left) from ((szConfig_ok (wL_ok (and2 hq).1) (and2 hq).2).2.1)) ▸ (OkC.i (fn_ok0 G52_ok hmx Tryz.func16 (bd_eq (by kernel_rfl)) _ hs) hs (by kernel_rfl) (by kernel_rfl) : OkC Tryz.prog 16 [(cA0 .config).enc x, cI.enc left] (.I (szConfigT x left)))
theorem e_szConfig : EOk Tryz.prog 16 c_szConfig := ent2_ok Tryz.call16 fun x left hq => o_szConfig x left hq
end Go.Proofs.YthlebalbiokjpaaGreat
