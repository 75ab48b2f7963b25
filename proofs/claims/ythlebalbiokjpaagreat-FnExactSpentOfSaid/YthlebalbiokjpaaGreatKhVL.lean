/- Loops that look for something; what functions give, told by codecs. -/
import Derived.Test.YthlebalbiokjpaaGreatKh12
namespace Go.Proofs.YthlebalbiokjpaaGreat
open Go.RowKit
set_option linter.unusedVariables false
set_option linter.unusedSimpArgs false
/-- The first n, as they are. -/
def ids (n : Nat) : List Src0 := (List.range n).map .id
def Ctx.add (Γ : Ctx) (l : CtxC) : Ctx := ⟨l ++ Γ.c, Γ.x, Γ.kd⟩
def Ctx.addX (Γ : Ctx) (l : CtxX) : Ctx := ⟨Γ.c, l ++ Γ.x, Γ.kd⟩
def CsOk (P : Program) (l : CtxC) : Prop := ∀ e ∈ l, EOk P e.1 e.2
def XsOk (P : Program) (l : CtxX) : Prop := ∀ e ∈ l, XOk P e.1 e.2
theorem CsOk.nil {P : Program} : CsOk P [] := fun e he => by cases he
theorem CsOk.cons {P : Program} {l : CtxC} {f : FuncId} {h : Entry} (h1 : EOk P f h) (h2 : CsOk P l) : CsOk P ((f, h) :: l) := fun e he => by
  rcases List.mem_cons.1 he with rfl | he
  · exact h1
  · exact h2 e he
theorem XsOk.nil {P : Program} : XsOk P [] := fun e he => by cases he
theorem XsOk.cons {P : Program} {l : CtxX} {f : FuncId} {h : EntryX} (h1 : XOk P f h) (h2 : XsOk P l) : XsOk P ((f, h) :: l) := fun e he => by
  rcases List.mem_cons.1 he with rfl | he
  · exact h1
  · exact h2 e he
theorem COk.add {P : Program} {Γ : Ctx} {l : CtxC} (h : COk P Γ) (hl : CsOk P l) : COk P (Γ.add l) := ⟨fun e he => (List.mem_append.1 he).elim (hl e) (h.c e), h.x⟩
theorem COk.addX {P : Program} {Γ : Ctx} {l : CtxX} (h : COk P Γ) (hl : XsOk P l) : COk P (Γ.addX l) := ⟨h.c, fun e he => (List.mem_append.1 he).elim (hl e) (h.x e)⟩
theorem COk.none {P : Program} {kd : TypeId → Option Kd} : COk P ⟨[], [], kd⟩ := ⟨fun e he => (by cases he), fun e he => (by cases he)⟩
section
variable {P : Program} {Γ : Ctx} {L : Nat → St → Option LoopSpec}
/-- Safe, kept shut (or Lean reckons it out). -/
structure Sf (t : Tree Da) : Prop where
  out : t.safe
theorem Sf.chk {t : Tree Da} (h : t.chk = true) : Sf t := ⟨Tree.safe_of_chk h⟩
theorem Sf.bads {t : Tree Da} {b : Bool} (h : t.bads = b) (hb : b = false) (ho : t.noObl = true) : Sf t := ⟨Tree.safe_of_bads (h.trans hb) (Tree.obls_of_no ho)⟩
theorem Sf.obls {t : Tree Da} {b : Bool} {l : List Prop} (h : t.bads = b) (hb : b = false) (ho : t.oblL = l) (hl : ∀ p ∈ l, p) : Sf t := ⟨Tree.safe_of_bads (h.trans hb) (Tree.obls_of_list (by rw [ho]; exact hl))⟩
/-- Without a loop. -/
theorem fn_ok0 (hΓ : COk P Γ) (hmx : P.follows .mixedOrders = true) {f : FuncId} {fn : Func} {c : Code} (hf : P.funcs[f]? = some fn) (hb : fn.body = some c) (ds : List Da) (hs : Sf (fnT P Γ (fun _ _ => none) fn c ds)) : OkC P f ds (fnT P Γ (fun _ _ => none) fn c ds).get :=
  fn_ok hΓ hmx hf hb ds (fun k body _ s l hl => by cases hl) hs.out
theorem OkC.b {f : FuncId} {ds : List Da} {t : Tree Da} {F : Bool} (h : OkC P f ds t.get) (hs : Sf t) (hall : t.all (fun d => d.asB.isSome) = true) (hF : t.getBy (fun d => d.asB.getD false) false = F) : OkC P f ds (.b F) := by
  have h1 := Tree.all_get hs.out hall
  rw [Tree.getBy_eq hs.out] at hF
  generalize t.get = d at *
  obtain ⟨x, hx⟩ := Option.isSome_iff_exists.1 h1
  rw [hx] at hF
  simp only [Option.getD_some] at hF
  subst hF
  intro U w vs h1 h2 h3
  exact (h U w vs h1 h2 h3).mono fun e w' ⟨v, g1, g2, g3⟩ => ⟨v, g1, by rw [asB_eq g2 hx]; exact .b _ _, g3⟩
theorem OkC.d {f : FuncId} {ds : List Da} {t : Tree Da} {D : Da} (h : OkC P f ds t.get) (hs : Sf t) (hD : t.getBy id .any = D) : OkC P f ds D := by
  rw [Tree.getBy_eq hs.out] at hD
  exact hD ▸ h
def Da.asI : Da → Option Int
  | .v (.int .i64 n) => some n
  | _ => none
theorem OkC.i {f : FuncId} {ds : List Da} {t : Tree Da} {F : Int} (h : OkC P f ds t.get) (hs : Sf t) (hall : t.all (fun d => d.asI.isSome) = true) (hF : t.getBy (fun d => d.asI.getD 0) 0 = F) : OkC P f ds (.I F) := by
  have h1 := Tree.all_get hs.out hall
  rw [Tree.getBy_eq hs.out] at hF
  generalize t.get = d at *
  obtain ⟨x, hx⟩ := Option.isSome_iff_exists.1 h1
  rw [hx] at hF
  simp only [Option.getD_some] at hF
  subst hF
  have : d = .I x := by
    unfold Da.asI at hx
    split at hx <;> simp at hx
    subst hx; rfl
  subst this
  exact h
def Da.isPtr : Da → Bool
  | .ref _ => true
  | .v (.pointer none) => true
  | _ => false
def Da.isRef : Da → Bool
  | .ref _ => true
  | _ => false
def Da.refDs : Da → List Da
  | .ref ds => ds
  | _ => []
/-- An address, or nil. -/
theorem OkC.o {f : FuncId} {ds : List Da} {t : Tree Da} {c : Bool} {es : List Da} (h : OkC P f ds t.get) (hs : Sf t) (hall : t.all Da.isPtr = true) (hc : t.getBy Da.isRef false = c) (he : t.getBy Da.refDs [] = bif c then es else []) : OkC P f ds (.opt c es) := by
  have h1 := Tree.all_get hs.out hall
  rw [Tree.getBy_eq hs.out] at hc he
  generalize t.get = d at *
  subst hc
  intro U w vs g1 g2 g3
  refine (h U w vs g1 g2 g3).mono fun e w' ⟨v, k1, k2, k3⟩ => ⟨v, k1, ?_, k3⟩
  unfold Da.isPtr at h1
  split at h1 <;> try (cases h1; done)
  · simp only [Da.isRef, Da.refDs, cond_true] at he ⊢
    subst he
    exact .opt _ _ _ _ (fun _ => k2) fun hc => by cases hc
  · cases k2
    exact .opt _ _ _ _ (fun hc => by cases hc) fun _ => rfl
end
/-- Which temporaries and variables outlive a round, the loop, the function. -/
structure Live where
  keep : List Nat
  hs : List Src0
  keepX : List Nat
  hX : List Src0
  keepR : List Nat
  fz : List Nat
def wOut (n0 : Nat) (v : Live) : Out → Tree Out
  | .nrm s => bif okKeep n0 ⟨v.keep, v.hs, v.fz⟩ [] s then .leaf (.nrm (weaken ⟨v.keep, v.hs, v.fz⟩ s)) else .bad
  | .exit n s => bif okKeep n0 ⟨v.keepX, v.hX, v.fz⟩ [] s then .leaf (.exit n (weaken ⟨v.keepX, v.hX, v.fz⟩ s)) else .bad
  | .ret s => bif okKeep n0 ⟨v.keepR, ids n0, []⟩ [] s then .leaf (.ret (weaken ⟨v.keepR, ids n0, []⟩ s)) else .bad
section
variable {P : Program} {Γ : Ctx} {L : Nat → St → Option LoopSpec} {n0 : Nat}
theorem Sat.weak {c : Code} {s : St} {o : Out} (h : Sat P n0 c s o) (v : Live) (hs : (wOut n0 v o).safe) : Sat P n0 c s (wOut n0 v o).get := fun E m a W he0 hI =>
  wp_mono (h E m a W he0 hI) fun e a' W' he => by
    cases o with
    | nrm s =>
      obtain ⟨rfl, m', hI⟩ := he
      simp only [wOut] at hs ⊢
      cases hk : okKeep n0 ⟨v.keep, v.hs, v.fz⟩ [] s with
      | false => rw [hk] at hs; exact hs.elim
      | true => exact ⟨rfl, _, weaken_inv hI he0 hk⟩
    | exit n s =>
      obtain ⟨rfl, m', hI⟩ := he
      simp only [wOut] at hs ⊢
      cases hk : okKeep n0 ⟨v.keepX, v.hX, v.fz⟩ [] s with
      | false => rw [hk] at hs; exact hs.elim
      | true => exact ⟨rfl, _, weaken_inv hI he0 hk⟩
    | ret s =>
      obtain ⟨rfl, m', hI⟩ := he
      simp only [wOut] at hs ⊢
      cases hk : okKeep n0 ⟨v.keepR, ids n0, []⟩ [] s with
      | false => rw [hk] at hs; exact hs.elim
      | true => exact ⟨rfl, _, weaken_inv hI he0 hk⟩
/-- One round, as it is reckoned. -/
def rndT (P : Program) (Γ : Ctx) (L : Nat → St → Option LoopSpec) (n0 : Nat) (v : Live) (c : Code) (n : Nat) (s : St) : Tree Out := (evC P Γ L n0 c n s).bind (wOut n0 v)
structure SfO (t : Tree Out) : Prop where
  out : t.safe
theorem SfO.chk {t : Tree Out} (h : t.chk = true) : SfO t := ⟨Tree.safe_of_chk h⟩
theorem SfO.bads {t : Tree Out} {b : Bool} (h : t.bads = b) (hb : b = false) (ho : t.noObl = true) : SfO t := ⟨Tree.safe_of_bads (h.trans hb) (Tree.obls_of_no ho)⟩
theorem SfO.obls {t : Tree Out} {b : Bool} {l : List Prop} (h : t.bads = b) (hb : b = false) (ho : t.oblL = l) (hl : ∀ p ∈ l, p) : SfO t := ⟨Tree.safe_of_bads (h.trans hb) (Tree.obls_of_list (by rw [ho]; exact hl))⟩
theorem rnd_sat (hΓ : COk P Γ) (hmx : P.follows .mixedOrders = true) {v : Live} {c : Code} {n : Nat} {s : St} {o : Out} (hL : ∀ (k : Nat) (body : Code), (loopsIn c)[k]? = some body → ∀ s l, L (n + k) s = some l → l.T.safe → Sat P n0 (.loop body) l.s l.T.get)
    (hs : SfO (rndT P Γ L n0 v c n s)) (ho : (rndT P Γ L n0 v c n s).getBy id default = o) : Sat P n0 c s o := by
  obtain ⟨h1, h2⟩ := Tree.safe_bind hs.out
  rw [Tree.getBy_eq hs.out] at ho
  unfold rndT at ho
  rw [Tree.get_bind (by exact hs.out)] at ho
  subst ho
  exact (evC_sat hΓ hmx c n s hL h1).weak v h2
def allN (n : Nat) (p : Nat → Bool) : Bool := (List.range n).all p
/-- From i on. -/
def allF (p : Nat → Bool) (n i : Nat) : Bool := (List.range' i (n - i)).all p
theorem allF_step {p : Nat → Bool} {n i : Nat} (h : i < n) : allF p n i = (p i && allF p n (i + 1)) := by
  unfold allF
  rw [show n - i = (n - (i + 1)) + 1 by omega, List.range'_succ, List.all_cons]
theorem allF_end {p : Nat → Bool} {n : Nat} : allF p n n = true := by simp [allF]
theorem allF_zero {p : Nat → Bool} {n : Nat} : allF p n 0 = allN n p := by simp [allF, allN, List.range_eq_range']
/-- A loop that goes through 0 .. n - 1 and leaves the function where p fails. -/
theorem sat_all {c : Code} (n : Nat) (i0 : Nat) (hi0 : i0 ≤ n) (I : Int → St) (p : Nat → Bool) (e : Nat) (sX sR : St)
    (round : ∀ k : Nat, i0 ≤ k → k ≤ n → Sat P n0 c (I k) (bif decide (k < n) then (bif p k then .nrm (I (k + 1 : Nat)) else .ret sR) else .exit e sX)) :
    Sat P n0 (.loop c) (I i0) (bif allF p n i0 then .exit e sX else .ret sR) := by
  refine sat_loop (ι := Nat) (fun k => i0 ≤ k ∧ k ≤ n) (fun k => I (k : Nat)) (fun k => bif allF p n k then .exit e sX else .ret sR) (fun k => n - k) (fun k ⟨h0, hk⟩ => ?_) i0 ⟨Nat.le_refl _, hi0⟩
  have hr := round k h0 hk
  by_cases hlt : k < n
  · simp only [hlt, decide_true, cond_true] at hr
    cases hp : p k with
    | true =>
      rw [hp] at hr
      exact .inl ⟨k + 1, hr, ⟨by omega, hlt⟩, by omega, by rw [allF_step hlt, hp, Bool.true_and]⟩
    | false =>
      rw [hp] at hr
      rw [allF_step hlt, hp]
      exact .inr ⟨fun s' h => (by cases h), hr⟩
  · have : k = n := by omega
    subst this
    simp only [Nat.lt_irrefl, decide_false, cond_false] at hr
    rw [allF_end]
    exact .inr ⟨fun s' h => (by cases h), hr⟩
theorem allF_true (n i : Nat) {α : Type} (x y : α) : (bif allF (fun _ => true) n i then x else y) = x := by
  have : allF (fun _ => true) n i = true := by simp [allF]
  rw [this]; rfl
/-- Each cell in its turn. -/
def tosM {k : Kd} (l : List (El k)) : Nat → List (El k)
  | 0 => List.replicate l.length (elDef k)
  | i + 1 => (tosM l i).set (0 + i) (l.getD i (elDef k))
theorem tosM_len {k : Kd} (l : List (El k)) : ∀ i, (tosM l i).length = l.length
  | 0 => by simp [tosM]
  | i + 1 => by rw [tosM, List.length_set, tosM_len l i]
theorem tosM_get {k : Kd} (l : List (El k)) : ∀ (i j : Nat), j < i → i ≤ l.length → (tosM l i)[j]? = l[j]?
  | 0, j, h, _ => by omega
  | i + 1, j, h, hi => by
    rw [tosM, List.getElem?_set, Nat.zero_add]
    by_cases e : i = j
    · subst e
      rw [if_pos rfl, if_pos (by rw [tosM_len]; omega), List.getElem?_eq_getElem (by omega : i < l.length), List.getD_eq_getElem?_getD, List.getElem?_eq_getElem (by omega : i < l.length)]
      rfl
    · rw [if_neg e]
      exact tosM_get l i j (by omega) (by omega)
theorem tosM_all {k : Kd} (l : List (El k)) : (tosM l l.length).take l.length = l := by
  refine List.ext_getElem? fun j => ?_
  rw [List.getElem?_take]
  by_cases h : j < l.length
  · rw [if_pos h, tosM_get l l.length j h (Nat.le_refl _)]
  · rw [if_neg h, List.getElem?_eq_none (by omega)]
def sm30 {α : Type} (l : List α) : Bool := decide (l.length ≤ 1073741824)
theorem tos_le {α : Type} (l : List α) : decide ((l.length : Int) ≤ l.length) = true := by simp
theorem tos_sm {α : Type} (l : List α) (h : sm30 l = true) : decide ((l.length : Int) ≤ 1073741824) = true := by
  have := of_decide_eq_true h
  simp; omega
def anyN (n : Nat) (q : Nat → Bool) : Bool := (List.range n).any q
/-- The first one that q holds of. -/
def fstF (q : Nat → Bool) : Nat → Nat → Nat
  | 0, i => i
  | m + 1, i => bif q i then i else fstF q m (i + 1)
def fstN (n : Nat) (q : Nat → Bool) : Nat := fstF q n 0
def anyF (q : Nat → Bool) (n i : Nat) : Bool := (List.range' i (n - i)).any q
theorem anyF_step {q : Nat → Bool} {n i : Nat} (h : i < n) : anyF q n i = (q i || anyF q n (i + 1)) := by
  unfold anyF
  rw [show n - i = (n - (i + 1)) + 1 by omega, List.range'_succ, List.any_cons]
theorem anyF_end {q : Nat → Bool} {n : Nat} : anyF q n n = false := by simp [anyF]
theorem anyF_zero {q : Nat → Bool} {n : Nat} : anyF q n 0 = anyN n q := by simp [anyF, anyN, List.range_eq_range']
theorem anyN_all {n : Nat} {q : Nat → Bool} : anyN n q = !allN n (fun i => !q i) := by
  unfold anyN allN
  rw [List.any_eq_not_all_not]
/-- A loop that goes through 0 .. n - 1 and leaves the function where q holds. -/
theorem sat_find {c : Code} (n : Nat) (I : Int → St) (q : Nat → Bool) (e : Nat) (sX : St) (sR : Nat → St)
    (round : ∀ k : Nat, k ≤ n → Sat P n0 c (I k) (bif decide (k < n) then (bif q k then .ret (sR k) else .nrm (I (k + 1 : Nat))) else .exit e sX)) :
    Sat P n0 (.loop c) (I (0 : Nat)) (bif anyN n q then .ret (sR (fstN n q)) else .exit e sX) := by
  rw [← anyF_zero]
  refine sat_loop (ι := Nat) (fun k => k ≤ n) (fun k => I (k : Nat)) (fun k => bif anyF q n k then .ret (sR (fstF q (n - k) k)) else .exit e sX) (fun k => n - k) (fun k hk => ?_) 0 (Nat.zero_le _)
  have hr := round k hk
  by_cases hlt : k < n
  · simp only [hlt, decide_true, cond_true] at hr
    have hf : fstF q (n - k) k = bif q k then k else fstF q (n - (k + 1)) (k + 1) := by
      rw [show n - k = (n - (k + 1)) + 1 by omega]
      rfl
    cases hq : q k with
    | true =>
      rw [hq] at hr hf
      rw [anyF_step hlt, hq, hf]
      exact .inr ⟨fun s' h => (by cases h), hr⟩
    | false =>
      rw [hq] at hr hf
      exact .inl ⟨k + 1, hr, hlt, by omega, by rw [anyF_step hlt, hq, hf, Bool.false_or]; rfl⟩
  · have : k = n := by omega
    subst this
    simp only [Nat.lt_irrefl, decide_false, cond_false] at hr
    rw [anyF_end]
    exact .inr ⟨fun s' h => (by cases h), hr⟩
end
def bd (fn : Func) : Code := fn.body.getD .skip
theorem bd_eq {fn : Func} (h : fn.body.isSome = true) : fn.body = some (bd fn) := by
  unfold bd
  cases hb : fn.body with
  | none => rw [hb] at h; cases h
  | some c => rfl
/-- A function's loop. -/
def lpb (fn : Func) (k : Nat) : Code := (loopsIn (bd fn)).getD k .skip
def fr (n : Nat) (l : List (Nat × Da)) : List Da := l.foldl (fun a x => a.set x.1 x.2) (List.replicate n .any)
/-- What is known of a function's loops. -/
def Ls (l : List LoopSpec) : Nat → St → Option LoopSpec := fun n _ => l[n]?
structure SpecOkN (P : Program) (n0 : Nat) (fn : Func) (n : Nat) (l : LoopSpec) : Prop where
  out : l.T.safe → Sat P n0 (.loop (lpb fn n)) l.s l.T.get
abbrev SpecOk (P : Program) (fn : Func) (n : Nat) (l : LoopSpec) : Prop := SpecOkN P 0 fn n l
theorem SpecOkN.mk2 {P : Program} {n0 : Nat} {fn : Func} {n : Nat} {keep fz : List Nat} {hs : List Src0} {s : St} {a : Bool} {x y : Out} (h : Sat P n0 (.loop (lpb fn n)) s (bif a then x else y)) : SpecOkN P n0 fn n ⟨keep, hs, s, .node a (.leaf x) (.leaf y), fz⟩ := ⟨fun _ => h⟩
theorem SpecOkN.mk1 {P : Program} {n0 : Nat} {fn : Func} {n : Nat} {keep fz : List Nat} {hs : List Src0} {s : St} {q : Bool} {x : Out} (h : q = true → Sat P n0 (.loop (lpb fn n)) s x) : SpecOkN P n0 fn n ⟨keep, hs, s, .node q (.leaf x) .bad, fz⟩ := ⟨fun hT => by
  cases q
  · exact (hT.2 rfl).elim
  · exact h rfl⟩
theorem SpecOkN.mkW {P : Program} {n0 : Nat} {fn : Func} {n : Nat} {keep fz : List Nat} {hs : List Src0} {s : St} {q a : Bool} {x y : Out} (h : q = true → Sat P n0 (.loop (lpb fn n)) s (bif a then x else y)) : SpecOkN P n0 fn n ⟨keep, hs, s, .node q (.node a (.leaf x) (.leaf y)) .bad, fz⟩ := ⟨fun hT => by
  cases q
  · exact (hT.2 rfl).elim
  · exact h rfl⟩
inductive LsOkN (P : Program) (n0 : Nat) (fn : Func) : Nat → List LoopSpec → Prop
  | nil (n : Nat) : LsOkN P n0 fn n []
  | cons {n : Nat} {l : LoopSpec} {r : List LoopSpec} : SpecOkN P n0 fn n l → LsOkN P n0 fn (n + 1) r → LsOkN P n0 fn n (l :: r)
abbrev LsOk (P : Program) (fn : Func) (n : Nat) (r : List LoopSpec) : Prop := LsOkN P 0 fn n r
theorem LsOkN.at_ {P : Program} {n0 : Nat} {fn : Func} {n : Nat} {r : List LoopSpec} (h : LsOkN P n0 fn n r) : ∀ (k : Nat) (l : LoopSpec), r[k]? = some l → l.T.safe → Sat P n0 (.loop (lpb fn (n + k))) l.s l.T.get := by
  induction h with
  | nil => intro k l hl; simp at hl
  | cons h1 _ ih =>
    intro k l hl
    cases k with
    | zero => simp at hl; subst hl; exact h1.out
    | succ k => have := ih k l (by simpa using hl); rwa [Nat.add_right_comm, Nat.add_assoc] at this
theorem LsOkN.loops {P : Program} {n0 : Nat} {fn : Func} {r : List LoopSpec} (h : LsOkN P n0 fn 0 r) : ∀ (k : Nat) (body : Code), (loopsIn (bd fn))[k]? = some body → ∀ s l, Ls r k s = some l → l.T.safe → Sat P n0 (.loop body) l.s l.T.get := by
  intro k body hb s l hl hs
  have := h.at_ k l hl hs
  rw [Nat.zero_add] at this
  have e : lpb fn k = body := by unfold lpb; rw [List.getD_eq_getElem?_getD, hb]; rfl
  rwa [e] at this
theorem fn_okL {P : Program} {Γ : Ctx} (hΓ : COk P Γ) (hmx : P.follows .mixedOrders = true) {f : FuncId} {fn : Func} (hf : P.funcs[f]? = some fn) (hb : fn.body = some (bd fn)) (ds : List Da) (r : List LoopSpec) (hr : LsOk P fn 0 r) (hs : Sf (fnT P Γ (Ls r) fn (bd fn) ds)) : OkC P f ds (fnT P Γ (Ls r) fn (bd fn) ds).get :=
  fn_ok hΓ hmx hf hb ds hr.loops hs.out
theorem fn_okXL {P : Program} {Γ : Ctx} (hΓ : COk P Γ) (hmx : P.follows .mixedOrders = true) {f : FuncId} {fn : Func} (hf : P.funcs[f]? = some fn) (hb : fn.body = some (bd fn)) (H : List Bx) (ds : List Da) (hs0 : List Src0) (r : List LoopSpec) (hr : LsOkN P H.length fn 0 r) (hs : (fnX P Γ (Ls r) fn (bd fn) H ds hs0).safe) : OkX P f H ds (fnX P Γ (Ls r) fn (bd fn) H ds hs0).get.1 (fnX P Γ (Ls r) fn (bd fn) H ds hs0).get.2 :=
  fn_okX hΓ hmx hf hb H ds hs0 hr.loops hs
/-- One loop within a loop. -/
theorem hL_one {P : Program} {n0 : Nat} {c b : Code} {n : Nat} {l : LoopSpec} (h : loopsIn c = [b]) (hs : l.T.safe → Sat P n0 (.loop b) l.s l.T.get) : ∀ (k : Nat) (body : Code), (loopsIn c)[k]? = some body → ∀ (s : St) (l' : LoopSpec), (fun _ _ => some l : Nat → St → Option LoopSpec) (n + k) s = some l' → l'.T.safe → Sat P n0 (.loop body) l'.s l'.T.get := fun k body hb s l' hl hT => by
  rw [h] at hb
  cases k with
  | zero => simp at hb; subst hb; cases hl; exact hs hT
  | succ k => simp at hb
theorem noLoops {P : Program} {n0 : Nat} {c : Code} (h : loopsIn c = []) {n : Nat} : ∀ (k : Nat) (body : Code), (loopsIn c)[k]? = some body → ∀ (s : St) (l : LoopSpec), (fun _ _ => none : Nat → St → Option LoopSpec) (n + k) s = some l → l.T.safe → Sat P n0 (.loop body) l.s l.T.get := fun k body hb => by rw [h] at hb; simp at hb
theorem wr_succ {k n : Nat} (h : k < n) (hn : n ≤ 1099511627776) : IntKind.wrap .i64 ((k : Int) + 1) = ((k + 1 : Nat) : Int) := by
  simp [IntKind.wrap, IntKind.bits, IntKind.signed]
  omega
theorem holds_ref_take {n : Nat} {ds es : List Da} (h : HoldsL (ds.take n) es) : Holds (.ref ds) (.ref es) := by
  intro U W m v hv
  cases hv with
  | ref _ ad u _ h1 h2 =>
    have key : ∀ (j : Nat) (e : Da), es[j]? = some e → ∃ d, ds[j]? = some d ∧ Holds d e := fun j e he => by
      obtain ⟨d, g1, g2⟩ := h.at_ j e he
      rw [List.getElem?_take] at g1
      split at g1
      · exact ⟨d, g1, g2⟩
      · cases g1
    refine .ref _ ad u _ (fun j e he => ?_) (fun j e he => ?_)
    · obtain ⟨d, g1, -⟩ := key j e he
      exact h1 j d g1
    · obtain ⟨d, g1, g2⟩ := key j e he
      exact g2 _ _ _ _ (h2 j d g1)
structure Cd (α : Type) where
  enc : α → Da
  dec : Da → Option α
  law : ∀ d x, dec d = some x → Holds d (enc x)
abbrev Cd.ty {α : Type} (_ : Cd α) : Type := α
def cI : Cd Int := ⟨.I, dI, fun _ _ => dI_law⟩
def cNat : Cd Nat := ⟨fun n => .I (n : Nat), fun _ => none, fun _ _ h => by cases h⟩
def cU8 : Cd Int := ⟨fun n => .v (.int .u8 n), dU8, fun _ _ => dU8_law⟩
def cS : Cd ByteArray := ⟨.S, dS, fun _ _ => dS_law⟩
def cB : Cd Bool := ⟨.b, Da.asB, fun _ _ => dB_law⟩
def cL (k : Kd) : Cd (List (El k)) := ⟨.lst k, dL k, fun _ _ => dL_law⟩
def cA0 (k : Kd) : Cd (El k) := ⟨fun x => .agg (row k x), fun d => match d with | .agg ds => un k ds | _ => none, fun d x h => by
  split at h
  · exact holds_agg (un_law k _ _ h)
  · cases h⟩
def cR0 (k : Kd) : Cd (El k) := ⟨fun x => .ref (row k x), fun d => match d with | .ref ds => un k (ds.take (wid k)) | _ => none, fun d x h => by
  split at h
  · exact holds_ref_take (un_law k _ _ h)
  · cases h⟩
/-- A function that has taken something along. -/
def cC0 (g : FuncId) : Cd Unit := ⟨fun _ => .clo (.func g) [] [], fun d => match d with | .clo (.func h) [] [] => if h = g then some () else none | _ => none, fun d x h => by
  split at h
  · split at h
    · rename_i e; subst e; exact Holds.refl _
    · cases h
  · cases h⟩
theorem holds_clo {fn : Fn} {ds es : List Da} (h : HoldsL ds es) : Holds (.clo fn [] ds) (.clo fn [] es) := by
  intro U W m v hv
  cases hv with
  | clo _ _ fs cs _ _ h1 h2 h3 h4 =>
    refine .clo _ _ fs cs _ _ h1 h2 (h3.trans h.len) fun i v e hv he => ?_
    obtain ⟨d, g1, g2⟩ := h.at_ i e he
    exact g2 _ _ _ _ (h4 i v d hv g1)
/-- .. one thing, two, .. -/
def cC1 {α : Type} (g : FuncId) (A : Cd α) : Cd α := ⟨fun x => .clo (.func g) [] [A.enc x], fun d => match d with | .clo (.func h) [] [e] => if h = g then A.dec e else none | _ => none, fun d x h => by
  split at h
  · split at h
    · rename_i e; subst e; exact holds_clo (.cons (A.law _ _ h) .nil)
    · cases h
  · cases h⟩
def cP1 {α : Type} (A : Cd α) : Cd α := ⟨fun x => .ref [A.enc x], fun d => match d with | .ref [e] => A.dec e | _ => none, fun d x h => by
  split at h
  · exact holds_ref (.cons (A.law _ _ h) .nil)
  · cases h⟩
def cCn (g : FuncId) {α : Type} (encs : α → List Da) (decs : List Da → Option α) (law : ∀ ds x, decs ds = some x → HoldsL ds (encs x)) : Cd α := ⟨fun x => .clo (.func g) [] (encs x), fun d => match d with | .clo (.func h) [] es => if h = g then decs es else none | _ => none, fun d x h => by
  split at h
  · split at h
    · rename_i e; subst e; exact holds_clo (law _ _ h)
    · cases h
  · cases h⟩
def cC2 {α β : Type} (g : FuncId) (A : Cd α) (B : Cd β) : Cd (α × β) := cCn g (fun x => [A.enc x.1, B.enc x.2]) (fun es => match es with | [d, e] => (A.dec d).bind fun x => (B.dec e).bind fun y => some (x, y) | _ => none) fun ds x h => by
  split at h
  · simp only [Option.bind_eq_some_iff, Option.some.injEq] at h
    obtain ⟨x, hx, y, hy, rfl⟩ := h
    exact .cons (A.law _ _ hx) (.cons (B.law _ _ hy) .nil)
  · cases h
def cC3 {α β γ : Type} (g : FuncId) (A : Cd α) (B : Cd β) (C : Cd γ) : Cd (α × β × γ) := cCn g (fun x => [A.enc x.1, B.enc x.2.1, C.enc x.2.2]) (fun es => match es with | [d, e, f] => (A.dec d).bind fun x => (B.dec e).bind fun y => (C.dec f).bind fun z => some (x, y, z) | _ => none) fun ds x h => by
  split at h
  · simp only [Option.bind_eq_some_iff, Option.some.injEq] at h
    obtain ⟨x, hx, y, hy, z, hz, rfl⟩ := h
    exact .cons (A.law _ _ hx) (.cons (B.law _ _ hy) (.cons (C.law _ _ hz) .nil))
  · cases h
def cC5 {α β γ δ ε : Type} (g : FuncId) (A : Cd α) (B : Cd β) (C : Cd γ) (D : Cd δ) (E : Cd ε) : Cd (α × β × γ × δ × ε) := cCn g (fun x => [A.enc x.1, B.enc x.2.1, C.enc x.2.2.1, D.enc x.2.2.2.1, E.enc x.2.2.2.2]) (fun es => match es with | [d, e, f, g, h] => (A.dec d).bind fun x => (B.dec e).bind fun y => (C.dec f).bind fun z => (D.dec g).bind fun u => (E.dec h).bind fun v => some (x, y, z, u, v) | _ => none) fun ds x h => by
  split at h
  · simp only [Option.bind_eq_some_iff, Option.some.injEq] at h
    obtain ⟨x, hx, y, hy, z, hz, u, hu, v, hv, rfl⟩ := h
    exact .cons (A.law _ _ hx) (.cons (B.law _ _ hy) (.cons (C.law _ _ hz) (.cons (D.law _ _ hu) (.cons (E.law _ _ hv) .nil))))
  · cases h
theorem OkC.args {P : Program} {f : FuncId} {ds es : List Da} {r : Da} (h : OkC P f es r) (hl : HoldsL ds es) : OkC P f ds r := fun U w vs h1 h2 h3 =>
  h U w vs h1 (h2.trans hl.len) fun i v e hv he => by
    obtain ⟨d, g1, g2⟩ := hl.at_ i e he
    exact g2 _ _ _ _ (h3 i v d hv g1)
theorem OkC.holds {P : Program} {f : FuncId} {ds : List Da} {r r' : Da} (h : OkC P f ds r) (hr : Holds r r') : OkC P f ds r' := fun U w vs h1 h2 h3 =>
  (h U w vs h1 h2 h3).mono fun e w' ⟨v, g1, g2, g3⟩ => ⟨v, g1, hr _ _ _ _ g2, g3⟩
def ent1 {α0 : Type} (A : Cd α0) (f : α0 → Cn × Da) : Entry := fun ds => match ds with
  | [d0] => (A.dec d0).bind fun x0 => some (f x0)
  | _ => none
theorem ent1_ok {P : Program} {g : FuncId} {α0 : Type} {A : Cd α0} {f : α0 → Cn × Da} (hc : ∀ args w, (callFunc g args).run P w = .ok (.enter g args) w) (h : ∀ x0, (f x0).1.holds → OkC P g [A.enc x0] (f x0).2) : EOk P g (ent1 A f) := ⟨hc, fun ds q r he hq => by
  unfold ent1 at he
  split at he
  · simp only [Option.bind_eq_some_iff, Option.some.injEq] at he
    obtain ⟨x0, h0, e⟩ := he
    have e1 := congrArg Prod.fst e
    have e2 := congrArg Prod.snd e
    simp only at e1 e2
    subst e2
    subst e1
    exact (h x0 hq).args (.cons (A.law _ _ h0) <| .nil)
  · cases he⟩
def ent2 {α0 : Type} {α1 : Type} (A : Cd α0) (B : Cd α1) (f : α0 → α1 → Cn × Da) : Entry := fun ds => match ds with
  | [d0, d1] => (A.dec d0).bind fun x0 => (B.dec d1).bind fun x1 => some (f x0 x1)
  | _ => none
theorem ent2_ok {P : Program} {g : FuncId} {α0 : Type} {α1 : Type} {A : Cd α0} {B : Cd α1} {f : α0 → α1 → Cn × Da} (hc : ∀ args w, (callFunc g args).run P w = .ok (.enter g args) w) (h : ∀ x0 x1, (f x0 x1).1.holds → OkC P g [A.enc x0, B.enc x1] (f x0 x1).2) : EOk P g (ent2 A B f) := ⟨hc, fun ds q r he hq => by
  unfold ent2 at he
  split at he
  · simp only [Option.bind_eq_some_iff, Option.some.injEq] at he
    obtain ⟨x0, h0, x1, h1, e⟩ := he
    have e1 := congrArg Prod.fst e
    have e2 := congrArg Prod.snd e
    simp only at e1 e2
    subst e2
    subst e1
    exact (h x0 x1 hq).args (.cons (A.law _ _ h0) <| .cons (B.law _ _ h1) <| .nil)
  · cases he⟩
def ent3 {α0 : Type} {α1 : Type} {α2 : Type} (A : Cd α0) (B : Cd α1) (C : Cd α2) (f : α0 → α1 → α2 → Cn × Da) : Entry := fun ds => match ds with
  | [d0, d1, d2] => (A.dec d0).bind fun x0 => (B.dec d1).bind fun x1 => (C.dec d2).bind fun x2 => some (f x0 x1 x2)
  | _ => none
theorem ent3_ok {P : Program} {g : FuncId} {α0 : Type} {α1 : Type} {α2 : Type} {A : Cd α0} {B : Cd α1} {C : Cd α2} {f : α0 → α1 → α2 → Cn × Da} (hc : ∀ args w, (callFunc g args).run P w = .ok (.enter g args) w) (h : ∀ x0 x1 x2, (f x0 x1 x2).1.holds → OkC P g [A.enc x0, B.enc x1, C.enc x2] (f x0 x1 x2).2) : EOk P g (ent3 A B C f) := ⟨hc, fun ds q r he hq => by
  unfold ent3 at he
  split at he
  · simp only [Option.bind_eq_some_iff, Option.some.injEq] at he
    obtain ⟨x0, h0, x1, h1, x2, h2, e⟩ := he
    have e1 := congrArg Prod.fst e
    have e2 := congrArg Prod.snd e
    simp only at e1 e2
    subst e2
    subst e1
    exact (h x0 x1 x2 hq).args (.cons (A.law _ _ h0) <| .cons (B.law _ _ h1) <| .cons (C.law _ _ h2) <| .nil)
  · cases he⟩
def ent4 {α0 : Type} {α1 : Type} {α2 : Type} {α3 : Type} (A : Cd α0) (B : Cd α1) (C : Cd α2) (D : Cd α3) (f : α0 → α1 → α2 → α3 → Cn × Da) : Entry := fun ds => match ds with
  | [d0, d1, d2, d3] => (A.dec d0).bind fun x0 => (B.dec d1).bind fun x1 => (C.dec d2).bind fun x2 => (D.dec d3).bind fun x3 => some (f x0 x1 x2 x3)
  | _ => none
theorem ent4_ok {P : Program} {g : FuncId} {α0 : Type} {α1 : Type} {α2 : Type} {α3 : Type} {A : Cd α0} {B : Cd α1} {C : Cd α2} {D : Cd α3} {f : α0 → α1 → α2 → α3 → Cn × Da} (hc : ∀ args w, (callFunc g args).run P w = .ok (.enter g args) w) (h : ∀ x0 x1 x2 x3, (f x0 x1 x2 x3).1.holds → OkC P g [A.enc x0, B.enc x1, C.enc x2, D.enc x3] (f x0 x1 x2 x3).2) : EOk P g (ent4 A B C D f) := ⟨hc, fun ds q r he hq => by
  unfold ent4 at he
  split at he
  · simp only [Option.bind_eq_some_iff, Option.some.injEq] at he
    obtain ⟨x0, h0, x1, h1, x2, h2, x3, h3, e⟩ := he
    have e1 := congrArg Prod.fst e
    have e2 := congrArg Prod.snd e
    simp only at e1 e2
    subst e2
    subst e1
    exact (h x0 x1 x2 x3 hq).args (.cons (A.law _ _ h0) <| .cons (B.law _ _ h1) <| .cons (C.law _ _ h2) <| .cons (D.law _ _ h3) <| .nil)
  · cases he⟩
def ent5 {α0 : Type} {α1 : Type} {α2 : Type} {α3 : Type} {α4 : Type} (A : Cd α0) (B : Cd α1) (C : Cd α2) (D : Cd α3) (E : Cd α4) (f : α0 → α1 → α2 → α3 → α4 → Cn × Da) : Entry := fun ds => match ds with
  | [d0, d1, d2, d3, d4] => (A.dec d0).bind fun x0 => (B.dec d1).bind fun x1 => (C.dec d2).bind fun x2 => (D.dec d3).bind fun x3 => (E.dec d4).bind fun x4 => some (f x0 x1 x2 x3 x4)
  | _ => none
theorem ent5_ok {P : Program} {g : FuncId} {α0 : Type} {α1 : Type} {α2 : Type} {α3 : Type} {α4 : Type} {A : Cd α0} {B : Cd α1} {C : Cd α2} {D : Cd α3} {E : Cd α4} {f : α0 → α1 → α2 → α3 → α4 → Cn × Da} (hc : ∀ args w, (callFunc g args).run P w = .ok (.enter g args) w) (h : ∀ x0 x1 x2 x3 x4, (f x0 x1 x2 x3 x4).1.holds → OkC P g [A.enc x0, B.enc x1, C.enc x2, D.enc x3, E.enc x4] (f x0 x1 x2 x3 x4).2) : EOk P g (ent5 A B C D E f) := ⟨hc, fun ds q r he hq => by
  unfold ent5 at he
  split at he
  · simp only [Option.bind_eq_some_iff, Option.some.injEq] at he
    obtain ⟨x0, h0, x1, h1, x2, h2, x3, h3, x4, h4, e⟩ := he
    have e1 := congrArg Prod.fst e
    have e2 := congrArg Prod.snd e
    simp only at e1 e2
    subst e2
    subst e1
    exact (h x0 x1 x2 x3 x4 hq).args (.cons (A.law _ _ h0) <| .cons (B.law _ _ h1) <| .cons (C.law _ _ h2) <| .cons (D.law _ _ h3) <| .cons (E.law _ _ h4) <| .nil)
  · cases he⟩
def ent6 {α0 : Type} {α1 : Type} {α2 : Type} {α3 : Type} {α4 : Type} {α5 : Type} (A : Cd α0) (B : Cd α1) (C : Cd α2) (D : Cd α3) (E : Cd α4) (F : Cd α5) (f : α0 → α1 → α2 → α3 → α4 → α5 → Cn × Da) : Entry := fun ds => match ds with
  | [d0, d1, d2, d3, d4, d5] => (A.dec d0).bind fun x0 => (B.dec d1).bind fun x1 => (C.dec d2).bind fun x2 => (D.dec d3).bind fun x3 => (E.dec d4).bind fun x4 => (F.dec d5).bind fun x5 => some (f x0 x1 x2 x3 x4 x5)
  | _ => none
theorem ent6_ok {P : Program} {g : FuncId} {α0 : Type} {α1 : Type} {α2 : Type} {α3 : Type} {α4 : Type} {α5 : Type} {A : Cd α0} {B : Cd α1} {C : Cd α2} {D : Cd α3} {E : Cd α4} {F : Cd α5} {f : α0 → α1 → α2 → α3 → α4 → α5 → Cn × Da} (hc : ∀ args w, (callFunc g args).run P w = .ok (.enter g args) w) (h : ∀ x0 x1 x2 x3 x4 x5, (f x0 x1 x2 x3 x4 x5).1.holds → OkC P g [A.enc x0, B.enc x1, C.enc x2, D.enc x3, E.enc x4, F.enc x5] (f x0 x1 x2 x3 x4 x5).2) : EOk P g (ent6 A B C D E F f) := ⟨hc, fun ds q r he hq => by
  unfold ent6 at he
  split at he
  · simp only [Option.bind_eq_some_iff, Option.some.injEq] at he
    obtain ⟨x0, h0, x1, h1, x2, h2, x3, h3, x4, h4, x5, h5, e⟩ := he
    have e1 := congrArg Prod.fst e
    have e2 := congrArg Prod.snd e
    simp only at e1 e2
    subst e2
    subst e1
    exact (h x0 x1 x2 x3 x4 x5 hq).args (.cons (A.law _ _ h0) <| .cons (B.law _ _ h1) <| .cons (C.law _ _ h2) <| .cons (D.law _ _ h3) <| .cons (E.law _ _ h4) <| .cons (F.law _ _ h5) <| .nil)
  · cases he⟩
def ent7 {α0 : Type} {α1 : Type} {α2 : Type} {α3 : Type} {α4 : Type} {α5 : Type} {α6 : Type} (A : Cd α0) (B : Cd α1) (C : Cd α2) (D : Cd α3) (E : Cd α4) (F : Cd α5) (G : Cd α6) (f : α0 → α1 → α2 → α3 → α4 → α5 → α6 → Cn × Da) : Entry := fun ds => match ds with
  | [d0, d1, d2, d3, d4, d5, d6] => (A.dec d0).bind fun x0 => (B.dec d1).bind fun x1 => (C.dec d2).bind fun x2 => (D.dec d3).bind fun x3 => (E.dec d4).bind fun x4 => (F.dec d5).bind fun x5 => (G.dec d6).bind fun x6 => some (f x0 x1 x2 x3 x4 x5 x6)
  | _ => none
theorem ent7_ok {P : Program} {g : FuncId} {α0 : Type} {α1 : Type} {α2 : Type} {α3 : Type} {α4 : Type} {α5 : Type} {α6 : Type} {A : Cd α0} {B : Cd α1} {C : Cd α2} {D : Cd α3} {E : Cd α4} {F : Cd α5} {G : Cd α6} {f : α0 → α1 → α2 → α3 → α4 → α5 → α6 → Cn × Da} (hc : ∀ args w, (callFunc g args).run P w = .ok (.enter g args) w) (h : ∀ x0 x1 x2 x3 x4 x5 x6, (f x0 x1 x2 x3 x4 x5 x6).1.holds → OkC P g [A.enc x0, B.enc x1, C.enc x2, D.enc x3, E.enc x4, F.enc x5, G.enc x6] (f x0 x1 x2 x3 x4 x5 x6).2) : EOk P g (ent7 A B C D E F G f) := ⟨hc, fun ds q r he hq => by
  unfold ent7 at he
  split at he
  · simp only [Option.bind_eq_some_iff, Option.some.injEq] at he
    obtain ⟨x0, h0, x1, h1, x2, h2, x3, h3, x4, h4, x5, h5, x6, h6, e⟩ := he
    have e1 := congrArg Prod.fst e
    have e2 := congrArg Prod.snd e
    simp only at e1 e2
    subst e2
    subst e1
    exact (h x0 x1 x2 x3 x4 x5 x6 hq).args (.cons (A.law _ _ h0) <| .cons (B.law _ _ h1) <| .cons (C.law _ _ h2) <| .cons (D.law _ _ h3) <| .cons (E.law _ _ h4) <| .cons (F.law _ _ h5) <| .cons (G.law _ _ h6) <| .nil)
  · cases he⟩
end Go.Proofs.YthlebalbiokjpaaGreat
