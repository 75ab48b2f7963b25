/- A region that draws its order, walked once in the order of the text: operations that only read have one value; of each other operation a specification is known (what its result is, in a world that later steps only let grow). Nothing of a program is named here. | Words for memory and small lemmas, used by all texts of these claims. No condition: plain lemmas. -/
import Derived.Test.YthlebalbiokjpaaGreatProg
import Derived.WalkKit
import Derived.Orders
import Derived.StillTail
import Derived.KernelRfl
import Derived.BigQuiet
import Derived.Deep.QuietTactic
import Derived.StillTailTactics
import Derived.Deep.RegionHeld3
import Derived.Deep.AppendLies
import Derived.Maps.AppendAt
import Derived.Deep.Draws
import Derived.Handy
import Derived.Laws.Rows
import Derived.Lib.Hide
import Derived.Deep.MidRow
import Derived.Lib.ConvBytes
import Derived.Laws.BytesString
namespace Go.Proofs.YthlebalbiokjpaaGreat
set_option linter.unusedVariables false

abbrev Spec := Array Value → Value → World → Prop
abbrev Facts := Nat → Option (Array Value × Value)
def upd (F : Facts) (i : Nat) (x : Array Value × Value) : Facts := fun j => if j = i then some x else F j
def ancB (B : List Nat) (i j : Nat) : Bool := (B.getD i 0).testBit j
def depsB (o : Oper) : List Nat := (o.after.toList.filter (Region.binds .any)).map (·.on)
def argsOf (a : Act) (o : Oper) : Array Value := o.op.operands.map a.eval
def lexOkB (ops : List Oper) (B : List Nat) : Bool :=
  ops.zipIdx.all fun x => decide (B.getD x.2 0 < 2 ^ x.2) && (match x.1.op with | .select .. => false | _ => true) && (depsB x.1).all (fun d => decide (d < x.2)) &&
    (List.range x.2).all fun j => (ancB B x.2 j || (ops.getD j default).apart ops.toArray x.1) && (!ancB B x.2 j || (depsB x.1).any fun d => d == j || ancB B d j)
def lexOk (ops : List Oper) : Bool := lexOkB ops (Region.before ops.toArray).toList

section
variable (P : Program) (ops : Array Oper) (J : Nat → World → Prop) (Le : World → World → Prop) (φ : Nat → Option Spec) (B : List Nat)
def factsAt (F : Facts) (S : Nat → Bool) (w : World) : Prop := ∀ j, S j = true → ∀ x v sp, F j = some (x, v) → φ j = some sp → sp x v w
/-- These facts may hold. -/
def Poss (F : Facts) : Prop := ∃ m w, J m w ∧ factsAt φ F (fun _ => true) w
/-- What an operation gives: a value and a world, or what its callee returns. -/
def gives (o : Oper) (a : Act) (w : World) (R : Value → World → Prop) : Prop :=
  match (execOp a.eval o).run P w with
  | .ok (.value v) w' => R v w'
  | .ok .skip w' => R undef w'
  | .ok (.enter f args) w' => Calls P f args w' (fun e w'' => ∃ v, e = .returned v ∧ R v w'')
  | _ => False
/-- One operation of the walk. -/
def lexStep (i : Nat) (o : Oper) (F : Facts) (a : Act) (K : Facts → Act → Prop) : Prop :=
  if Region.wanted o (yielded ops a.tmps) = true then
    match φ i with
    | none => ∃ v, (∀ m w, J m w → factsAt φ F (ancB B i) w → (execOp a.eval o).run P w = .ok (.value v) w) ∧ K F (a.put o.dst v)
    | some sp => (∀ m w, J (m + 1) w → factsAt φ F (ancB B i) w → gives P o a w (fun v w' => J m w' ∧ Le w w' ∧ sp (argsOf a o) v w')) ∧
        ∀ v, Poss J φ (upd F i (argsOf a o, v)) → K (upd F i (argsOf a o, v)) (a.put o.dst v)
  else K F (a.put o.dst undef)
def lexR : List (Nat × Oper) → (Act → Facts → Prop) → Facts → Act → Prop
  | [], fin, F, a => fin a F
  | (i, o) :: r, fin, F, a => lexStep P ops J Le φ B i o F a (lexR r fin)
end

section
variable {P : Program} {ops : Array Oper} {J : Nat → World → Prop} {Le : World → World → Prop} {φ : Nat → Option Spec} {B : List Nat} {m : Nat}

theorem upd_comm {F : Facts} {i j : Nat} {x y : Array Value × Value} (h : i ≠ j) : upd (upd F i x) j y = upd (upd F j y) i x := by
  funext k
  simp only [upd]
  by_cases h1 : k = j <;> by_cases h2 : k = i <;> simp_all
theorem facts_mono {F : Facts} {S S' : Nat → Bool} {w : World} (h : factsAt φ F S w) (hs : ∀ j, S' j = true → S j = true) : factsAt φ F S' w :=
  fun j hj => h j (hs j hj)
theorem facts_upd {F : Facts} {S : Nat → Bool} {w : World} {i : Nat} {x : Array Value × Value} (hi : S i = false) : factsAt φ (upd F i x) S w ↔ factsAt φ F S w := by
  constructor
  · intro h j hj y v sp hF
    exact h j hj y v sp (by have : j ≠ i := fun e => by rw [e, hi] at hj; cases hj
                            simp [upd, this, hF])
  · intro h j hj y v sp hF
    have : j ≠ i := fun e => by rw [e, hi] at hj; cases hj
    exact h j hj y v sp (by simpa [upd, this] using hF)

theorem args_put {o : Oper} {a : Act} {dst : Option Tmp} {v : Value} (h : ∀ d, dst = some d → d ∉ o.looksAt ops) : argsOf (a.put dst v) o = argsOf a o := by
  unfold argsOf
  apply Array.map_congr_left
  intro x hx
  exact Act.eval_put fun d hd hxd => h d hd (by
    subst hxd
    exact List.mem_append_left _ (List.mem_filterMap.2 ⟨.tmp d, by simpa using hx, rfl⟩))

theorem gives_wp {o : Oper} {a : Act} {w : World} {R : Value → World → Prop} {K : Act → World → Prop} {Q : Exit → Act → World → Prop} (h : gives P o a w R) (hk : ∀ v w', R v w' → K (a.put o.dst v) w') : o.wp P a w K Q := by
  unfold Oper.wp
  unfold gives at h
  generalize (execOp a.eval o).run P w = r at *
  cases r with
  | ok m w' =>
    cases m <;> simp only [Oper.upon] at h ⊢ <;> first
      | exact hk _ _ h
      | exact h.elim
      | exact Calls.mono h (fun e w'' he => by obtain ⟨v, rfl, hr⟩ := he; exact hk _ _ hr)
  | halt x w' => exact h.elim
theorem gives_mono {o : Oper} {a : Act} {w : World} {R R' : Value → World → Prop} (h : gives P o a w R) (hr : ∀ v w', R v w' → R' v w') : gives P o a w R' := by
  unfold gives at *
  generalize (execOp a.eval o).run P w = r at *
  cases r with
  | ok m w' =>
    cases m <;> simp only at h ⊢ <;> first
      | exact hr _ _ h
      | exact h.elim
      | exact Calls.mono h (fun e w'' he => by obtain ⟨v, rfl, h2⟩ := he; exact ⟨v, rfl, hr _ _ h2⟩)
  | halt x w' => exact h.elim
theorem gives_some {o : Oper} {a : Act} {w : World} {R : Value → World → Prop} (h : gives P o a w R) : ∃ v w', R v w' := by
  unfold gives at h
  generalize (execOp a.eval o).run P w = r at *
  cases r with
  | ok m w' =>
    cases m <;> simp only at h <;> first
      | exact ⟨_, _, h⟩
      | exact h.elim
      | (obtain ⟨e, w'', fr, ⟨v, rfl, hr⟩, _⟩ := h []; exact ⟨_, _, hr⟩)
  | halt x w' => exact h.elim
theorem gives_congr {o : Oper} {a a' : Act} {w : World} {R : Value → World → Prop} (h : execOp a'.eval o = execOp a.eval o) : gives P o a' w R = gives P o a w R := by
  unfold gives
  rw [h]

theorem facts_drop {F : Facts} {j : Nat} {x : Array Value × Value} (hF : F j = none) {S : Nat → Bool} {w : World} (h : factsAt φ (upd F j x) S w) : factsAt φ F S w := fun i hi y v sp hy =>
  h i hi y v sp (by have : i ≠ j := fun e => by rw [e, hF] at hy; cases hy
                    simp [upd, this, hy])
theorem facts_all_upd {F : Facts} {i : Nat} {x : Array Value} {u : Value} {si : Spec} {W w0 : World} (hφi : φ i = some si) (hst : ∀ j sp x v w w', φ j = some sp → Le w w' → sp x v w → sp x v w')
    (hL : Le W w0) (hs : si x u w0) (hF : factsAt φ F (fun _ => true) W) : factsAt φ (upd F i (x, u)) (fun _ => true) w0 := fun k _ y v sp hk hsp => by
  by_cases hki : k = i
  · subst hki
    simp only [upd, if_true, Option.some.injEq, Prod.mk.injEq] at hk
    obtain ⟨rfl, rfl⟩ := hk
    rw [hφi] at hsp
    cases hsp
    exact hs
  · exact hst k sp y v W w0 hsp hL (hF k rfl y v sp (by simpa [upd, hki] using hk) hsp)

/-- What an operation asks of the walk: at the frame a, out of the facts F. -/
def Asks (P : Program) (J : Nat → World → Prop) (Le : World → World → Prop) (φ : Nat → Option Spec) (B : List Nat) (j : Nat) (o : Oper) (F : Facts) (a : Act) (x : Array Value) : Prop :=
  match φ j with
  | none => ∃ v, ∀ m w, J m w → factsAt φ F (ancB B j) w → (execOp a.eval o).run P w = .ok (.value v) w
  | some sp => ∀ m w, J (m + 1) w → factsAt φ F (ancB B j) w → gives P o a w (fun v w' => J m w' ∧ Le w w' ∧ sp x v w')

/-- What stands ahead of operation j, and is not waited for by it. -/
def Ahead (ops : Array Oper) (B : List Nat) (j : Nat) (oj : Oper) (F : Facts) (l : List (Nat × Oper)) : Prop :=
  ∀ x ∈ l, x.1 ≠ j ∧ ancB B j x.1 = false ∧ ancB B x.1 j = false ∧ x.2.apart ops oj = true ∧ (∀ cs b, x.2.op ≠ .select cs b) ∧ F x.1 = none

theorem asks_of_lex (hst : ∀ j sp x v w w', φ j = some sp → Le w w' → sp x v w → sp x v w') (hm : ∀ m w, J (m + 1) w → J m w) {j : Nat} {oj : Oper} (hsj : ∀ cs b, oj.op ≠ .select cs b) {fin : Act → Facts → Prop} {l2 : List (Nat × Oper)} :
    ∀ (l1 : List (Nat × Oper)) (F : Facts) (a : Act), (∀ x ∈ l1, x.1 ≠ j ∧ ancB B j x.1 = false ∧ x.2.apart ops oj = true) → (∃ m w, J (m + l1.length) w ∧ factsAt φ F (fun _ => true) w) → Region.wanted oj (yielded ops a.tmps) = true →
      lexR P ops J Le φ B (l1 ++ (j, oj) :: l2) fin F a → Asks P J Le φ B j oj F a (argsOf a oj) := by
  intro l1
  induction l1 with
  | nil =>
    intro F a _ _ hw h
    simp only [List.nil_append, lexR, lexStep, hw, if_true] at h
    unfold Asks
    cases hφ : φ j with
    | none => simp only [hφ] at h ⊢; obtain ⟨v, hv, _⟩ := h; exact ⟨v, hv⟩
    | some sp => simp only [hφ] at h ⊢; exact h.1
  | cons x t ih =>
    intro F a hx hE hw h
    obtain ⟨i, oi⟩ := x
    obtain ⟨hij, hji, hap⟩ := hx (i, oi) List.mem_cons_self
    have ht : ∀ x ∈ t, x.1 ≠ j ∧ ancB B j x.1 = false ∧ x.2.apart ops oj = true := fun x hx' => hx x (List.mem_cons_of_mem _ hx')
    obtain ⟨hdi, hdd, hdj⟩ := Oper.apart_spec hap
    have back : ∀ v F', (∀ w, factsAt φ F' (ancB B j) w ↔ factsAt φ F (ancB B j) w) → Asks P J Le φ B j oj F' (a.put oi.dst v) (argsOf (a.put oi.dst v) oj) → Asks P J Le φ B j oj F a (argsOf a oj) := by
      intro v F' hF hA
      unfold Asks at hA ⊢
      rw [args_put hdi] at hA
      have e : execOp (a.put oi.dst v).eval oj = execOp a.eval oj := execOp_put oj hsj a oi.dst v hdi
      cases hφ : φ j with
      | none => simp only [hφ, e, hF] at hA ⊢; exact hA
      | some sp =>
        simp only [hφ, hF] at hA ⊢
        exact fun m w h1 h2 => by rw [← gives_congr e]; exact hA m w h1 h2
    have hw' : ∀ v, Region.wanted oj (yielded ops (a.put oi.dst v).tmps) = true := fun v => by rw [wanted_put oj a oi.dst v hdi]; exact hw
    obtain ⟨m, W, hJ, hF⟩ := hE
    have hJ' : J (m + t.length) W := hm _ _ (by simpa [Nat.add_assoc] using hJ)
    simp only [List.cons_append, lexR, lexStep] at h
    by_cases hwi : Region.wanted oi (yielded ops a.tmps) = true
    · simp only [hwi, if_true] at h
      cases hφi : φ i with
      | none =>
        simp only [hφi] at h
        obtain ⟨v, _, h⟩ := h
        exact back v F (fun w => Iff.rfl) (ih F _ ht ⟨m, W, hJ', hF⟩ (hw' v) h)
      | some si =>
        simp only [hφi] at h
        obtain ⟨hu, h⟩ := h
        obtain ⟨u0, w0, h1, h2, h3⟩ := gives_some (hu (m + t.length) W (by simpa [Nat.add_assoc] using hJ) (facts_mono hF (fun _ _ => rfl)))
        have hF' := facts_all_upd hφi hst h2 h3 hF
        exact back u0 _ (fun w => facts_upd hji) (ih _ _ ht ⟨m, w0, h1, hF'⟩ (hw' u0) (h u0 ⟨_, w0, h1, hF'⟩))
    · simp only [hwi, if_false] at h
      exact back undef F (fun w => Iff.rfl) (ih F _ ht ⟨m, W, hJ', hF⟩ (hw' undef) (by simpa using h))

/-- Operation j has come up, ahead of l1: the walk of what is left. -/
theorem lex_without {j : Nat} {oj : Oper} {vj : Value} {xj : Array Value} (hsj : ∀ cs b, oj.op ≠ .select cs b) {fin : Act → Facts → Prop} {l2 : List (Nat × Oper)} (wj : Bool) :
    ∀ (l1 : List (Nat × Oper)) (F : Facts) (a : Act), (∀ x ∈ l1, x.1 ≠ j ∧ ancB B j x.1 = false ∧ ancB B x.1 j = false ∧ x.2.apart ops oj = true ∧ (∀ cs b, x.2.op ≠ .select cs b)) → (∀ x ∈ l1, x.1 ≠ j) → F j = none →
      Region.wanted oj (yielded ops a.tmps) = wj → argsOf a oj = xj →
      (wj = true → φ j = none → ∀ m w, J m w → factsAt φ F (ancB B j) w → (execOp a.eval oj).run P w = .ok (.value vj) w) → (wj = false → vj = undef) → Poss J φ (if wj = true ∧ (φ j).isSome = true then upd F j (xj, vj) else F) →
      lexR P ops J Le φ B (l1 ++ (j, oj) :: l2) fin F a → lexR P ops J Le φ B (l1 ++ l2) fin (if wj = true ∧ (φ j).isSome = true then upd F j (xj, vj) else F) (a.put oj.dst vj) := by
  intro l1
  induction l1 with
  | nil =>
    intro F a _ _ hFj hw hx hv hu hP h
    simp only [List.nil_append, lexR, lexStep] at h ⊢
    cases wj with
    | false => simp only [hw, Bool.false_eq_true, if_false, false_and] at h ⊢; rw [hu rfl]; exact h
    | true =>
      simp only [hw, if_true, true_and] at h hP ⊢
      cases hφ : φ j with
      | none =>
        simp only [hφ, Option.isSome_none, Bool.false_eq_true, if_false] at h hP ⊢
        obtain ⟨v, h1, h2⟩ := h
        obtain ⟨m, w, hJ, hF⟩ := hP
        have e1 := h1 m w hJ (facts_mono hF fun _ _ => rfl)
        have e2 := hv rfl hφ m w hJ (facts_mono hF fun _ _ => rfl)
        rw [e1] at e2
        have : v = vj := by injection e2 with e2; injection e2
        rw [← this]; exact h2
      | some sp =>
        simp only [hφ, Option.isSome_some, if_true, hx] at h hP ⊢
        exact h.2 vj hP
  | cons x t ih =>
    intro F a hall hne hFj hw hx hv hu hP h
    obtain ⟨i, oi⟩ := x
    obtain ⟨hij, hji, hij', hap, hsi⟩ := hall (i, oi) List.mem_cons_self
    have ht : ∀ x ∈ t, x.1 ≠ j ∧ ancB B j x.1 = false ∧ ancB B x.1 j = false ∧ x.2.apart ops oj = true ∧ (∀ cs b, x.2.op ≠ .select cs b) := fun x hx' => hall x (List.mem_cons_of_mem _ hx')
    have hne' : ∀ x ∈ t, x.1 ≠ j := fun x hx' => hne x (List.mem_cons_of_mem _ hx')
    obtain ⟨hdi, hdd, hdj⟩ := Oper.apart_spec hap
    have ei : execOp (a.put oj.dst vj).eval oi = execOp a.eval oi := execOp_put oi hsi a oj.dst vj hdj
    have ej : ∀ v, execOp (a.put oi.dst v).eval oj = execOp a.eval oj := fun v => execOp_put oj hsj a oi.dst v hdi
    have wi : Region.wanted oi (yielded ops (a.put oj.dst vj).tmps) = Region.wanted oi (yielded ops a.tmps) := wanted_put oi a oj.dst vj hdj
    have wj' : ∀ v, Region.wanted oj (yielded ops (a.put oi.dst v).tmps) = wj := fun v => by rw [wanted_put oj a oi.dst v hdi]; exact hw
    have ai : argsOf (a.put oj.dst vj) oi = argsOf a oi := args_put hdj
    have aj : ∀ v, argsOf (a.put oi.dst v) oj = xj := fun v => by rw [args_put hdi]; exact hx
    have cm : ∀ v, (a.put oi.dst v).put oj.dst vj = (a.put oj.dst vj).put oi.dst v := fun v => Act.put_comm a v vj hdd
    have fG : ∀ w, factsAt φ (if wj = true ∧ (φ j).isSome = true then upd F j (xj, vj) else F) (ancB B i) w ↔ factsAt φ F (ancB B i) w := fun w => by
      split
      · exact facts_upd hij'
      · exact Iff.rfl
    simp only [List.cons_append, lexR, lexStep, wi, ei] at h ⊢
    by_cases hwi : Region.wanted oi (yielded ops a.tmps) = true
    · simp only [hwi, if_true] at h ⊢
      cases hφi : φ i with
      | none =>
        simp only [hφi, fG] at h ⊢
        obtain ⟨v, h1, h⟩ := h
        refine ⟨v, h1, ?_⟩
        rw [← cm]
        exact ih F _ ht hne' hFj (wj' v) (aj v) (fun e1 e2 m w h3 h4 => by rw [ej]; exact hv e1 e2 m w h3 h4) hu hP h
      | some si =>
        simp only [hφi, fG, ai] at h ⊢
        obtain ⟨hu', h⟩ := h
        refine ⟨fun m w h1 h2 => by rw [gives_congr ei]; exact hu' m w h1 h2, fun u hPu => ?_⟩
        have hsw : upd (if wj = true ∧ (φ j).isSome = true then upd F j (xj, vj) else F) i (argsOf a oi, u) = (if wj = true ∧ (φ j).isSome = true then upd (upd F i (argsOf a oi, u)) j (xj, vj) else upd F i (argsOf a oi, u)) := by
          split
          · exact (upd_comm hij).symm
          · rfl
        rw [hsw] at hPu ⊢
        rw [← cm]
        have hFij : upd F i (argsOf a oi, u) j = none := by simp [upd, Ne.symm hij, hFj]
        have hP1 : Poss J φ (upd F i (argsOf a oi, u)) := by
          obtain ⟨m, w, h1, h2⟩ := hPu
          refine ⟨m, w, h1, ?_⟩
          split at h2
          · exact facts_drop hFij h2
          · exact h2
        exact ih _ _ ht hne' hFij (wj' u) (aj u) (fun e1 e2 m w h3 h4 => by rw [ej]; exact hv e1 e2 m w h3 ((facts_upd hji).1 h4)) hu hPu (h u hP1)
    · simp only [hwi, if_false] at h ⊢
      rw [← cm]
      exact ih F _ ht hne' hFj (wj' undef) (aj undef) (fun e1 e2 m w h3 h4 => by rw [ej]; exact hv e1 e2 m w h3 h4) hu hP (by simpa using h)

def pairs (ops : List Oper) : List (Nat × Oper) := ops.zipIdx.map fun x => (x.2, x.1)
def rem (ops : List Oper) (listed : Array Bool) : List (Nat × Oper) := (pairs ops).filter fun x => !listed.getD x.1 true

theorem mem_pairs {ops : List Oper} {x : Nat × Oper} : x ∈ pairs ops ↔ ops[x.1]? = some x.2 := by
  obtain ⟨i, o⟩ := x
  simp only [pairs, List.mem_map, Prod.mk.injEq, Prod.exists]
  constructor
  · rintro ⟨o', i', h, rfl, rfl⟩
    exact List.mem_zipIdx_iff_getElem?.1 h
  · intro h
    exact ⟨o, i, List.mem_zipIdx_iff_getElem?.2 h, rfl, rfl⟩
theorem pairs_sorted (ops : List Oper) : (pairs ops).Pairwise fun x y => x.1 < y.1 := by
  unfold pairs
  rw [List.pairwise_map, List.zipIdx_eq_zip_range']
  have : ∀ (l : List Oper) (k m : Nat), (l.zip (List.range' k m)).Pairwise fun x y => x.2 < y.2 := by
    intro l
    induction l with
    | nil => intro k m; simp
    | cons o t ih =>
      intro k m
      cases m with
      | zero => simp
      | succ m =>
        simp only [List.range'_succ, List.zip_cons_cons, List.pairwise_cons]
        refine ⟨fun y hy => ?_, ih _ _⟩
        have := (List.of_mem_zip hy).2
        rw [List.mem_range'_1] at this
        omega
  exact this ops 0 ops.length

structure OkAt (ops : List Oper) (B : List Nat) : Prop where
  sel : ∀ (i : Nat) (o : Oper), ops[i]? = some o → ∀ cs b, o.op ≠ .select cs b
  dep : ∀ (i : Nat) (o : Oper), ops[i]? = some o → ∀ e ∈ o.after, Region.binds .any e = true → e.on < i
  lt : ∀ (i : Nat) (o : Oper), ops[i]? = some o → ∀ j, ancB B i j = true → j < i
  apart : ∀ (i : Nat) (o : Oper), ops[i]? = some o → ∀ (j : Nat) (oj : Oper), j < i → ops[j]? = some oj → ancB B i j = false → oj.apart ops.toArray o = true
  close : ∀ (i : Nat) (o : Oper), ops[i]? = some o → ∀ j, j < i → ancB B i j = true → ∃ e ∈ o.after, Region.binds .any e = true ∧ (e.on = j ∨ ancB B e.on j = true)

theorem OkAt.of {ops : List Oper} {B : List Nat} (h : lexOkB ops B = true) : OkAt ops B := by
  have key : ∀ (i : Nat) (o : Oper), ops[i]? = some o → _ := fun i o ho => (List.all_eq_true.1 h) (o, i) (List.mem_zipIdx_iff_getElem?.2 ho)
  have hdep : ∀ (i : Nat) (o : Oper), ops[i]? = some o → ∀ e ∈ o.after, Region.binds .any e = true → e.on < i := by
    intro i o ho e he hb
    have h1 := key i o ho
    simp only [Bool.and_eq_true, List.all_eq_true, decide_eq_true_eq] at h1
    exact h1.1.2 e.on (List.mem_map.2 ⟨e, List.mem_filter.2 ⟨by simpa using he, hb⟩, rfl⟩)
  refine ⟨fun i o ho cs b hsel => ?_, hdep, fun i o ho j hj => ?_, fun i o ho j oj hlt hoj ha => ?_, fun i o ho j hlt ha => ?_⟩
  · have h1 := key i o ho
    simp [hsel] at h1
  · have h1 := key i o ho
    simp only [Bool.and_eq_true, decide_eq_true_eq] at h1
    rcases Nat.lt_or_ge j i with hlt | hge
    · exact hlt
    · have : (B.getD i 0).testBit j = false := Nat.testBit_lt_two_pow (Nat.lt_of_lt_of_le h1.1.1.1 (Nat.pow_le_pow_right (by omega) hge))
      unfold ancB at hj
      rw [this] at hj
      cases hj
  · have h1 := key i o ho
    simp only [Bool.and_eq_true, List.all_eq_true, List.mem_range, Bool.or_eq_true] at h1
    have h2 := (h1.2 j hlt).1
    rw [ha] at h2
    have h3 := h2.resolve_left (by simp)
    rwa [List.getD_eq_getElem?_getD, hoj, Option.getD_some] at h3
  · have h1 := key i o ho
    simp only [Bool.and_eq_true, List.all_eq_true, List.mem_range, Bool.or_eq_true] at h1
    have h2 := (h1.2 j hlt).2
    rw [ha] at h2
    have h3 := h2.resolve_left (by simp)
    obtain ⟨d, hd, h4⟩ := List.any_eq_true.1 h3
    obtain ⟨e, he, rfl⟩ := List.mem_map.1 hd
    obtain ⟨he1, he2⟩ := List.mem_filter.1 he
    simp only [Bool.or_eq_true, beq_iff_eq] at h4
    exact ⟨e, by simpa using he1, he2, h4⟩

theorem rem_set {l : List Oper} {listed : Array Bool} {j : Nat} {oj : Oper} {l1 l2 : List (Nat × Oper)} (hl : l.length ≤ listed.size) (h : rem l listed = l1 ++ (j, oj) :: l2) : rem l (listed.setIfInBounds j true) = l1 ++ l2 := by
  have hs : (l1 ++ (j, oj) :: l2).Pairwise fun x y => x.1 < y.1 := by rw [← h]; exact (pairs_sorted l).filter _
  have hjl : j < l.length := by
    have : (j, oj) ∈ rem l listed := by rw [h]; simp
    have h2 := mem_pairs.1 (List.mem_filter.1 this).1
    exact (List.getElem?_eq_some_iff.1 h2).1
  have e : rem l (listed.setIfInBounds j true) = (rem l listed).filter fun x => decide (x.1 ≠ j) := by
    unfold rem
    rw [List.filter_filter]
    refine List.filter_congr fun x hx => ?_
    by_cases hxj : x.1 = j
    · subst hxj
      have : x.1 < listed.size := by omega
      simp [this]
    · rw [getD_set_ne true (Ne.symm hxj)]
      simp [hxj]
  rw [e, h, List.filter_append, List.filter_cons]
  rw [List.pairwise_append, List.pairwise_cons] at hs
  obtain ⟨_, ⟨h1, _⟩, h2⟩ := hs
  have f1 : l1.filter (fun x => decide (x.1 ≠ j)) = l1 := List.filter_eq_self.2 fun x hx => by
    have := h2 x hx (j, oj) List.mem_cons_self
    simp only at this
    simp; omega
  have f2 : l2.filter (fun x => decide (x.1 ≠ j)) = l2 := List.filter_eq_self.2 fun x hx => by
    have := h1 x hx
    simp only at this
    simp; omega
  rw [f1, f2]
  simp

theorem mem_take {l : List Oper} {n0 : Nat} {x : Nat × Oper} : x ∈ pairs (l.take n0) ↔ l[x.1]? = some x.2 ∧ x.1 < n0 := by
  rw [mem_pairs, List.getElem?_take]
  constructor
  · intro h
    split at h
    · rename_i hlt
      exact ⟨h, hlt⟩
    · cases h
  · rintro ⟨h, hlt⟩
    rw [if_pos hlt]; exact h

/-- The operations from n0 on come in one order, behind all others. -/
def tailOk (l : List Oper) (B : List Nat) (n0 : Nat) : Bool :=
  decide (n0 ≤ l.length) && ((List.range l.length).all fun t => decide (t < n0) || (List.range n0).all fun j => ancB B t j) &&
    Region.seqB .any l.toArray (l.length - n0) n0 (Array.replicate n0 true ++ Array.replicate (l.length - n0) false)

theorem lex_sound {l : List Oper} {n0 : Nat} {Q : Exit → Act → World → Prop} (hok : OkAt l B) (htl : tailOk l B n0 = true) (hst : ∀ j sp x v w w', φ j = some sp → Le w w' → sp x v w → sp x v w') (hm : ∀ m w, J (m + 1) w → J m w) :
    ∀ (fuel : Nat) (listed : Array Bool) (F : Facts) (a : Act) (w : World), fuel = (rem (l.take n0) listed).length + (l.length - n0) → listed.size = l.length → (∀ (i : Nat) (o : Oper), l[i]? = some o → listed.getD i true = true → ∀ j, ancB B i j = true → listed.getD j true = true) →
      (∀ t, n0 ≤ t → t < l.length → listed.getD t true = false) →
      (∀ j, j < l.length → listed.getD j true = false → F j = none) → J (rem (l.take n0) listed).length w → factsAt φ F (fun _ => true) w →
      lexR P l.toArray J Le φ B (rem (l.take n0) listed) (fun a F => ∀ m w, J m w → factsAt φ F (fun _ => true) w → wpList P l.toArray Q (l.drop n0) a w) F a → wpAny P .any l.toArray Q fuel listed a w := by
  simp only [tailOk, Bool.and_eq_true, decide_eq_true_eq, List.all_eq_true, List.mem_range, Bool.or_eq_true] at htl
  obtain ⟨⟨hn0, htail⟩, hseq⟩ := htl
  have done : ∀ (listed : Array Bool) (F : Facts) (a : Act) (w : World), listed.size = l.length → (∀ t, n0 ≤ t → t < l.length → listed.getD t true = false) → rem (l.take n0) listed = [] → J 0 w → factsAt φ F (fun _ => true) w →
      lexR P l.toArray J Le φ B [] (fun a F => ∀ m w, J m w → factsAt φ F (fun _ => true) w → wpList P l.toArray Q (l.drop n0) a w) F a → wpAny P .any l.toArray Q (l.length - n0) listed a w := by
    intro listed F a w hl ht hnil hJ hf h
    have he : listed = Array.replicate n0 true ++ Array.replicate (l.length - n0) false := by
      apply Array.ext
      · simp [hl]; omega
      · intro i h1 h2
        have hi : i < l.length := by omega
        by_cases hin : i < n0
        · have : listed.getD i true = true := by
            cases hc : listed.getD i true with
            | true => rfl
            | false =>
              have hx : (i, l[i]) ∈ rem (l.take n0) listed := List.mem_filter.2 ⟨mem_take.2 ⟨List.getElem?_eq_getElem hi, hin⟩, by simp [hc]⟩
              rw [hnil] at hx
              cases hx
          simp [h1] at this
          simp [Array.getElem_append, hin, this]
        · have := ht i (by omega) hi
          simp [h1] at this
          simp [Array.getElem_append, hin, this]
    have h2 := wpAny_of_seq (md := .any) (P := P) (Q' := Q) (ops := l.toArray) (l.drop n0) n0 listed a w (fun j => by simp [List.getElem?_drop]) (by rw [List.length_drop, he]; exact hseq) (h 0 w hJ hf)
    rwa [List.length_drop] at h2
  intro fuel
  induction fuel with
  | zero =>
    intro listed F a w hfu hl hcl ht hF hJ hf h
    have hnil : rem (l.take n0) listed = [] := List.eq_nil_of_length_eq_zero (by omega)
    rw [hnil] at h hJ
    have := done listed F a w hl ht hnil hJ hf h
    rwa [show l.length - n0 = 0 by omega] at this
  | succ fuel ih =>
    intro listed F a w hfu hl hcl ht hF hJ hf h
    by_cases hnil : rem (l.take n0) listed = []
    · rw [hnil] at h hJ
      have := done listed F a w hl ht hnil hJ hf h
      rwa [show l.length - n0 = fuel + 1 by rw [hnil] at hfu; simp at hfu; omega] at this
    refine ⟨fun hr => ?_, fun j hj => ?_⟩
    · exfalso
      obtain ⟨x, hx⟩ := List.exists_mem_of_ne_nil _ hnil
      have hall : ∀ i, i < l.length → listed.getD i true = true := by
        intro i
        induction i using Nat.strongRecOn with
        | _ i ih =>
          intro hi
          cases hc : listed.getD i true with
          | true => rfl
          | false =>
            exfalso
            have : i ∈ Region.ready .any l.toArray listed := mem_ready.2 ⟨hc, l[i], by simp [hi], fun e he hb => by
              have hlt := hok.dep i l[i] (List.getElem?_eq_getElem hi) e he hb
              have := ih e.on hlt (by omega)
              have h2 : e.on < listed.size := by omega
              simpa [h2] using this⟩
            rw [hr] at this
            cases this
      obtain ⟨hx1, hx2⟩ := List.mem_filter.1 hx
      rw [hall x.1 (List.getElem?_eq_some_iff.1 (mem_take.1 hx1).1).1] at hx2
      simp at hx2
    · obtain ⟨hjl, oj, hoj, hdeps⟩ := mem_ready.1 hj
      have hoj' : l[j]? = some oj := by simpa using hoj
      have hjlt : j < l.length := (List.getElem?_eq_some_iff.1 hoj').1
      have hanc : ∀ i, ancB B j i = true → listed.getD i true = true := by
        intro i hi
        have hij := hok.lt j oj hoj' i hi
        obtain ⟨e, he, hb, h2⟩ := hok.close j oj hoj' i hij hi
        have h3 := hdeps e he hb
        have hej := hok.dep j oj hoj' e he hb
        have h4 : listed.getD e.on true = true := by
          have : e.on < listed.size := by omega
          simpa [this] using h3
        rcases h2 with rfl | h2
        · exact h4
        · exact hcl e.on l[e.on] (List.getElem?_eq_getElem (by omega)) h4 i h2
      have hjn : j < n0 := by
        rcases Nat.lt_or_ge j n0 with h1 | h1
        · exact h1
        · exfalso
          obtain ⟨x, hx⟩ := List.exists_mem_of_ne_nil _ hnil
          obtain ⟨hx1, hx2⟩ := List.mem_filter.1 hx
          have h2 := (htail j hjlt).resolve_left (by omega) x.1 (mem_take.1 hx1).2
          rw [hanc x.1 h2] at hx2
          simp at hx2
      have hmem : (j, oj) ∈ rem (l.take n0) listed := List.mem_filter.2 ⟨mem_take.2 ⟨hoj', hjn⟩, by rw [hjl]; rfl⟩
      obtain ⟨l1, l2, hsp⟩ := List.append_of_mem hmem
      have hs : (l1 ++ (j, oj) :: l2).Pairwise fun x y => x.1 < y.1 := by rw [← hsp]; exact (pairs_sorted _).filter _
      have hlt1 : ∀ x ∈ l1, x.1 < j := fun x hx => (List.pairwise_append.1 hs).2.2 x hx (j, oj) List.mem_cons_self
      have hah : ∀ x ∈ l1, x.1 ≠ j ∧ ancB B j x.1 = false ∧ ancB B x.1 j = false ∧ x.2.apart l.toArray oj = true ∧ (∀ cs b, x.2.op ≠ .select cs b) := by
        intro x hx
        have hxr : x ∈ rem (l.take n0) listed := by rw [hsp]; exact List.mem_append_left _ hx
        obtain ⟨hx1, hx2⟩ := List.mem_filter.1 hxr
        have hx3 := (mem_take.1 hx1).1
        have hx4 : listed.getD x.1 true = false := by simpa using hx2
        have a1 : ancB B j x.1 = false := by
          cases hc : ancB B j x.1 with
          | false => rfl
          | true => have := hanc _ hc; rw [hx4] at this; cases this
        have a2 : ancB B x.1 j = false := by
          cases hc : ancB B x.1 j with
          | false => rfl
          | true => have := hok.lt _ _ hx3 _ hc; have := hlt1 x hx; omega
        exact ⟨by have := hlt1 x hx; omega, a1, a2, hok.apart j oj hoj' x.1 x.2 (hlt1 x hx) hx3 a1, hok.sel _ _ hx3⟩
      have hsj := hok.sel j oj hoj'
      have hlen : (rem (l.take n0) listed).length = l1.length + l2.length + 1 := by rw [hsp]; simp; omega
      rw [hsp] at h
      rw [hlen] at hJ hfu
      have hFj : F j = none := hF j hjlt hjl
      have hset := rem_set (by rw [hl, List.length_take]; omega) hsp
      have ht' : ∀ t, n0 ≤ t → t < l.length → (listed.setIfInBounds j true).getD t true = false := fun t h1 h2 => by rw [getD_set_ne true (by omega)]; exact ht t h1 h2
      have hcl' : ∀ i o, l[i]? = some o → (listed.setIfInBounds j true).getD i true = true → ∀ k, ancB B i k = true → (listed.setIfInBounds j true).getD k true = true := by
        intro i o ho hi k hk
        by_cases hkj : k = j
        · subst hkj; simp [hl, hjlt]
        · rw [getD_set_ne true (Ne.symm hkj)]
          by_cases hij : i = j
          · subst hij; exact hanc k hk
          · rw [getD_set_ne true (Ne.symm hij)] at hi
            exact hcl i o ho hi k hk
      have hF' : ∀ x, ∀ k, k < l.length → (listed.setIfInBounds j true).getD k true = false → upd F j x k = none ∧ F k = none := by
        intro x k hkl hk
        have hkj : k ≠ j := fun e => by subst e; simp [hl, hjlt] at hk
        rw [getD_set_ne true (Ne.symm hkj)] at hk
        exact ⟨by simp [upd, hkj, hF k hkl hk], hF k hkl hk⟩
      unfold wpOp
      simp only [hoj]
      by_cases hw : Region.wanted oj (yielded l.toArray a.tmps) = true
      · simp only [hw, if_true]
        have hA := asks_of_lex hst hm hsj l1 F a (fun x hx => ⟨(hah x hx).1, (hah x hx).2.1, (hah x hx).2.2.2.1⟩) ⟨l2.length + 1, w, by rw [show l2.length + 1 + l1.length = l1.length + l2.length + 1 by omega]; exact hJ, hf⟩ hw h
        unfold Asks at hA
        cases hφ : φ j with
        | none =>
          simp only [hφ] at hA
          obtain ⟨v, hv⟩ := hA
          have hrun := hv _ w hJ (facts_mono hf fun _ _ => rfl)
          refine .inl ?_
          unfold Oper.wp
          rw [hrun]
          have h2 := lex_without (vj := v) (xj := argsOf a oj) hsj true l1 F a hah (fun x hx => (hah x hx).1) hFj hw rfl (fun _ _ => hv) (fun e => by cases e) (by simp only [hφ]; exact ⟨_, w, hJ, hf⟩) h
          simp only [hφ, Option.isSome_none, Bool.false_eq_true, and_false, if_false] at h2
          exact ih _ F _ w (by rw [hset, List.length_append]; omega) (by simpa using hl) hcl' ht' (fun k h1 hk => (hF' (#[], undef) k h1 hk).2) (by rw [hset, List.length_append]; exact hm _ _ hJ) hf (by rw [hset]; exact h2)
        | some sp =>
          simp only [hφ] at hA
          have hg := hA (l1.length + l2.length) w hJ (facts_mono hf fun _ _ => rfl)
          refine .inl (gives_wp hg fun v w' ⟨h1, h2, h3⟩ => ?_)
          have hfa := facts_all_upd hφ hst h2 h3 hf
          have h4 := lex_without (vj := v) (xj := argsOf a oj) hsj true l1 F a hah (fun x hx => (hah x hx).1) hFj hw rfl (fun _ e => by rw [hφ] at e; cases e) (fun e => by cases e) (by simp only [hφ]; exact ⟨_, w', h1, hfa⟩) h
          simp only [hφ, Option.isSome_some, and_self, if_true] at h4
          exact ih _ _ _ w' (by rw [hset, List.length_append]; omega) (by simpa using hl) hcl' ht' (fun k h1 hk => (hF' _ k h1 hk).1) (by rw [hset, List.length_append]; exact h1) hfa (by rw [hset]; exact h4)
      · simp only [hw, Bool.false_eq_true, if_false]
        have h2 := lex_without (vj := undef) (xj := argsOf a oj) hsj false l1 F a hah (fun x hx => (hah x hx).1) hFj (by simpa using hw) rfl (fun e => by cases e) (fun _ => rfl) (by simp only [Bool.false_eq_true, false_and, if_false]; exact ⟨_, w, hJ, hf⟩) h
        simp only [Bool.false_eq_true, false_and, if_false] at h2
        exact ih _ F _ w (by rw [hset, List.length_append]; omega) (by simpa using hl) hcl' ht' (fun k h1 hk => (hF' (#[], undef) k h1 hk).2) (by rw [hset, List.length_append]; exact hm _ _ hJ) hf (by rw [hset]; exact h2)

/-- A REGION THAT DRAWS ITS ORDER, in the order of the text; from n0 on its operations come in one order behind all others. -/
theorem wp_region_lex {id : Nat} {Q : Exit → Act → World → Prop} {a : Act} {w : World} {l : List Oper} (n0 : Nat) (hmx : P.follows .mixedOrders = true) (hB : (lexOk l && tailOk l (Region.before l.toArray).toList n0) = true)
    (J : Nat → World → Prop) (Le : World → World → Prop) (φ : Nat → Option Spec) (hst : ∀ j sp x v w w', φ j = some sp → Le w w' → sp x v w → sp x v w') (hm : ∀ m w, J (m + 1) w → J m w) (h0 : J n0 w.drew)
    (h : lexR P l.toArray J Le φ (Region.before l.toArray).toList (pairs (l.take n0)) (fun a F => ∀ m w, J m w → factsAt φ F (fun _ => true) w → wpList P l.toArray Q (l.drop n0) a w) (fun _ => none) a) : (Code.region id l.toArray true).wp P Q a w := by
  rw [Bool.and_eq_true] at hB
  refine wp_region_any hmx ?_
  have hn : n0 ≤ l.length := by
    have := hB.2
    simp only [tailOk, Bool.and_eq_true, decide_eq_true_eq] at this
    exact this.1.1
  have hr : rem (l.take n0) (Array.replicate l.length false) = pairs (l.take n0) := List.filter_eq_self.2 fun x hx => by
    have := (List.getElem?_eq_some_iff.1 (mem_take.1 hx).1).1
    simp [this]
  have hp : (pairs (l.take n0)).length = n0 := by simp [pairs]; omega
  have := lex_sound (Q := Q) (n0 := n0) (OkAt.of hB.1) hB.2 hst hm l.length (Array.replicate l.length false) (fun _ => none) a w.drew (by rw [hr, hp]; omega) (by simp) (fun i o ho hi => by
      have := (List.getElem?_eq_some_iff.1 ho).1
      simp [this] at hi) (fun t _ h2 => by simp [h2]) (fun _ _ _ => rfl) (by rw [hr, hp]; exact h0) (fun _ _ _ _ _ hF => by cases hF) (by rw [hr]; exact h)
  simpa using this

/-- An operation that only reckons. -/
theorem lex_pure {i : Nat} {o : Oper} {r : List (Nat × Oper)} {fin : Act → Facts → Prop} {F : Facts} {a : Act} (hg : o.guard = none) (hφ : φ i = none)
    (h : ∀ K : Act → Prop, (∀ a, lexR P ops J Le φ B r fin F a → K a) → ∃ v, (∀ w, (execOp a.eval o).run P w = .ok (.value v) w) ∧ K (a.put o.dst v)) : lexR P ops J Le φ B ((i, o) :: r) fin F a := by
  have hw : Region.wanted o (yielded ops a.tmps) = true := by simp [Region.wanted, hg]
  obtain ⟨v, h1, h2⟩ := h _ (fun _ h => h)
  simp only [lexR, lexStep, hw, if_true, hφ]
  exact ⟨v, fun _ w _ _ => h1 w, h2⟩
/-- An operation that reads what is known: its value is told. -/
theorem lex_load {i : Nat} {o : Oper} {r : List (Nat × Oper)} {fin : Act → Facts → Prop} {F : Facts} {a : Act} (hg : o.guard = none) (hφ : φ i = none) (v : Value)
    (h1 : ∀ m w, J m w → factsAt φ F (ancB B i) w → (execOp a.eval o).run P w = .ok (.value v) w) (h2 : lexR P ops J Le φ B r fin F (a.put o.dst v)) : lexR P ops J Le φ B ((i, o) :: r) fin F a := by
  have hw : Region.wanted o (yielded ops a.tmps) = true := by simp [Region.wanted, hg]
  simp only [lexR, lexStep, hw, if_true, hφ]
  exact ⟨v, h1, h2⟩
/-- Strings put together. -/
theorem lex_sadd {i : Nat} {o : Oper} {r : List (Nat × Oper)} {fin : Act → Facts → Prop} {F : Facts} {a : Act} {t t2 : TypeId} {x y : Operand} {p q : ByteArray} (hg : o.guard = none) (hφ : φ i = none)
    (ho : o.op = .binOp .add t x y t2) (hx : a.eval x = .string p) (hy : a.eval y = .string q) (hs : p.size + q.size ≤ 9223372036854775807) (h2 : lexR P ops J Le φ B r fin F (a.put o.dst (.string (p ++ q)))) : lexR P ops J Le φ B ((i, o) :: r) fin F a := by
  refine lex_load hg hφ (.string (p ++ q)) (fun m w _ _ => ?_) h2
  have e : ¬ ((9223372036854775807 : Int) < p.size + q.size) := by omega
  unfold execOp
  simp [ho, hx, hy, binOp, Op.stringOp, eqGuard, IntKind.max, IntKind.signed, IntKind.bits, e]
/-- An operation of which a specification is known. -/
theorem lex_eff {i : Nat} {o : Oper} {r : List (Nat × Oper)} {fin : Act → Facts → Prop} {F : Facts} {a : Act} {sp : Spec} (hg : o.guard = none) (hφ : φ i = some sp)
    (h1 : ∀ m w, J (m + 1) w → factsAt φ F (ancB B i) w → gives P o a w (fun v w' => J m w' ∧ Le w w' ∧ sp (argsOf a o) v w'))
    (h2 : ∀ v, Poss J φ (upd F i (argsOf a o, v)) → lexR P ops J Le φ B r fin (upd F i (argsOf a o, v)) (a.put o.dst v)) : lexR P ops J Le φ B ((i, o) :: r) fin F a := by
  have hw : Region.wanted o (yielded ops a.tmps) = true := by simp [Region.wanted, hg]
  simp only [lexR, lexStep, hw, if_true, hφ]
  exact ⟨h1, h2⟩
/-- .. which doesn't look at the operands: they are forgotten. -/
theorem lex_eff' {i : Nat} {o : Oper} {r : List (Nat × Oper)} {fin : Act → Facts → Prop} {F : Facts} {a : Act} {sp : Spec} (hg : o.guard = none) (hφ : φ i = some sp) (hx : ∀ x y v w, sp x v w → sp y v w)
    (h1 : ∀ m w, J (m + 1) w → factsAt φ F (ancB B i) w → gives P o a w (fun v w' => J m w' ∧ Le w w' ∧ sp #[] v w'))
    (h2 : ∀ v x, (∃ m w, J m w ∧ sp #[] v w ∧ factsAt φ F (fun _ => true) w) → lexR P ops J Le φ B r fin (upd F i (x, v)) (a.put o.dst v)) (hF : F i = none) : lexR P ops J Le φ B ((i, o) :: r) fin F a := by
  refine lex_eff hg hφ (fun m w hJ hf => gives_mono (h1 m w hJ hf) fun v w' ⟨a1, a2, a3⟩ => ⟨a1, a2, hx _ _ _ _ a3⟩) (fun v hP => ?_)
  obtain ⟨m, w, hJ, hf⟩ := hP
  have e : upd F i (argsOf a o, v) i = some (argsOf a o, v) := by simp [upd]
  exact h2 v _ ⟨m, w, hJ, hx _ _ _ _ (hf i rfl _ _ _ e hφ), facts_drop hF hf⟩
/-- A call of a named function. -/
theorem gives_call {f : FuncId} (hc : ∀ args w, (callFunc f args).run P w = .ok (.enter f args) w) {dst : Option Tmp} {xs : Array Operand} {ats : Array TypeId} {ty : TypeId} {pos : String} {after : Array Edge} {guard : Option (Nat × Bool)} {a : Act} {w : World} {R : Value → World → Prop}
    (h : Calls P f (xs.toList.map a.eval).toArray w fun e w' => ∃ v, e = .returned v ∧ R v w') : gives P { dst, op := .call { callee := .value (.func f), args := xs, argTypes := ats }, type := ty, pos, after, guard } a w R := by
  unfold gives
  rw [execOp_call_go, hc]
  simp only [Array.append_empty, Array.empty_append]
  have e : xs.map a.eval = (xs.toList.map a.eval).toArray := by cases xs; simp
  rw [e]
  exact h
theorem gives_value {o : Oper} {a : Act} {w w' : World} {v : Value} {R : Value → World → Prop} (h : (execOp a.eval o).run P w = .ok (.value v) w') (hr : R v w') : gives P o a w R := by
  unfold gives
  rw [h]
  exact hr
theorem lex_nil {fin : Act → Facts → Prop} {F : Facts} {a : Act} (h : fin a F) : lexR P ops J Le φ B [] fin F a := h
end
end Go.Proofs.YthlebalbiokjpaaGreat
namespace Go.Proofs.YthlebalbiokjpaaGreat
open Go.RowKit

/-- A byte as a cell. -/
def bV (b : UInt8) : Value := .int .u8 (b.toNat : Int)
/-- The slice whose address is A reads as these cells. -/
def Rd (w : World) (A : Option Addr) (vs : List Value) : Prop := ∀ j u, vs[j]? = some u → ∃ ad, A = some ad ∧ w.cell? (ad.add j) = some u

theorem addr_block (a : Addr) (n : Nat) : (a.add n).block = a.block := by unfold Addr.add; split <;> rfl
theorem addr_add (a : Addr) (i j : Nat) : (a.add i).add j = a.add (i + j) := by
  unfold Addr.add
  by_cases hi : i = 0 <;> by_cases hj : j = 0 <;> simp [hi, hj, Nat.add_assoc]

section
variable {w w' : World} {A : Option Addr} {vs : List Value}
theorem Rd.nil : Rd w A [] := fun j u h => by simp at h
theorem Rd.keep (h : Rd w A vs) (hk : ∀ ad, A = some ad → w'.heap[ad.block]? = w.heap[ad.block]?) : Rd w' A vs := fun j u hu => by
  obtain ⟨ad, e, hc⟩ := h j u hu
  exact ⟨ad, e, (World.cell?_of_block (by rw [addr_block]; exact hk ad e)).trans hc⟩
theorem Rd.lt (h : Rd w A vs) (hn : vs ≠ []) : ∃ ad, A = some ad ∧ ad.block < w.heap.size := by
  obtain ⟨v, r, rfl⟩ := List.exists_cons_of_ne_nil hn
  obtain ⟨ad, e, hc⟩ := h 0 v rfl
  have := World.block_lt_of_cell? w _ hc
  rw [addr_block] at this
  exact ⟨ad, e, this⟩
theorem Rd.below {B : Nat} (h : Rd w A vs) (hb : Below B w w') (hB : w.heap.size ≤ B) : Rd w' A vs := fun j u hu => by
  obtain ⟨ad, e, hc⟩ := h j u hu
  have := World.block_lt_of_cell? w _ hc
  exact ⟨ad, e, (hb.cell (by omega)).trans hc⟩
theorem Rd.belowA {B : Nat} (h : Rd w A vs) (hb : Below B w w') (hA : ∀ ad, A = some ad → ad.block < B) : Rd w' A vs := h.keep fun ad e => hb.block _ (hA ad e)
theorem Rd.grown {row : Option Nat} (h : Rd w A vs) (hg : w.grownBy w' row) (hr : ∀ ad, A = some ad → row ≠ some ad.block) : Rd w' A vs := fun j u hu => by
  obtain ⟨ad, e, hc⟩ := h j u hu
  have h1 := World.block_lt_of_cell? w _ hc
  exact ⟨ad, e, (World.cell?_of_block (hg.block _ h1 (by rw [addr_block]; exact fun x => hr ad e x.symm))).trans hc⟩
theorem Rd.drewN (h : Rd w A vs) (n : Nat) : Rd (w.drewN n) A vs := h
theorem Rd.drew (h : Rd w A vs) : Rd w.drew A vs := h
theorem Rd.at_ (h : Rd w A vs) {k : Nat} (hk : k < vs.length) : ∃ ad, A = some ad ∧ w.cell? (ad.add k) = some vs[k] := h k _ (List.getElem?_eq_getElem hk)
theorem Rd.of_own {base : Nat} {e : TypeId} {size n c : Nat} (h : w.ownsRow base e size (.slice A n c) n vs) : Rd w A vs := by
  intro j u hu
  have hn : 0 < n := by
    rcases Nat.eq_zero_or_pos n with rfl | hp
    · have := h.1; simp at this; subst this; simp at hu
    · exact hp
  obtain ⟨g, cap, hv, _, hlt⟩ := h.form hn
  have hA : A = some ⟨g, 0, none⟩ := by injection hv
  exact ⟨_, hA, h.cells (g := g) (by rw [hA]; rfl) j u hu⟩
theorem Rd.cut (h : Rd w A vs) {k n : Nat} {A' : Option Addr} (hA : ∀ ad, A = some ad → A' = some (ad.add k)) : Rd w A' ((vs.drop k).take n) := by
  intro j u hu
  rw [List.getElem?_take] at hu
  split at hu
  · rw [List.getElem?_drop] at hu
    obtain ⟨ad, e, hc⟩ := h _ u hu
    exact ⟨_, hA ad e, by rw [addr_add]; exact hc⟩
  · cases hu
end

def bstr (l : List UInt8) : ByteArray := ⟨l.toArray⟩
theorem bstr_append (a b : List UInt8) : bstr a ++ bstr b = bstr (a ++ b) := by
  apply ByteArray.ext
  simp [bstr, ByteArray.data_append]
theorem bstr_size (a : List UInt8) : (bstr a).size = a.length := by simp [bstr, ByteArray.size]
def strN (ns : List Int) : ByteArray := bstr (ns.map fun n => UInt8.ofNat n.toNat)
theorem foldl_push (ns : List Int) : ∀ (s : ByteArray), ns.foldl (fun r n => r.push (UInt8.ofNat n.toNat)) s = ⟨s.data ++ (ns.map fun n => UInt8.ofNat n.toNat).toArray⟩ := by
  induction ns with
  | nil => intro s; simp
  | cons n t ih => intro s; simp only [List.foldl_cons, ih]; simp [ByteArray.push]
theorem run_loadCells {P : Program} (w : World) (a : Addr) (vs : List Value) (h : ∀ j u, vs[j]? = some u → w.cell? (a.add j) = some u) : (loadCells a vs.length).run P w = .ok vs.toArray w := by
  have h2 := run_firstCells_some (P := P) w 1 vs.length a vs.length vs.length vs (by simp) h
  simpa [Builtin.firstCells] using h2
/-- string(b), of a slice of bytes that reads as ns. -/
theorem run_conv_nums {P : Program} (w : World) (src dst e : TypeId) (hs : P.underlying src = some (.slice e)) (he : P.underlying e = some (.int .u8)) (hd : P.underlying dst = some .string)
    (A : Option Addr) (n c : Nat) (ns : List Int) (hn : ns.length = n) (hr : Rd w A (ns.map (Value.int .u8))) : (convert src dst (.slice A n c)).run P w = .ok (.string (strN ns)) w := by
  rw [run_convert_bytes_string w src dst e A n c hs he hd]
  subst hn
  rcases ns with _ | ⟨x, t⟩
  · cases A with
    | none => simp [Conv.bytesToString, strN, bstr]; rfl
    | some a => show (Conv.bytesToString (.slice (some a) 0 c)).run P w = _; rw [run_bytesToString w a 0 c [] (by simpa using run_loadCells (P := P) w a [] (fun j u h => by simp at h))]; simp [strN, bstr]; rfl
  · obtain ⟨a, rfl, _⟩ := hr 0 _ rfl
    rw [run_bytesToString w a _ c (x :: t) (by
      have h2 := run_loadCells (P := P) w a ((x :: t).map (Value.int .u8)) (fun j u h => by
        obtain ⟨ad, e1, h3⟩ := hr j u h
        injection e1 with e1
        subst e1
        exact h3)
      simpa using h2)]
    rw [foldl_push]
    simp [strN, bstr]
theorem run_conv_bytes {P : Program} (w : World) (src dst e : TypeId) (hs : P.underlying src = some (.slice e)) (he : P.underlying e = some (.int .u8)) (hd : P.underlying dst = some .string)
    (A : Option Addr) (n c : Nat) (bs : List UInt8) (hn : bs.length = n) (hr : Rd w A (bs.map bV)) : (convert src dst (.slice A n c)).run P w = .ok (.string (bstr bs)) w := by
  have e1 : bs.map bV = (bs.map fun b => (b.toNat : Int)).map (Value.int .u8) := by simp [bV]
  rw [e1] at hr
  rw [run_conv_nums w src dst e hs he hd A n c _ (by simpa using hn) hr]
  have e2 : (bs.map fun b => (b.toNat : Int)).map (fun n => UInt8.ofNat n.toNat) = bs := by
    rw [List.map_map]
    exact (List.map_congr_left (fun b _ => by simp)).trans (List.map_id _)
  rw [strN, e2]
theorem Rd.block {w : World} {g : Nat} {cs : Array Value} {E : TypeId} {fr : Nat × Nat} (h : w.heap[g]? = some (.cells cs E fr)) (off : Nat) : Rd w (some ⟨g, off, none⟩) (cs.toList.drop off) := fun j u hu => by
  refine ⟨_, rfl, ?_⟩
  have e : (⟨g, off, none⟩ : Addr).add j = ⟨g, off + j, none⟩ := by unfold Addr.add; split <;> simp_all
  rw [e, cell_of_row w g (off + j) cs E fr h]
  rw [List.getElem?_drop] at hu
  simpa using hu

/-- .. and its cells lie below block B. -/
def RdB (w : World) (B : Nat) (A : Option Addr) (vs : List Value) : Prop := Rd w A vs ∧ (vs = [] ∨ ∃ ad, A = some ad ∧ ad.block < B)
theorem RdB.keep {w w' : World} {B : Nat} {A : Option Addr} {vs : List Value} (h : RdB w B A vs) (hk : ∀ k, k < B → w'.heap[k]? = w.heap[k]?) : RdB w' B A vs := by
  refine ⟨?_, h.2⟩
  rcases h.2 with rfl | ⟨ad, rfl, hlt⟩
  · exact Rd.nil
  · exact h.1.keep fun ad' e => by cases e; exact hk _ hlt
theorem Rd.toB {w : World} {A : Option Addr} {vs : List Value} (h : Rd w A vs) : RdB w w.heap.size A vs := ⟨h, by
  by_cases hn : vs = []
  · exact .inl hn
  · exact .inr (h.lt hn)⟩
theorem RdB.more {w : World} {B B' : Nat} {A : Option Addr} {vs : List Value} (h : RdB w B A vs) (hB : B ≤ B') : RdB w B' A vs := ⟨h.1, h.2.imp id fun ⟨ad, e, hl⟩ => ⟨ad, e, by omega⟩⟩

theorem blk_cell {w : World} {g : Nat} {cs : Array Value} {E : TypeId} {fr : Nat × Nat} (h : w.heap[g]? = some (.cells cs E fr)) (k : Nat) : w.cell? ⟨g, k, none⟩ = cs[k]? := cell_of_row w g k cs E fr h
theorem blk_free {w : World} {g : Nat} {cs : Array Value} {E : TypeId} (h : w.heap[g]? = some (.cells cs E (0, 0))) (k : Nat) : w.frozen? ⟨g, k, none⟩ = false := by simp [World.frozen?, h]
theorem blk_set {w : World} {g : Nat} {cs : Array Value} {E : TypeId} {fr : Nat × Nat} (h : w.heap[g]? = some (.cells cs E fr)) (k : Nat) (u : Value) : (w.setCell ⟨g, k, none⟩ u).heap[g]? = some (.cells (cs.setIfInBounds k u) E fr) := by
  simp [World.setCell, Array.getElem?_modify, h]

theorem grown_setCell {a w : World} {row : Option Nat} (h : a.grownBy w row) {p : Addr} (hp : a.heap.size ≤ p.block) (u : Value) : a.grownBy (w.setCell p u) row :=
  ⟨h.os, h.tape, h.output, by simpa [World.setCell] using h.size, fun i hi hne => (Below.heap_setCell w p u i (by omega)).trans (h.block i hi hne)⟩
/-- An own row's value, opened. -/
theorem own_slice {w : World} {B : Nat} {e : TypeId} {size : Nat} {v : Value} {n : Nat} {xs : List Value} (h : w.ownsRow B e size v n xs) : ∃ A c, v = .slice A n c ∧ n ≤ c ∧ Rd w A xs ∧ (∀ ad, A = some ad → B ≤ ad.block ∧ ad.block < w.heap.size) := by
  rcases h.2 with ⟨rfl, rfl⟩ | ⟨g, cap, cur, rfl, hb, hg, hn, _⟩
  · exact ⟨none, 0, rfl, Nat.le_refl _, by have := h.1; simp at this; subst this; exact Rd.nil, fun ad e => by cases e⟩
  · exact ⟨_, _, rfl, hn, Rd.of_own h, fun ad e => by cases e; exact ⟨hb, (Array.getElem?_eq_some_iff.1 hg).1⟩⟩
/-- A cut of a slice of bytes, as the walk writes it. -/
theorem Rd.sl {w : World} {ad : Addr} {bs : List UInt8} (h : Rd w (some ad) (bs.map bV)) {c : Nat} (hc : bs.length ≤ c) (k m : Nat) (hk : 0 < k) : Rd w (if c = k then some ad else some ⟨ad.block, ad.off + k, none⟩) (((bs.drop k).take m).map bV) := by
  rw [List.map_take, List.map_drop]
  split
  · rw [List.drop_of_length_le (by simp; omega)]
    simpa using Rd.nil
  · exact h.cut fun ad' e => by cases e; unfold Addr.add; rw [if_neg (by omega)]
theorem Rd.hd {w : World} {A : Option Addr} {bs : List UInt8} (h : Rd w A (bs.map bV)) (m : Nat) : Rd w A ((bs.take m).map bV) := by
  intro j u hu
  rw [List.map_take, List.getElem?_take] at hu
  split at hu
  · exact h j u hu
  · cases hu
theorem below_drewN {B : Nat} {a w : World} (h : Below B a w) (n : Nat) : Below B a (w.drewN n) := ⟨h.os, h.tape, h.output, h.size, h.block⟩
theorem grownBy_of_below {w w' : World} (h : Below w.heap.size w w') (row : Option Nat) : w.grownBy w' row := ⟨h.os, h.tape, h.output, h.size, fun k hk _ => h.block k hk⟩

/-- The built-in append, by an equation on its run. -/
theorem wpList_append_run {P : Program} {ops : Array Oper} {rest : List Oper} {o : Oper} {a : Act} {Q : Exit → Act → World → Prop} {w w' : World} (hgd : o.guard = none) (s x : Operand) (t u : TypeId)
    (ho : o.op = .call { callee := .builtin .append, args := #[s, x], argTypes := #[t, u] }) {vs vx v' : Value} (hs : a.eval s = vs) (hx : a.eval x = vx)
    (hrun : (Builtin.append_ #[t, u] o.type #[vs, vx]).run P w = .ok v' w') (h : wpList P ops Q rest (a.put o.dst v') w') : wpList P ops Q (o :: rest) a w :=
  wpList_plain hgd fun K hK => by
    unfold Oper.wp execOp
    simp only [ho, resolve, invoke, builtin, Sem.run_bind, Sem.run_pure, Result.andThen_ok, List.map_toArray, List.map_cons, List.map_nil, hs, hx, hrun]
    exact hK _ _ h

/-- append(v, x...) of an own row and of a slice that reads as news (nil, empty or not). -/
theorem run_append_rd {P : Program} (w : World) (base : Nat) (t ty e : TypeId) (i : TypeInfo) (z : Value) (size bytes : Nat) (ht : P.underlying t = some (.slice e)) (hi : P.info? e = some i) (hz : i.zero = some z)
    (hsize : i.size = size) (hby : i.bytes = bytes) (hzs : z.cells.size = size) (hsz : 0 < size)
    (v : Value) (n : Nat) (xs : List Value) (hown : w.ownsRow base e size v n xs) (A : Option Addr) (m c : Nat) (news : List Value) (hl : news.length = m * size) (hr : Rd w A news) (h1 : ∀ u ∈ news, u.oneCell' = true)
    (h63 : n + m ≤ maxLen) (hbytes : (n + m) * bytes ≤ 140737488355328) (hbase : base ≤ w.heap.size) :
    ∃ v' w', (Builtin.append_ #[t, t] ty #[v, .slice A m c]).run P w = .ok v' w' ∧ w'.ownsRow base e size v' (n + m) (xs ++ news) ∧ w.grownBy w' v.ownBlock ∧ (v'.ownBlock = v.ownBlock ∨ v'.ownBlock = some w.heap.size) := by
  cases A with
  | none =>
    have hn : news = [] := by
      cases news with
      | nil => rfl
      | cons x r => obtain ⟨ad, e1, _⟩ := hr 0 x rfl; cases e1
    subst hn
    have hm : m = 0 := by
      rcases Nat.eq_zero_or_pos m with h | h
      · exact h
      · have := Nat.mul_pos h hsz; simp at hl; omega
    subst hm
    refine ⟨v, w, ?_, by simpa using hown, World.grownBy.refl w _, .inl rfl⟩
    rcases hown.2 with ⟨rfl, rfl⟩ | ⟨g, cap, cur, rfl, _, _, hnc, _⟩
    · simp [Builtin.append_, run_underlying ht, sizeOf, typeInfo, hi, Builtin.lenOf, Builtin.firstCells]
    · simp [Builtin.append_, run_underlying ht, sizeOf, typeInfo, hi, Builtin.lenOf, Builtin.firstCells, hnc, storeCells]
  | some ad =>
    obtain ⟨v', w', hrun, h2, h3, _, h5⟩ := run_append_own_at (P := P) w base t ty e i z size bytes ht hi hz hsize hby hzs hsz v n xs hown ad m c news hl (fun j u hu => by
      obtain ⟨ad', e1, h⟩ := hr j u hu
      cases e1
      exact h) h1 h63 hbytes hbase
    exact ⟨v', w', hrun, h2, h3, h5⟩

/-- A whole struct stored into a block of its own. -/
theorem run_store_row {P : Program} (w : World) (b : Nat) (T E : TypeId) (cur cs : Array Value) (hb : w.heap[b]? = some (.cells cur E (0, 0))) (hs : cur.size = cs.size) (hi : (P.info? T).map (·.size) = some cs.size) (h1 : cs.toList.all (·.oneCell') = true) :
    (Instr.storeAt T (.pointer (some ⟨b, 0, none⟩)) (.agg cs)).run P w = .ok () (w.setRow b cs) := by
  have h := run_storeCells_at P b 0 E cs.toList 0 cur w hb (by simp [hs]) (fun u hu => List.all_eq_true.1 h1 u hu)
  obtain ⟨i, hi1, hi2⟩ := Option.map_eq_some_iff.1 hi
  have e : (cur.toList.take (0 + 0) ++ cs.toList ++ cur.toList.drop (0 + 0 + cs.toList.length)).toArray = cs := by
    rw [List.drop_of_length_le (by simp [hs])]; simp
  rw [e] at h
  simp only [Instr.storeAt, Instr.sureAddr, Sem.run_bind, Sem.run_pure, Result.andThen_ok, storeVar, sizeOf, typeInfo]
  simp [hi1, hi2, Value.cells, h]
theorem wpList_store_row {P : Program} {ops : Array Oper} {rest : List Oper} {o : Oper} {a : Act} {Q : Exit → Act → World → Prop} {w : World} (hgd : o.guard = none) (x y : Operand) (T : TypeId) (ho : o.op = .store T x y) (b : Nat) (E : TypeId) (cur cs : Array Value) (hx : a.eval x = .pointer (some ⟨b, 0, none⟩)) (hy : a.eval y = .agg cs)
    (hb : w.heap[b]? = some (.cells cur E (0, 0))) (hs : cur.size = cs.size) (hi : (P.info? T).map (·.size) = some cs.size) (h1 : cs.toList.all (·.oneCell') = true) (h : wpList P ops Q rest (a.put o.dst undef) (w.setRow b cs)) : wpList P ops Q (o :: rest) a w :=
  wpList_plain hgd fun K hK => by
    unfold Oper.wp execOp
    simp only [ho, Sem.run_bind, Sem.run_pure, Result.andThen_ok, hx, hy, run_store_row w b T E cur cs hb hs hi h1]
    exact hK _ _ h
theorem run_load_row {P : Program} (w : World) (b : Nat) (T E : TypeId) (cs : Array Value) {fr : Nat × Nat} (hb : w.heap[b]? = some (.cells cs E fr)) {d : TypeDesc} (hu : P.underlying T = some d) (hd : d.isRow = true) (hi : (P.info? T).map (·.size) = some cs.size) :
    (Instr.loadAt T (.pointer (some ⟨b, 0, none⟩))).run P w = .ok (.agg cs) w := by
  have := run_loadAt_mid (P := P) w b 0 T cs.toList d (fun j v hv => by rw [Nat.zero_add, cell_of_row w b j cs E fr hb]; simpa using hv) hu hd (by simpa using hi)
  simpa using this
end Go.Proofs.YthlebalbiokjpaaGreat
