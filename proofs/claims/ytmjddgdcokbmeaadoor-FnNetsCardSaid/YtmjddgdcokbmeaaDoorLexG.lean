/- Regions of open order with guarded operations: an operation whose guard is known is passed by, or done. -/
import Derived.Test.YtmjddgdcokbmeaaDoorLex
namespace Go.Proofs.YtmjddgdcokbmeaaDoor
open Go.RowKit
section
variable {P : Program} {ops : Array Oper} {J : Nat → World → Prop} {Le : World → World → Prop} {φ : Nat → Option Spec} {B : List Nat}
theorem wanted_of {o : Oper} {f : Nat → Option Bool} {j : Nat} {b c : Bool} (hg : o.guard = some (j, b)) (hf : f j = some c) : Region.wanted o f = (c == b) := by
  unfold Region.wanted
  rw [hg]
  simp [hf]
theorem yielded_of {ops : Array Oper} {tmps : Array Value} {j : Nat} {o : Oper} {t : Tmp} {b : Bool} (h1 : ops[j]? = some o) (h2 : o.dst = some t) (h3 : tmps[t]? = some (.bool b)) : yielded ops tmps j = some b := by
  unfold yielded
  rw [h1]
  simp [h2, h3]
theorem lex_skip {i : Nat} {o : Oper} {r : List (Nat × Oper)} {fin : Act → Facts → Prop} {F : Facts} {a : Act} {j : Nat} {b c : Bool} (hg : o.guard = some (j, b)) {oj : Oper} {tj : Tmp} (f1 : ops[j]? = some oj) (f2 : oj.dst = some tj) (f3 : a.tmps[tj]? = some (.bool c)) (hc : (c == b) = false)
    (h2 : lexR P ops J Le φ B r fin F (a.put o.dst undef)) : lexR P ops J Le φ B ((i, o) :: r) fin F a := by
  have hw := (wanted_of hg (yielded_of f1 f2 f3)).trans hc
  simp only [lexR, lexStep, hw, Bool.false_eq_true, if_false]
  exact h2
theorem lex_pureG {i : Nat} {o : Oper} {r : List (Nat × Oper)} {fin : Act → Facts → Prop} {F : Facts} {a : Act} {j : Nat} {b c : Bool} (hg : o.guard = some (j, b)) {oj : Oper} {tj : Tmp} (f1 : ops[j]? = some oj) (f2 : oj.dst = some tj) (f3 : a.tmps[tj]? = some (.bool c)) (hc : (c == b) = true) (hφ : φ i = none)
    (h : ∀ K : Act → Prop, (∀ a, lexR P ops J Le φ B r fin F a → K a) → ∃ v, (∀ w, (execOp a.eval o).run P w = .ok (.value v) w) ∧ K (a.put o.dst v)) : lexR P ops J Le φ B ((i, o) :: r) fin F a := by
  have hw := (wanted_of hg (yielded_of f1 f2 f3)).trans hc
  obtain ⟨v, h1, h2⟩ := h _ (fun _ h => h)
  simp only [lexR, lexStep, hw, if_true, hφ]
  exact ⟨v, fun _ w _ _ => h1 w, h2⟩
theorem lex_loadG {i : Nat} {o : Oper} {r : List (Nat × Oper)} {fin : Act → Facts → Prop} {F : Facts} {a : Act} {j : Nat} {b c : Bool} (hg : o.guard = some (j, b)) {oj : Oper} {tj : Tmp} (f1 : ops[j]? = some oj) (f2 : oj.dst = some tj) (f3 : a.tmps[tj]? = some (.bool c)) (hc : (c == b) = true) (hφ : φ i = none) (v : Value)
    (h1 : ∀ m w, J m w → factsAt φ F (ancB B i) w → (execOp a.eval o).run P w = .ok (.value v) w) (h2 : lexR P ops J Le φ B r fin F (a.put o.dst v)) : lexR P ops J Le φ B ((i, o) :: r) fin F a := by
  have hw := (wanted_of hg (yielded_of f1 f2 f3)).trans hc
  simp only [lexR, lexStep, hw, if_true, hφ]
  exact ⟨v, h1, h2⟩
theorem lex_effG {i : Nat} {o : Oper} {r : List (Nat × Oper)} {fin : Act → Facts → Prop} {F : Facts} {a : Act} {sp : Spec} {j : Nat} {b c : Bool} (hg : o.guard = some (j, b)) {oj : Oper} {tj : Tmp} (f1 : ops[j]? = some oj) (f2 : oj.dst = some tj) (f3 : a.tmps[tj]? = some (.bool c)) (hc : (c == b) = true) (hφ : φ i = some sp) (hx : ∀ x y v w, sp x v w → sp y v w)
    (h1 : ∀ m w, J (m + 1) w → factsAt φ F (ancB B i) w → gives P o a w (fun v w' => J m w' ∧ Le w w' ∧ sp #[] v w'))
    (h2 : ∀ v x, (∃ m w, J m w ∧ sp #[] v w) → lexR P ops J Le φ B r fin (upd F i (x, v)) (a.put o.dst v)) : lexR P ops J Le φ B ((i, o) :: r) fin F a := by
  have hw := (wanted_of hg (yielded_of f1 f2 f3)).trans hc
  simp only [lexR, lexStep, hw, if_true, hφ]
  refine ⟨fun m w hJ hf => gives_mono (h1 m w hJ hf) fun v w' ⟨a1, a2, a3⟩ => ⟨a1, a2, hx _ _ _ _ a3⟩, fun v hP => ?_⟩
  obtain ⟨m, w, hJ, hf⟩ := hP
  have e : upd F i (argsOf a o, v) i = some (argsOf a o, v) := by simp [upd]
  exact h2 v _ ⟨m, w, hJ, hx _ _ _ _ (hf i rfl _ _ _ e hφ)⟩
/-- The same, so that nothing looks into it. -/
structure LexG (P : Program) (ops : Array Oper) (J : Nat → World → Prop) (Le : World → World → Prop) (φ : Nat → Option Spec) (B : List Nat) (l : List (Nat × Oper)) (fin : Act → Facts → Prop) (F : Facts) (a : Act) : Prop where
  out : lexR P ops J Le φ B l fin F a
theorem lexg_nil {fin : Act → Facts → Prop} {F : Facts} {a : Act} (h : fin a F) : LexG P ops J Le φ B [] fin F a := ⟨h⟩
theorem lexg_skip {i : Nat} {o : Oper} {r : List (Nat × Oper)} {fin : Act → Facts → Prop} {F : Facts} {a : Act} {j : Nat} {b c : Bool} (hg : o.guard = some (j, b)) {oj : Oper} {tj : Tmp} (f1 : ops[j]? = some oj) (f2 : oj.dst = some tj) (f3 : a.tmps[tj]? = some (.bool c)) (hc : (c == b) = false)
    (h2 : ∀ K : Act → Prop, (∀ a, LexG P ops J Le φ B r fin F a → K a) → K (a.put o.dst undef)) : LexG P ops J Le φ B ((i, o) :: r) fin F a := ⟨lex_skip hg f1 f2 f3 hc (h2 _ fun _ h => h).out⟩
/-- .. where the test itself was passed by. -/
theorem lexg_skipU {i : Nat} {o : Oper} {r : List (Nat × Oper)} {fin : Act → Facts → Prop} {F : Facts} {a : Act} {j : Nat} {b : Bool} (hg : o.guard = some (j, b)) {oj : Oper} {tj : Tmp} (f1 : ops[j]? = some oj) (f2 : oj.dst = some tj) (f3 : a.tmps[tj]? = some undef)
    (h2 : ∀ K : Act → Prop, (∀ a, LexG P ops J Le φ B r fin F a → K a) → K (a.put o.dst undef)) : LexG P ops J Le φ B ((i, o) :: r) fin F a := by
  have hy : yielded ops a.tmps j = none := by
    unfold yielded
    rw [f1]
    simp [f2, f3, undef]
  have hw : Region.wanted o (yielded ops a.tmps) = false := by
    unfold Region.wanted
    rw [hg]
    simp [hy]
  refine ⟨?_⟩
  simp only [lexR, lexStep, hw, Bool.false_eq_true, if_false]
  exact (h2 _ fun _ h => h).out
theorem lexg_pure {i : Nat} {o : Oper} {r : List (Nat × Oper)} {fin : Act → Facts → Prop} {F : Facts} {a : Act} (hg : o.guard = none) (hφ : φ i = none)
    (h : ∀ K : Act → Prop, (∀ a, LexG P ops J Le φ B r fin F a → K a) → ∃ v, (∀ w, (execOp a.eval o).run P w = .ok (.value v) w) ∧ K (a.put o.dst v)) : LexG P ops J Le φ B ((i, o) :: r) fin F a :=
  ⟨lex_pure hg hφ fun K hK => h K fun a ha => hK a ha.out⟩
theorem lexg_pureG {i : Nat} {o : Oper} {r : List (Nat × Oper)} {fin : Act → Facts → Prop} {F : Facts} {a : Act} {j : Nat} {b c : Bool} (hg : o.guard = some (j, b)) {oj : Oper} {tj : Tmp} (f1 : ops[j]? = some oj) (f2 : oj.dst = some tj) (f3 : a.tmps[tj]? = some (.bool c)) (hc : (c == b) = true) (hφ : φ i = none)
    (h : ∀ K : Act → Prop, (∀ a, LexG P ops J Le φ B r fin F a → K a) → ∃ v, (∀ w, (execOp a.eval o).run P w = .ok (.value v) w) ∧ K (a.put o.dst v)) : LexG P ops J Le φ B ((i, o) :: r) fin F a :=
  ⟨lex_pureG hg f1 f2 f3 hc hφ fun K hK => h K fun a ha => hK a ha.out⟩
theorem lexg_load {i : Nat} {o : Oper} {r : List (Nat × Oper)} {fin : Act → Facts → Prop} {F : Facts} {a : Act} (hg : o.guard = none) (hφ : φ i = none) (v : Value)
    (h1 : ∀ m w, J m w → factsAt φ F (ancB B i) w → (execOp a.eval o).run P w = .ok (.value v) w) (h2 : LexG P ops J Le φ B r fin F (a.put o.dst v)) : LexG P ops J Le φ B ((i, o) :: r) fin F a := ⟨lex_load hg hφ v h1 h2.out⟩
theorem lexg_loadG {i : Nat} {o : Oper} {r : List (Nat × Oper)} {fin : Act → Facts → Prop} {F : Facts} {a : Act} {j : Nat} {b c : Bool} (hg : o.guard = some (j, b)) {oj : Oper} {tj : Tmp} (f1 : ops[j]? = some oj) (f2 : oj.dst = some tj) (f3 : a.tmps[tj]? = some (.bool c)) (hc : (c == b) = true) (hφ : φ i = none) (v : Value)
    (h1 : ∀ m w, J m w → factsAt φ F (ancB B i) w → (execOp a.eval o).run P w = .ok (.value v) w) (h2 : LexG P ops J Le φ B r fin F (a.put o.dst v)) : LexG P ops J Le φ B ((i, o) :: r) fin F a := ⟨lex_loadG hg f1 f2 f3 hc hφ v h1 h2.out⟩
theorem lexg_eff {i : Nat} {o : Oper} {r : List (Nat × Oper)} {fin : Act → Facts → Prop} {F : Facts} {a : Act} {sp : Spec} (hg : o.guard = none) (hφ : φ i = some sp) (hx : ∀ x y v w, sp x v w → sp y v w)
    (h1 : ∀ m w, J (m + 1) w → factsAt φ F (ancB B i) w → gives P o a w (fun v w' => J m w' ∧ Le w w' ∧ sp #[] v w'))
    (h2 : ∀ v x, (∃ m w, J m w ∧ sp #[] v w ∧ factsAt φ F (fun _ => true) w) → LexG P ops J Le φ B r fin (upd F i (x, v)) (a.put o.dst v)) (hF : F i = none) : LexG P ops J Le φ B ((i, o) :: r) fin F a :=
  ⟨lex_eff' hg hφ hx h1 (fun v x hh => (h2 v x hh).out) hF⟩
theorem lexg_effG {i : Nat} {o : Oper} {r : List (Nat × Oper)} {fin : Act → Facts → Prop} {F : Facts} {a : Act} {sp : Spec} {j : Nat} {b c : Bool} (hg : o.guard = some (j, b)) {oj : Oper} {tj : Tmp} (f1 : ops[j]? = some oj) (f2 : oj.dst = some tj) (f3 : a.tmps[tj]? = some (.bool c)) (hc : (c == b) = true) (hφ : φ i = some sp) (hx : ∀ x y v w, sp x v w → sp y v w)
    (h1 : ∀ m w, J (m + 1) w → factsAt φ F (ancB B i) w → gives P o a w (fun v w' => J m w' ∧ Le w w' ∧ sp #[] v w'))
    (h2 : ∀ v x, (∃ m w, J m w ∧ sp #[] v w) → LexG P ops J Le φ B r fin (upd F i (x, v)) (a.put o.dst v)) : LexG P ops J Le φ B ((i, o) :: r) fin F a :=
  ⟨lex_effG hg f1 f2 f3 hc hφ hx h1 (fun v x hh => (h2 v x hh).out)⟩
end
end Go.Proofs.YtmjddgdcokbmeaaDoor
