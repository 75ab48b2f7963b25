/- Rows of structs that come in as arguments are read as lists. -/
import Derived.Test.YtokoijnpbdafgaaDoorRow
import Derived.Test.YtokoijnpbdafgaaDoorRl
import Derived.Deep.Slices
import Derived.Deep.Fields
import Derived.ChangeSame
import Derived.Carry
namespace Go.Proofs.YtokoijnpbdafgaaDoor
open Go.ChangeShapes Go.WideShapes Go.ChangeAt Go.RowKit Go.Deep
set_option linter.unusedVariables false
set_option linter.unusedSimpArgs false
set_option maxRecDepth 20000

theorem rows_of {α : Type} (f : α → List Value) (Q : α → Prop) {n : Nat} (hf : ∀ x, (f x).length = n) {w : World} {a : Addr} (len : Nat) (h : ∀ i, i < len → ∃ x : α, Q x ∧ ∀ j u, (f x)[j]? = some u → w.cell? ((a.add (i * n)).add j) = some u) :
    ∃ l : List α, l.length = len ∧ Rd w (some a) (rowC f l) ∧ ∀ x ∈ l, Q x := by
  induction len with
  | zero => exact ⟨[], rfl, Rd.nil, fun x hx => by cases hx⟩
  | succ k ih =>
    obtain ⟨l, hl, hr, hq⟩ := ih fun i hi => h i (by omega)
    obtain ⟨x, hx, hc⟩ := h k (by omega)
    refine ⟨l ++ [x], by simp [hl], fun j u hu => ?_, fun y hy => ?_⟩
    · rw [rowC_app] at hu
      by_cases hj : j < (rowC f l).length
      · rw [List.getElem?_append_left hj] at hu
        exact hr j u hu
      · rw [List.getElem?_append_right (by omega)] at hu
        have e := rowC_len hf l
        have e1 : rowC f [x] = f x := by simp [rowC]
        rw [e1] at hu
        refine ⟨a, rfl, ?_⟩
        have := hc _ u hu
        rw [addr_add] at this
        rw [← this]
        congr 2
        rw [e, hl] at hj ⊢
        omega
    · rcases List.mem_append.1 hy with hy | hy
      · exact hq y hy
      · rw [List.mem_singleton.1 hy]; exact hx
section
variable {H : Type} {enc : TypeId × Value → H} {P : Program} {w : World} {base : Nat} {sp : Nat → Bool} {held : Bool}
theorem open_rows {α : Type} (f : α → List Value) (Q : α → Prop) {fs : Array Field} (hf : ∀ x, (f x).length = fs.size) {t e : TypeId} {fuel : Nat} {cs : List Value} {d : DataW H × List MemPlace} (ht : P.underlying t = some (.slice e)) (he : P.underlying e = some (.struct fs))
    (hone : oneCellFields P fs = true) (hC : P.cellsOf e = fs.size)
    (hx : ∀ vs : List Value, vs.length = fs.size → (∀ (j : Nat) (fd : Field), fs[j]? = some fd → ∃ (v : Value) (y : DataW H × List MemPlace) (n : Nat), vs[j]? = some v ∧ DataW.trod enc P w base sp held n fd.type [v] = some y) → ∃ x, f x = vs ∧ Q x)
    (h : DataW.trod enc P w base sp held fuel t cs = some d) : ∃ (A : Option Addr) (cap : Nat) (l : List α), cs = [.slice A l.length cap] ∧ l.length ≤ cap ∧ cap ≤ maxLen ∧ Rd w A (rowC f l) ∧ ∀ x ∈ l, Q x := by
  rcases open_slice ht h with ⟨rfl, -⟩ | ⟨a, len, cap, m, n, D, Pl, rfl, _, hl, hm, hmm, _, hi⟩
  · exact ⟨none, 0, [], rfl, Nat.le_refl _, Nat.zero_le _, Rd.nil, fun x hx => by cases hx⟩
  · obtain ⟨l, rfl, hr, hq⟩ := rows_of f Q hf (w := w) (a := a) len (fun i him => by
      obtain ⟨cs', hc, ht'⟩ := hi i (by split at hmm <;> omega)
      rw [hC] at hc
      obtain ⟨ys, n', -, -, -, hyl, hfd⟩ := DataW.trod_struct he ht'
      obtain ⟨_, hcl, hat⟩ := World.cells?_some hc
      obtain ⟨x, hx1, hx2⟩ := hx cs' hcl (fun j fd hj => by
        obtain ⟨ho, hk⟩ := hone_of hone j fd hj
        have hjl : j < fs.size := (Array.getElem?_eq_some_iff.1 hj).1
        have h1 := hfd j fd hj
        rw [ho, hk] at h1
        have e1 : (cs'.drop j).take 1 = [cs'[j]'(by omega)] := by
          rw [List.drop_eq_getElem_cons (by omega)]
          rfl
        rw [e1] at h1
        exact ⟨_, ys[j]'(by omega), n', List.getElem?_eq_getElem (by omega), h1.trans (List.getElem?_eq_getElem (by omega))⟩)
      refine ⟨x, hx2, fun j u hu => ?_⟩
      rw [hx1] at hu
      have hj : j < cs'.length := (List.getElem?_eq_some_iff.1 hu).1
      rw [hat j (by omega)]
      exact hu)
    exact ⟨some a, cap, l, rfl, hl, hm, hr, hq⟩
end
end Go.Proofs.YtokoijnpbdafgaaDoor
