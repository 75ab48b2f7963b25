/- Rows of structs in general: lists of things whose cells stand one behind the other. -/
import Derived.Test.YtmjddgdcokbmeaaDoorLexC

namespace Go.Proofs.YtmjddgdcokbmeaaDoor
open Go.RowKit
set_option linter.unusedVariables false
set_option linter.unusedSimpArgs false
set_option maxRecDepth 20000
set_option maxHeartbeats 600000

def rowC {α : Type} (f : α → List Value) (l : List α) : List Value := l.flatMap f
theorem rowC_cons {α : Type} (f : α → List Value) (x : α) (l : List α) : rowC f (x :: l) = f x ++ rowC f l := List.flatMap_cons
theorem rowC_app {α : Type} (f : α → List Value) (a b : List α) : rowC f (a ++ b) = rowC f a ++ rowC f b := List.flatMap_append
theorem rowC_len {α : Type} {f : α → List Value} {n : Nat} (hf : ∀ x, (f x).length = n) (l : List α) : (rowC f l).length = l.length * n := by
  induction l with
  | nil => simp [rowC]
  | cons a r ih => rw [rowC_cons, List.length_append, hf, ih, List.length_cons, Nat.succ_mul]; omega
theorem rowC_one {α : Type} {f : α → List Value} (h1 : ∀ x, ∀ u ∈ f x, u.oneCell' = true) (l : List α) : ∀ u ∈ rowC f l, u.oneCell' = true := by
  intro u hu
  obtain ⟨g, _, hg⟩ := List.mem_flatMap.1 hu
  exact h1 g u hg
theorem rowC_at {α : Type} {f : α → List Value} {n : Nat} (hf : ∀ x, (f x).length = n) (l : List α) (i : Nat) (h : i < l.length) (j : Nat) (hj : j < n) : (rowC f l)[i * n + j]? = (f l[i])[j]? := by
  induction l generalizing i with
  | nil => simp at h
  | cons a r ih =>
    rw [rowC_cons]
    cases i with
    | zero => rw [List.getElem?_append_left (by rw [hf]; omega)]; simp
    | succ i =>
      have e : (i + 1) * n = i * n + n := Nat.succ_mul _ _
      rw [List.getElem?_append_right (by rw [hf]; omega), hf, show (i + 1) * n + j - n = i * n + j by omega, ih i (by simpa using h)]
      simp
theorem rowC_take {α : Type} {f : α → List Value} {n : Nat} (hf : ∀ x, (f x).length = n) (l : List α) (k : Nat) (hk : k ≤ l.length) : rowC f (l.take k) = (rowC f l).take (k * n) := by
  have e : rowC f l = rowC f (l.take k) ++ rowC f (l.drop k) := by rw [← rowC_app, List.take_append_drop]
  rw [e, List.take_left' (by rw [rowC_len hf, List.length_take]; congr 1; omega)]
theorem rowC_drop {α : Type} {f : α → List Value} {n : Nat} (hf : ∀ x, (f x).length = n) (l : List α) (k : Nat) (hk : k ≤ l.length) : rowC f (l.drop k) = (rowC f l).drop (k * n) := by
  have e : rowC f l = rowC f (l.take k) ++ rowC f (l.drop k) := by rw [← rowC_app, List.take_append_drop]
  rw [e, List.drop_left' (by rw [rowC_len hf, List.length_take]; congr 1; omega)]
theorem rowC_set {α : Type} {f : α → List Value} {n : Nat} (hf : ∀ x, (f x).length = n) (l : List α) (k : Nat) (hk : k < l.length) (x : α) (j : Nat) (hj : j < n) (u : Value) (hx : (f l[k]).set j u = f x) : (rowC f l).set (k * n + j) u = rowC f (l.set k x) := by
  induction l generalizing k with
  | nil => simp at hk
  | cons a r ih =>
    rw [rowC_cons]
    cases k with
    | zero =>
      simp only [List.getElem_cons_zero] at hx
      rw [List.set_append, if_pos (by rw [hf]; omega), Nat.zero_mul, Nat.zero_add, hx, List.set_cons_zero, rowC_cons]
    | succ k =>
      have e : (k + 1) * n = k * n + n := Nat.succ_mul _ _
      simp only [List.getElem_cons_succ] at hx
      rw [List.set_append, if_neg (by rw [hf]; omega), hf, show (k + 1) * n + j - n = k * n + j by omega, ih k (by simpa using hk) hx, List.set_cons_succ, rowC_cons]
/-- A slice that reads as a list, its cells from block B on. -/
def RL {α : Type} (f : α → List Value) (B : Nat) (l : List α) (v : Value) (w : World) : Prop := ∃ A c, v = .slice A l.length c ∧ l.length ≤ c ∧ Rd w A (rowC f l) ∧ ∀ ad, A = some ad → B ≤ ad.block ∧ ad.block < w.heap.size
theorem RL.nil {α : Type} (f : α → List Value) (B : Nat) (w : World) : RL f B [] (.slice none 0 0) w := ⟨none, 0, rfl, Nat.le_refl _, Rd.nil, fun ad e => by cases e⟩
theorem RL.more {α : Type} {f : α → List Value} {B B' : Nat} {l : List α} {v : Value} {w : World} (h : RL f B l v w) (hB : B' ≤ B) : RL f B' l v w := by
  obtain ⟨A, c, h1, h2, h3, h4⟩ := h
  exact ⟨A, c, h1, h2, h3, fun ad e => ⟨Nat.le_trans hB (h4 ad e).1, (h4 ad e).2⟩⟩
theorem RL.below {α : Type} {f : α → List Value} {B : Nat} {l : List α} {v : Value} {w w' : World} (h : RL f B l v w) (hb : LeB w w') : RL f B l v w' := by
  obtain ⟨A, c, h1, h2, h3, h4⟩ := h
  exact ⟨A, c, h1, h2, h3.below hb (Nat.le_refl _), fun ad e => ⟨(h4 ad e).1, Nat.lt_of_lt_of_le (h4 ad e).2 hb.size⟩⟩
/-- .. where a block below B may have turned. -/
theorem RL.grown {α : Type} {f : α → List Value} {B g : Nat} {l : List α} {v : Value} {w w' : World} (h : RL f B l v w) (hb : w.grownBy w' (some g)) (hg : g < B) : RL f B l v w' := by
  obtain ⟨A, c, h1, h2, h3, h4⟩ := h
  exact ⟨A, c, h1, h2, h3.grown hb (fun ad e q => by injection q with q; have := (h4 ad e).1; omega), fun ad e => ⟨(h4 ad e).1, Nat.lt_of_lt_of_le (h4 ad e).2 hb.size⟩⟩
theorem RL.own {α : Type} {f : α → List Value} {w : World} {B n : Nat} {e : TypeId} {v : Value} {l : List α} (h : w.ownsRow B e n v l.length (rowC f l)) : RL f B l v w := by
  obtain ⟨A, c, h1, h2, h3, h4⟩ := own_slice h
  exact ⟨A, c, h1, h2, h3, h4⟩
theorem own_belowR {w w' : World} {B : Nat} {e : TypeId} {size : Nat} {v : Value} {n : Nat} {xs : List Value} (h : w.ownsRow B e size v n xs) (hb : Below w.heap.size w w') : w'.ownsRow B e size v n xs :=
  h.kept (grownBy_of_below hb none) (by
    cases hv : v.ownBlock with
    | none => exact Or.inl rfl
    | some b => exact Or.inr (by intro e; cases e))
theorem row_at {α : Type} {f : α → List Value} {n : Nat} (hf : ∀ x, (f x).length = n) (hn : 0 < n) {w : World} {A : Option Addr} {l : List α} (h : Rd w A (rowC f l)) (k : Nat) (hk : k < l.length) : ∃ ad, A = some ad ∧ ∀ j u, (f l[k])[j]? = some u → w.cell? ((ad.add (k * n)).add j) = some u := by
  obtain ⟨x, hx⟩ : ∃ x, (f l[k])[0]? = some x := ⟨(f l[k])[0]'(by rw [hf]; exact hn), List.getElem?_eq_getElem _⟩
  obtain ⟨ad, rfl, -⟩ := h (k * n + 0) x ((rowC_at hf l k hk 0 hn).trans hx)
  refine ⟨ad, rfl, fun j u hu => ?_⟩
  have hj : j < n := by rw [← hf l[k]]; exact (List.getElem?_eq_some_iff.1 hu).1
  obtain ⟨ad', e, hc⟩ := h (k * n + j) u ((rowC_at hf l k hk j hj).trans hu)
  cases e
  rw [addr_add]
  exact hc
end Go.Proofs.YtmjddgdcokbmeaaDoor
