/- Nets: the longest one that has an address: plain. -/
import Derived.Test.YtmjddgdcokbmeaaDoorNt
namespace Go.Proofs.YtmjddgdcokbmeaaDoor
set_option linter.unusedVariables false

def nt0 : Nt := ⟨0, 0⟩
def ntAt (l : List Nt) (i : Nat) : Nt := l.getD i nt0
theorem ntAt_get (l : List Nt) (i : Nat) (h : i < l.length) : ntAt l i = l[i] := by unfold ntAt; rw [List.getD_eq_getElem?_getD, List.getElem?_eq_getElem h]; rfl
/-- The place of the first one of the most bits, among the first i; -1 without one. -/
def lg (l : List Nt) (ip : Nat) : Nat → Int
  | 0 => -1
  | i + 1 => if hasB (ntAt l i) ip = true ∧ (lg l ip i < 0 ∨ (ntAt l (lg l ip i).toNat).bits < (ntAt l i).bits) then (i : Int) else lg l ip i
theorem lg_inv (l : List Nt) (ip : Nat) (i : Nat) : (-1 ≤ lg l ip i ∧ lg l ip i < i) ∧ (lg l ip i < 0 → ∀ j, j < i → hasB (ntAt l j) ip = false) ∧ (0 ≤ lg l ip i → hasB (ntAt l (lg l ip i).toNat) ip = true ∧ ∀ j, j < i → hasB (ntAt l j) ip = true → (ntAt l j).bits ≤ (ntAt l (lg l ip i).toNat).bits) := by
  induction i with
  | zero => exact ⟨⟨by simp [lg], by simp [lg]⟩, fun _ j h => absurd h (Nat.not_lt_zero _), fun h => by simp [lg] at h⟩
  | succ i ih =>
    obtain ⟨⟨a, b⟩, c, d⟩ := ih
    unfold lg
    split
    · rename_i h
      refine ⟨⟨by omega, by omega⟩, fun h2 => by omega, fun _ => ⟨by rw [Int.toNat_natCast]; exact h.1, fun j hj hh => ?_⟩⟩
      rw [Int.toNat_natCast]
      by_cases e : j = i
      · subst e; exact Nat.le_refl _
      · rcases h.2 with h2 | h2
        · rw [c h2 j (by omega)] at hh; cases hh
        · by_cases h0 : lg l ip i < 0
          · rw [c h0 j (by omega)] at hh; cases hh
          · have := (d (by omega)).2 j (by omega) hh
            omega
    · rename_i h
      refine ⟨⟨a, by omega⟩, fun h2 j hj => ?_, fun h2 => ⟨(d h2).1, fun j hj hh => ?_⟩⟩
      · by_cases e : j = i
        · subst e
          cases hb : hasB (ntAt l j) ip with
          | false => rfl
          | true => exact absurd ⟨hb, .inl h2⟩ h
        · exact c h2 j (by omega)
      · by_cases e : j = i
        · subst e
          by_cases h3 : (ntAt l (lg l ip j).toNat).bits < (ntAt l j).bits
          · exact absurd ⟨hh, .inr h3⟩ h
          · omega
        · exact (d h2).2 j (by omega) hh
theorem lg_no (l : List Nt) (ip i : Nat) (h : hasB (ntAt l i) ip = false) : lg l ip (i + 1) = lg l ip i := by
  conv => lhs; unfold lg
  rw [if_neg (by rw [h]; simp)]
theorem lg_new (l : List Nt) (ip i : Nat) (h : hasB (ntAt l i) ip = true) (h2 : lg l ip i < 0 ∨ (ntAt l (lg l ip i).toNat).bits < (ntAt l i).bits) : lg l ip (i + 1) = i := by
  conv => lhs; unfold lg
  rw [if_pos ⟨h, h2⟩]
theorem lg_old (l : List Nt) (ip i : Nat) (h2 : 0 ≤ lg l ip i) (h3 : (ntAt l i).bits ≤ (ntAt l (lg l ip i).toNat).bits) : lg l ip (i + 1) = lg l ip i := by
  conv => lhs; unfold lg
  rw [if_neg (by rintro ⟨_, h | h⟩ <;> omega)]
end Go.Proofs.YtmjddgdcokbmeaaDoor
