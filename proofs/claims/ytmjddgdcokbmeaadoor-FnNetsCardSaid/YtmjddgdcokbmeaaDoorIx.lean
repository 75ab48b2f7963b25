/- The place of the first element of a list that meets a test: plain lemmas. -/
import Derived.Test.YtmjddgdcokbmeaaDoorRlB
namespace Go.Proofs.YtmjddgdcokbmeaaDoor
open Go.RowKit
set_option linter.unusedVariables false
set_option linter.unusedSimpArgs false
set_option maxRecDepth 200000
set_option maxHeartbeats 1000000

/-- The place of the first element that meets q, or -1. -/
def idxG {α : Type} (q : α → Bool) : List α → Int
  | [] => -1
  | f :: l => if q f then 0 else (if idxG q l < 0 then -1 else idxG q l + 1)
theorem idxG_ge {α : Type} (q : α → Bool) (l : List α) : -1 ≤ idxG q l := by
  induction l with
  | nil => simp [idxG]
  | cons f l ih => unfold idxG; split; omega; split <;> omega
theorem idxG_lt {α : Type} (q : α → Bool) (l : List α) : idxG q l < l.length := by
  induction l with
  | nil => simp [idxG]
  | cons f l ih => unfold idxG; simp only [List.length_cons]; split; omega; split <;> omega
theorem idxG_neg {α : Type} (q : α → Bool) (l : List α) : idxG q l = -1 ↔ ∀ f ∈ l, q f = false := by
  induction l with
  | nil => simp [idxG]
  | cons f l ih =>
    have := idxG_ge q l
    unfold idxG
    split
    · rename_i h
      simp [h]
    · rename_i h
      split
      · have h1 : idxG q l = -1 := by omega
        simp only [true_iff]
        intro g hg
        rcases List.mem_cons.1 hg with rfl | hg
        · simpa using h
        · exact ih.1 h1 g hg
      · constructor
        · intro e; omega
        · intro hall
          have := ih.2 (fun g hg => hall g (List.mem_cons_of_mem _ hg))
          omega
theorem idxG_hit {α : Type} (q : α → Bool) (l : List α) (k : Nat) (hk : k < l.length) (hq : q l[k] = true) (hb : ∀ j (h : j < k), q (l[j]'(by omega)) = false) : idxG q l = k := by
  induction l generalizing k with
  | nil => simp at hk
  | cons f l ih =>
    cases k with
    | zero =>
      have : q f = true := hq
      simp [idxG, this]
    | succ k =>
      have h0 : q f = false := hb 0 (by omega)
      have := ih k (by simpa using hk) (by simpa using hq) (fun j hj => by simpa using hb (j + 1) (by omega))
      unfold idxG
      rw [h0, this]
      simp
      omega
theorem idxG_at {α : Type} (q : α → Bool) (l : List α) (k : Nat) (h : idxG q l = k) : ∃ hk : k < l.length, q l[k] = true ∧ ∀ j (hj : j < k), q (l[j]'(by omega)) = false := by
  induction l generalizing k with
  | nil => simp [idxG] at h
  | cons f l ih =>
    unfold idxG at h
    split at h
    · rename_i hf
      obtain rfl : k = 0 := by omega
      exact ⟨by simp, hf, fun j hj => absurd hj (Nat.not_lt_zero _)⟩
    · rename_i hf
      split at h
      · omega
      · obtain ⟨m, hm⟩ : ∃ m : Nat, idxG q l = m := ⟨(idxG q l).toNat, by omega⟩
        obtain rfl : k = m + 1 := by omega
        obtain ⟨h1, h2, h3⟩ := ih m hm
        refine ⟨by simpa using h1, by simpa using h2, fun j hj => ?_⟩
        cases j with
        | zero => simpa using hf
        | succ j => simpa using h3 j (by omega)
end Go.Proofs.YtmjddgdcokbmeaaDoor
