/- The walk by reckoning is right: cells read back. -/
import Derived.Test.YthlebalbiokjpaaGreatKh06
import Derived.Laws.MakeOwn
namespace Go.Proofs.YthlebalbiokjpaaGreat
open Go.RowKit
set_option linter.unusedVariables false
set_option linter.unusedSimpArgs false
/-- What holds d holds e. -/
def Holds (d e : Da) : Prop := ∀ (U : Ex) (W : World) (m : List Loc) (v : Value), Sees U W m v d → Sees U W m v e
theorem Holds.refl (d : Da) : Holds d d := fun _ _ _ _ h => h
inductive HoldsL : List Da → List Da → Prop
  | nil : HoldsL [] []
  | cons {d e : Da} {ds es : List Da} : Holds d e → HoldsL ds es → HoldsL (d :: ds) (e :: es)
theorem HoldsL.len {ds es : List Da} (h : HoldsL ds es) : ds.length = es.length := by
  induction h with
  | nil => rfl
  | cons _ _ ih => simp [ih]
theorem HoldsL.at_ {ds es : List Da} (h : HoldsL ds es) : ∀ (i : Nat) (e : Da), es[i]? = some e → ∃ d, ds[i]? = some d ∧ Holds d e := by
  induction h with
  | nil => intro i e he; simp at he
  | cons h1 _ ih =>
    intro i e he
    cases i with
    | zero => simp at he; subst he; exact ⟨_, rfl, h1⟩
    | succ i => obtain ⟨d, g1, g2⟩ := ih i e (by simpa using he); exact ⟨d, by simpa using g1, g2⟩
theorem holds_agg {ds es : List Da} (h : HoldsL ds es) : Holds (.agg ds) (.agg es) := by
  intro U W m v hv
  cases hv with
  | agg _ vs _ h1 h2 =>
    refine .agg _ vs _ (h1.trans h.len) fun i v e hv he => ?_
    · obtain ⟨d, g1, g2⟩ := h.at_ i e he
      exact g2 _ _ _ _ (h2 i v d hv g1)
theorem holds_ref {ds es : List Da} (h : HoldsL ds es) : Holds (.ref ds) (.ref es) := by
  intro U W m v hv
  cases hv with
  | ref _ ad u _ h1 h2 =>
    refine .ref _ ad u _ (fun j e he => ?_) (fun j e he => ?_)
    · obtain ⟨d, g1, -⟩ := h.at_ j e he
      exact h1 j d g1
    · obtain ⟨d, g1, g2⟩ := h.at_ j e he
      exact g2 _ _ _ _ (h2 j d g1)
theorem dI_law {d : Da} {x : Int} (h : dI d = some x) : Holds d (.I x) := by
  unfold dI at h
  split at h <;> cases h
  exact Holds.refl _
theorem dU32_law {d : Da} {x : Int} (h : dU32 d = some x) : Holds d (.v (.int .u32 x)) := by
  unfold dU32 at h
  split at h <;> cases h
  exact Holds.refl _
theorem dU8_law {d : Da} {x : Int} (h : dU8 d = some x) : Holds d (.v (.int .u8 x)) := by
  unfold dU8 at h
  split at h <;> cases h
  · exact Holds.refl _
  · intro U W m v hv
    cases hv
    exact .v _ _
theorem dBy_law {d : Da} {x : UInt8} (h : dBy d = some x) : Holds d (.u8 x) := by
  unfold dBy at h
  split at h <;> cases h
  exact Holds.refl _
theorem dS_law {d : Da} {x : ByteArray} (h : dS d = some x) : Holds d (.S x) := by
  unfold dS at h
  split at h <;> cases h
  exact Holds.refl _
theorem dB_law {d : Da} {x : Bool} (h : d.asB = some x) : Holds d (.b x) := fun U W m v hv => by rw [asB_eq hv h]; exact .b _ _
theorem holds_emp (k : Kd) (A : Option Addr) (U : Ex) (W : World) (m : List Loc) : Sees U W m (.slice A 0 0) (.lst k []) :=
  .lst _ A 0 k [] (fun _ _ => undef) (Nat.le_refl _) (fun i j d x hi => by simp at hi) (fun i j d x hi => by simp at hi)
theorem dL_law {k : Kd} {d : Da} {l : List (El k)} (h : dL k d = some l) : Holds d (.lst k l) := by
  unfold dL at h
  split at h
  · split at h
    · rename_i e; subst e; cases h; exact Holds.refl _
    · cases h
  · cases h
    intro U W m v hv
    cases hv
    exact holds_emp k _ U W m
  · cases h
    intro U W m v hv
    cases hv.v_inv
    exact holds_emp k _ U W m
  · cases h
/-- Cells read back. -/
theorem un_law : ∀ (k : Kd) (ds : List Da) (x : El k), un k ds = some x → HoldsL ds (row k x) := by
  intro k ds x h
  cases k
  case byte =>
    match ds, h with
    | [d0], h => exact .cons (dBy_law h) .nil
  case int =>
    match ds, h with
    | [d0], h => exact .cons (dI_law h) .nil
  case str =>
    match ds, h with
    | [d0], h => exact .cons (dS_law h) .nil
  case u32 =>
    match ds, h with
    | [d0], h => exact .cons (dU32_law h) .nil
  case bytes =>
    match ds, h with
    | [d0], h => exact .cons (dL_law h) .nil
  case net =>
    match ds, h with
    | [d0, d1], h =>
      simp only [un, Option.bind_eq_some_iff] at h
      obtain ⟨a0, h0, a1, h1, e⟩ := h
      cases e
      exact .cons (dI_law h0) <| .cons (dI_law h1) <| .nil
  case timer =>
    match ds, h with
    | [d0, d1], h =>
      simp only [un, Option.bind_eq_some_iff] at h
      obtain ⟨a0, h0, a1, h1, e⟩ := h
      cases e
      exact .cons (dI_law h0) <| .cons (dI_law h1) <| .nil
  case word =>
    match ds, h with
    | [d0, d1], h =>
      simp only [un, Option.bind_eq_some_iff] at h
      obtain ⟨a0, h0, a1, h1, e⟩ := h
      cases e
      exact .cons (dI_law h0) <| .cons (dI_law h1) <| .nil
  case rule =>
    match ds, h with
    | [d0, d1, d2, d3, d4, d5], h =>
      simp only [un, Option.bind_eq_some_iff] at h
      obtain ⟨a0, h0, a1, h1, a2, h2, a3, h3, a4, h4, a5, h5, e⟩ := h
      cases e
      exact .cons (dI_law h0) <| .cons (dI_law h1) <| .cons (dI_law h2) <| .cons (dI_law h3) <| .cons (dI_law h4) <| .cons (dB_law h5) <| .nil
  case place =>
    match ds, h with
    | [d0, d1, d2, d3], h =>
      simp only [un, Option.bind_eq_some_iff] at h
      obtain ⟨a0, h0, a1, h1, a2, h2, a3, h3, e⟩ := h
      cases e
      exact .cons (dI_law h0) <| .cons (dI_law h1) <| .cons (dI_law h2) <| .cons (dI_law h3) <| .nil
  case role =>
    match ds, h with
    | [d0, d1, d2, d3, d4], h =>
      simp only [un, Option.bind_eq_some_iff] at h
      obtain ⟨a0, h0, a1, h1, a2, h2, a3, h3, a4, h4, e⟩ := h
      cases e
      exact .cons (dS_law h0) <| .cons (dL_law h1) <| .cons (dI_law h2) <| .cons (dI_law h3) <| .cons (dI_law h4) <| .nil
  case user =>
    match ds, h with
    | [d0, d1, d2, d3, d4, d5], h =>
      simp only [un, Option.bind_eq_some_iff] at h
      obtain ⟨a0, h0, a1, h1, a2, h2, a3, h3, a4, h4, a5, h5, e⟩ := h
      cases e
      exact .cons (dS_law h0) <| .cons (dS_law h1) <| .cons (dS_law h2) <| .cons (dS_law h3) <| .cons (dI_law h4) <| .cons (dI_law h5) <| .nil
  case session =>
    match ds, h with
    | [d0, d1, d2, d3, d4, d5, d6, d7, d8, d9], h =>
      simp only [un, Option.bind_eq_some_iff] at h
      obtain ⟨a0, h0, a1, h1, a2, h2, a3, h3, a4, h4, a5, h5, a6, h6, a7, h7, a8, h8, a9, h9, e⟩ := h
      cases e
      exact .cons (dI_law h0) <| .cons (dI_law h1) <| .cons (dS_law h2) <| .cons (dI_law h3) <| .cons (dI_law h4) <| .cons (dI_law h5) <| .cons (dI_law h6) <| .cons (dI_law h7) <| .cons (dI_law h8) <| .cons (dI_law h9) <| .nil
  case fail =>
    match ds, h with
    | [d0, d1, d2], h =>
      simp only [un, Option.bind_eq_some_iff] at h
      obtain ⟨a0, h0, a1, h1, a2, h2, e⟩ := h
      cases e
      exact .cons (dS_law h0) <| .cons (dI_law h1) <| .cons (dI_law h2) <| .nil
  case record =>
    match ds, h with
    | [d0, d1, d2, d3, d4], h =>
      simp only [un, Option.bind_eq_some_iff] at h
      obtain ⟨a0, h0, a1, h1, a2, h2, a3, h3, a4, h4, e⟩ := h
      cases e
      exact .cons (dI_law h0) <| .cons (dI_law h1) <| .cons (dI_law h2) <| .cons (dI_law h3) <| .cons (dB_law h4) <| .nil
  case flow =>
    match ds, h with
    | [d0, d1, d2, d3, d4, d5, d6, d7, d8], h =>
      simp only [un, Option.bind_eq_some_iff] at h
      obtain ⟨a0, h0, a1, h1, a2, h2, a3, h3, a4, h4, a5, h5, a6, h6, a7, h7, a8, h8, e⟩ := h
      cases e
      exact .cons (dI_law h0) <| .cons (dS_law h1) <| .cons (dI_law h2) <| .cons (dI_law h3) <| .cons (dI_law h4) <| .cons (dI_law h5) <| .cons (dI_law h6) <| .cons (dI_law h7) <| .cons (dI_law h8) <| .nil
  case conn =>
    match ds, h with
    | [d0, d1, d2, d3, d4, d5, d6, d7, d8, d9, d10], h =>
      simp only [un, Option.bind_eq_some_iff] at h
      obtain ⟨a0, h0, a1, h1, a2, h2, a3, h3, a4, h4, a5, h5, a6, h6, a7, h7, a8, h8, a9, h9, a10, h10, e⟩ := h
      cases e
      exact .cons (dS_law h0) <| .cons (dI_law h1) <| .cons (dI_law h2) <| .cons (dI_law h3) <| .cons (dI_law h4) <| .cons (dI_law h5) <| .cons (dI_law h6) <| .cons (dI_law h7) <| .cons (dS_law h8) <| .cons (dS_law h9) <| .cons (dB_law h10) <| .nil
  case seg =>
    match ds, h with
    | [d0, d1, d2, d3, d4, d5, d6], h =>
      simp only [un, Option.bind_eq_some_iff] at h
      obtain ⟨a0, h0, a1, h1, a2, h2, a3, h3, a4, h4, a5, h5, a6, h6, e⟩ := h
      cases e
      exact .cons (dI_law h0) <| .cons (dI_law h1) <| .cons (dI_law h2) <| .cons (dI_law h3) <| .cons (dI_law h4) <| .cons (dI_law h5) <| .cons (dS_law h6) <| .nil
  case range =>
    match ds, h with
    | [d0, d1], h =>
      simp only [un, Option.bind_eq_some_iff] at h
      obtain ⟨a0, h0, a1, h1, e⟩ := h
      cases e
      exact .cons (dI_law h0) <| .cons (dI_law h1) <| .nil
  case config =>
    match ds, h with
    | [d0, d1, d2, d3, d4, d5, d6, d7], h =>
      simp only [un, Option.bind_eq_some_iff] at h
      obtain ⟨a0, h0, a1, h1, a2, h2, a3, h3, a4, h4, a5, h5, a6, h6, a7, h7, e⟩ := h
      cases e
      exact .cons (dI_law h0) <| .cons (dI_law h1) <| .cons (dI_law h2) <| .cons (dS_law h3) <| .cons (dS_law h4) <| .cons (dI_law h5) <| .cons (dL_law h6) <| .cons (dL_law h7) <| .nil
  case guests =>
    match ds, h with
    | [d0, d1, d2, d3, d4], h =>
      simp only [un, Option.bind_eq_some_iff] at h
      obtain ⟨a0, h0, a1, h1, a2, h2, a3, h3, a4, h4, e⟩ := h
      cases e
      exact .cons (dL_law h0) <| .cons (dL_law h1) <| .cons (dL_law h2) <| .cons (dL_law h3) <| .cons (dI_law h4) <| .nil
  case gateway =>
    match ds, h with
    | [d0, d1, d2, d3, d4, d5, d6, d7, d8, d9, d10, d11, d12, d13, d14, d15, d16, d17], h =>
      simp only [un, Option.bind_eq_some_iff] at h
      obtain ⟨a0, h0, a1, h1, a2, h2, a3, h3, a4, h4, a5, h5, a6, h6, a7, h7, a8, h8, a9, h9, a10, h10, a11, h11, a12, h12, a13, h13, a14, h14, a15, h15, a16, h16, a17, h17, e⟩ := h
      cases e
      exact .cons (dI_law h0) <| .cons (dI_law h1) <| .cons (dI_law h2) <| .cons (dS_law h3) <| .cons (dS_law h4) <| .cons (dI_law h5) <| .cons (dL_law h6) <| .cons (dL_law h7) <| .cons (dL_law h8) <| .cons (dL_law h9) <| .cons (dL_law h10) <| .cons (dL_law h11) <| .cons (dI_law h12) <| .cons (dL_law h13) <| .cons (dL_law h14) <| .cons (dI_law h15) <| .cons (dI_law h16) <| .cons (dI_law h17) <| .nil
  case pair =>
    match ds, h with
    | [d0, d1], h =>
      simp only [un, Option.bind_eq_some_iff] at h
      obtain ⟨a0, h0, a1, h1, e⟩ := h
      cases e
      exact .cons (dS_law h0) <| .cons (dS_law h1) <| .nil
  case out =>
    match ds, h with
    | [d0, d1], h =>
      simp only [un, Option.bind_eq_some_iff] at h
      obtain ⟨a0, h0, a1, h1, e⟩ := h
      cases e
      exact .cons (dI_law h0) <| .cons (dS_law h1) <| .nil
  case act =>
    match ds, h with
    | [d0, d1, d2], h =>
      simp only [un, Option.bind_eq_some_iff] at h
      obtain ⟨a0, h0, a1, h1, a2, h2, e⟩ := h
      cases e
      exact .cons (dI_law h0) <| .cons (dI_law h1) <| .cons (dS_law h2) <| .nil
end Go.Proofs.YthlebalbiokjpaaGreat
