/- The law FnExactSpentOf returns true for every input, and its input reads behind the call as it read before. -/
import Derived.Test.YthlebalbiokjpaaGreatKh34
import Derived.Test.YthlebalbiokjpaaGreatKh33
import Derived.ChangeMaps5
namespace Go.Proofs.YthlebalbiokjpaaGreat.fnExactSpentOf
open Go.ChangeShapes Go.WideShapes Go.ChangeAt Go.RowKit Go.ChangeMaps
set_option linter.unusedVariables false

set_option maxRecDepth 100000 in
theorem lifted (os : Os) (started : os.Started) (H : Type) (enc : TypeId × Value → H) :
    ReturnsInHanded {} Tryz.checked os 6 .any (Rows.fnExactSpentOfSpec.pre6 enc Tryz.prog Tryz.f6 Rows.fnExactSpentOfRow.domain false) (Rows.fnExactSpentOfSpec.post enc Tryz.prog Tryz.f6 false true false false) := by
  refine returnsInHanded_of_change (C := Tryz.checked) ownAll started (by kernel_rfl) Tryz.func6
    (ChangeSpec.witness6 (enc := enc) (C := Tryz.checked) false ⟨#[], #[.agg #[.int .i64 0, .int .i64 0, .int .i64 0, .string ⟨#[]⟩, .string ⟨#[]⟩, .int .i64 0, .slice none 0 0, .slice none 0 0, .slice none 0 0, .slice none 0 0, .slice none 0 0, .slice none 0 0, .int .i64 0, .slice none 0 0, .slice none 0 0, .int .i64 0, .int .i64 0, .int .i64 0], .string ⟨#[]⟩], []⟩ 8 (by kernel_rfl) (by kernel_rfl) (by kernel_rfl) (by kernel_rfl)) ?_
  intro W base args ds gs before hval0 hW _ _
  have hval : ∀ (j : Nat) t v, Tryz.f6.params[j]? = some t → args[j]? = some v → Value.okWide Tryz.prog W .any base t v := hval0
  have hW' := hW
  obtain ⟨p, q, hA0, hV, rfl, hfz, hnd⟩ := hW
  have hA : DataW.TrodAll enc Tryz.prog W 0 (fun _ => true) true Tryz.f6.params.toList args.toList ds p := hA0
  rw [Tryz.params6] at hA hval
  obtain ⟨v0, v1, d0, d1, p0, p1, rfl, rfl, rfl, h0, h1⟩ := trodAll_two hA
  obtain ⟨rfl, rfl⟩ := trodVars_none hV
  obtain ⟨x0, s0, f0⟩ := argGateway (hval 0 37 v0 rfl rfl) h0
  obtain ⟨x1, rfl, rfl, rfl, w1⟩ := open_string Tryz.underlying9 (hval 1 9 v1 rfl rfl) h1
  clear hA0 hval0
  simp only [List.append_nil] at hW'
  refine (o_lawSpentOf x0 x1 f0 noU W #[v0, (.string x1)] (fun _ h => h.elim) rfl (fun i v d hv hd => by
    match i with
    | 0 => cases hv; cases hd; exact s0
    | 1 => cases hv; cases hd; exact .v _ _
    | i + 2 => simp at hv)).mono fun e W' ⟨v, he, hv, hb⟩ => ?_
  subst he
  have ev : v = .bool true := by cases hv; rfl
  subst ev
  refine ⟨_, rfl, post_new (pa := p0) (pv := []) hW' (fun _ _ _ => (trodAll_cons_mk (shut_bool Tryz.underlying4 _) trodAll_mk0))
    (fun sp hs => ?_)
    (fun _ _ => rfl) (by simp) hb (ok_one (by kernel_rfl) rfl (okWide_bool_mk Tryz.underlying4 _))⟩
  have := trodAll_mk2 (WideElems.Trod_stays (P := Tryz.prog) laidOutAll (by kernel_rfl) (of_decide_eq_true (by kernel_rfl)) h0 (fun x hx => hb.same (hW'.lt x (by simpa using hx))) (fun x hx => hs x (by simpa using hx))) (shut_string Tryz.underlying9 w1)
  try simp only [List.append_nil] at this
  exact this

set_option maxRecDepth 100000 in
set_option maxHeartbeats 4000000 in
theorem closed : joinedFacts Tryz.checked.prog 6 Tryz.f6 Rows.fnExactSpentOfSpec Rows.fnExactSpentOfRow = true := by
  unfold joinedFacts
  simp only [Bool.and_eq_true]
  and_intros
  all_goals as_aux_lemma => kernel_rfl

theorem over : Rows.fnExactSpentOfRow.holds Tryz.pinned (OpenSpec.ofChange Rows.fnExactSpentOfSpec) :=
  OpenClaim.holds_of_wide 6 Tryz.f6 rfl rfl rfl rfl rfl rfl rfl ⟨rfl, rfl, rfl, rfl, rfl⟩ rfl rfl rfl rfl rfl (by kernel_rfl) Tryz.func6 closed
    (of_decide_eq_true (by kernel_rfl)) (by unfold Func.isWrapper; first | (rw [if_pos (by decide +kernel)]; kernel_rfl) | (rw [if_neg (by decide +kernel)]; exact ⟨rfl, rfl⟩))
    (fun os started H enc _ => lifted os started H enc)

theorem proved : Rows.FnExactSpentOfSaid :=
  over
end Go.Proofs.YthlebalbiokjpaaGreat.fnExactSpentOf
