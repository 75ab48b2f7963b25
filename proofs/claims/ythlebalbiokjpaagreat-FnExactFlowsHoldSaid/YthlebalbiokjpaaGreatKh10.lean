/- The walk by reckoning is right: regions that draw their order. | The walk by reckoning is right: regions that draw their order, shown. | The walk by reckoning is right: regions that draw their order, whole. -/
import Derived.Test.YthlebalbiokjpaaGreatKh09
namespace Go.Proofs.YthlebalbiokjpaaGreat
open Go.RowKit
set_option linter.unusedVariables false
set_option linter.unusedSimpArgs false
/-! ## The last one -/
theorem lastP_some {p : Nat → Bool} : ∀ {n j : Nat}, lastP p n = some j → j < n ∧ p j = true ∧ ∀ k, j < k → k < n → p k = false
  | 0, j, h => by cases h
  | n + 1, j, h => by
    unfold lastP at h
    split at h
    · rename_i hp
      cases h
      exact ⟨by omega, hp, fun k h1 h2 => by omega⟩
    · rename_i hp
      obtain ⟨h1, h2, h3⟩ := lastP_some h
      refine ⟨by omega, h2, fun k h4 h5 => ?_⟩
      by_cases hk : k = n
      · subst hk; simpa using hp
      · exact h3 k h4 (by omega)
theorem lastP_none {p : Nat → Bool} : ∀ {n : Nat}, lastP p n = none → ∀ k, k < n → p k = false
  | 0, h, k, hk => by omega
  | n + 1, h, k, hk => by
    unfold lastP at h
    split at h
    · cases h
    · rename_i hp
      by_cases e : k = n
      · subst e; simpa using hp
      · exact lastP_none h k (by omega)
theorem lastP_of {p : Nat → Bool} {n j : Nat} (h1 : j < n) (h2 : p j = true) (h3 : ∀ k, j < k → k < n → p k = false) : lastP p n = some j := by
  cases h : lastP p n with
  | none => rw [lastP_none h j h1] at h2; cases h2
  | some i =>
    obtain ⟨g1, g2, g3⟩ := lastP_some h
    rcases Nat.lt_trichotomy i j with hlt | he | hlt
    · rw [g3 j hlt h1] at h2; cases h2
    · rw [he]
    · rw [h3 i hlt g1] at g2; cases g2
theorem lastP_no {p : Nat → Bool} {n : Nat} (h : ∀ k, k < n → p k = false) : lastP p n = none := by
  cases e : lastP p n with
  | none => rfl
  | some i => obtain ⟨g1, g2, -⟩ := lastP_some e; rw [h i g1] at g2; cases g2
theorem lastP_congr {p q : Nat → Bool} {n : Nat} (h : ∀ k, k < n → p k = q k) : lastP p n = lastP q n := by
  cases e : lastP q n with
  | none => exact lastP_no fun k hk => by rw [h k hk]; exact lastP_none e k hk
  | some i =>
    obtain ⟨g1, g2, g3⟩ := lastP_some e
    exact lastP_of g1 (by rw [h i g1]; exact g2) fun k h1 h2 => by rw [h k h2]; exact g3 k h1 h2
/-- Of what is done, as of what stands ahead. -/
theorem lastP_cut {p q : Nat → Bool} {n i : Nat} (hi : i ≤ n) (h1 : ∀ k, k < n → p k = true → k < i ∧ q k = true) (h2 : ∀ j, lastP q i = some j → p j = true) : lastP p n = lastP q i := by
  cases e : lastP q i with
  | none =>
    refine lastP_no fun k hk => ?_
    cases hp : p k with
    | false => rfl
    | true => obtain ⟨g1, g2⟩ := h1 k hk hp; rw [lastP_none e k g1] at g2; cases g2
  | some j =>
    obtain ⟨g1, g2, g3⟩ := lastP_some e
    refine lastP_of (by omega) (h2 j e) fun k h3 h4 => ?_
    cases hp : p k with
    | false => rfl
    | true => obtain ⟨g4, g5⟩ := h1 k h4 hp; rw [g3 k h3 g4] at g5; cases g5
/-! ## What is named -/
mutual
theorem Da.ren_some : ∀ d : Da, d.ren some = d
  | .agg ds => by rw [Da.ren, Da.renL_some ds]
  | .tup ds => by rw [Da.ren, Da.renL_some ds]
  | .clo fn a c => by rw [Da.ren, Da.renL_some a, Da.renL_some c]
  | .v _ => rfl
  | .u8 _ => rfl
  | .b _ => rfl
  | .nb _ => rfl
  | .lst _ _ => rfl
  | .ref _ => rfl
  | .opt _ _ => rfl
  | .box _ _ => rfl
  | .sl _ _ _ _ => rfl
  | .elt _ _ _ _ => rfl
  | .emp => rfl
  | .any => rfl
theorem Da.renL_some : ∀ ds : List Da, Da.renL some ds = ds
  | [] => rfl
  | d :: r => by rw [Da.renL, Da.ren_some d, Da.renL_some r]
end
theorem Bx.ren_some (x : Bx) : x.ren some = x := by
  obtain ⟨ty, c, fr, dp⟩ := x
  cases c with
  | cells ds => simp only [Bx.ren, Da.renL_some]
  | _ => rfl
theorem Da.idsL_at : ∀ {ds : List Da} {i : Nat} {d : Da}, ds[i]? = some d → ∀ q ∈ d.ids, q ∈ Da.idsL ds
  | e :: r, 0, d, h, q, hb => by simp at h; subst h; exact List.mem_append_left _ hb
  | e :: r, i + 1, d, h, q, hb => List.mem_append_right _ (Da.idsL_at (by simpa using h) q hb)
/-- Other places change. -/
theorem Sees.keep {U : Ex} {W : World} {m m' : List Loc} {v : Value} {d : Da} (h : Sees U W m v d) (hm : ∀ b ∈ d.ids, ∀ L, m[b]? = some L → m'[b]? = some L) : Sees U W m' v d := by
  induction h with
  | v m x => exact .v _ x
  | u8 m x => exact .u8 _ x
  | b m c => exact .b _ c
  | nb m c => exact .nb _ c
  | any m x => exact .any _ x
  | agg m vs ds h1 _ ih => exact .agg _ vs ds h1 fun i v d a b => ih i v d a b fun q hq => hm q (Da.idsL_at b q hq)
  | tup m vs ds h1 _ ih => exact .tup _ vs ds h1 fun i v d a b => ih i v d a b fun q hq => hm q (Da.idsL_at b q hq)
  | clo m fn fs cs df dc h1 _ h2 _ ih1 ih2 => exact .clo _ fn fs cs df dc h1 (fun i v d a b => ih1 i v d a b fun q hq => hm q (List.mem_append_left _ (Da.idsL_at b q hq))) h2 (fun i v d a b => ih2 i v d a b fun q hq => hm q (List.mem_append_right _ (Da.idsL_at b q hq)))
  | box m b off L h => exact .box _ b off L (hm b (by simp [Da.ids]) L h)
  | sl m k b lo n L A c h1 h2 h3 h4 h5 => exact .sl _ k b lo n L A c (hm b (by simp [Da.ids]) L h1) h2 h3 h4 h5
  | elt m k b i off L h1 h2 => exact .elt _ k b i off L (hm b (by simp [Da.ids]) L h1) h2
  | emp m A => exact .emp _ A
  | ref m ad u ds h1 h2 _ => exact .ref _ ad u ds h1 h2
  | opt m c v ds _ h2 ih => exact .opt _ c v ds (fun hc => ih hc hm) h2
  | lst m A c k l u h1 h2 h3 _ => exact .lst _ A c k l u h1 h2 h3
theorem BxOk.keep {U U' : Ex} {W W' : World} {m m' : List Loc} {x : Bx} {L : Loc} (h : BxOk U W m x L) (hm : ∀ b ∈ x.ids, ∀ L, m[b]? = some L → m'[b]? = some L) (hW : ∀ k ∈ L.foot, W'.heap[k]? = W.heap[k]?) (hS : ∀ (v : Value) (d : Da), Sees U W m' v d → Sees U' W' m' v d) (hS0 : ∀ (v : Value) (d : Da), Sees U W [] v d → Sees U' W' [] v d) : BxOk U' W' m' x L := by
  obtain ⟨ty, c, fr, dp⟩ := x
  cases c with
  | cells ds =>
    obtain ⟨h1, cs, h2, h3, h4⟩ := h
    exact ⟨h1, cs, by rw [hW _ (mem_foot h1)]; exact h2, h3, fun j v d a b => hS _ _ ((h4 j v d a b).keep fun q hq => hm q (Da.idsL_at b q hq))⟩
  | list k l =>
    obtain ⟨h1, h2, h3, h4⟩ := h
    refine ⟨h1, h2, h3, fun hon => ?_⟩
    obtain ⟨cs, g1, g2, g3, g4⟩ := h4 hon
    refine ⟨cs, by rw [hW _ (mem_foot hon)]; exact g1, g2, fun i j e d a b => ?_, fun hd => (g4 hd).chg fun s hs => hW s (sub_foot hs)⟩
    obtain ⟨u, hu, hs⟩ := g3 i j e d a b
    exact ⟨u, hu, hS0 _ _ hs⟩
  | dead => trivial
/-! ## The way that the reckoning goes -/
structure Rc where
  s1 : St
  w : Bool
  d : Da
  e : Eff
  ft : Ft
section
variable (P : Program) (Γ : Ctx) (ops : Array Oper)
def rcD (s : St) (o : Oper) : Rc :=
  match (wantT s ops o).get with
  | (true, s1) => let y := (opT P Γ (evO s1.ts) (maskI (touchO s1.H (evO s1.ts) o) 0 s1.H) o).get
    ⟨s1, true, y.1, y.2, ftOf s1.H (opIds (evO s1.ts) o) (touchO s1.H (evO s1.ts) o) y.1 y.2⟩
  | (false, s1) => ⟨s1, false, .v (.tuple #[]), Eff.no, ⟨[], [], true, s1.H.length⟩⟩
def nxD (s : St) (o : Oper) : St := ((rcD P Γ ops s o).s1.app (rcD P Γ ops s o).e).put o.dst (rcD P Γ ops s o).d
def stD : List Oper → St → Nat → St
  | _, s, 0 => s
  | [], s, _ + 1 => s
  | o :: r, s, i + 1 => stD r (nxD P Γ ops s o) i
def ftD : List Oper → St → List Ft
  | [], _ => []
  | o :: r, s => (rcD P Γ ops s o).ft :: ftD r (nxD P Γ ops s o)
end
section
variable {P : Program} {Γ : Ctx} {ops : Array Oper}
theorem St.app_no (s : St) : s.app Eff.no = s := by obtain ⟨ts, H⟩ := s; simp [St.app, Proofs.YthlebalbiokjpaaGreat.app_no]
theorem opsD_ok : ∀ (l : List Oper) (s : St) (fs : List Ft), (opsD P Γ ops l s fs).safe →
    (opsD P Γ ops l s fs).get = (stD P Γ ops l s l.length, fs ++ ftD P Γ ops l s) ∧
    ∀ (i : Nat) (o : Oper), l[i]? = some o → (wantT (stD P Γ ops l s i) ops o).safe ∧ stD P Γ ops l s (i + 1) = nxD P Γ ops (stD P Γ ops l s i) o ∧ (ftD P Γ ops l s)[i]? = some (rcD P Γ ops (stD P Γ ops l s i) o).ft ∧
      ((rcD P Γ ops (stD P Γ ops l s i) o).w = true → (opT P Γ (evO (rcD P Γ ops (stD P Γ ops l s i) o).s1.ts) (maskI (touchO (rcD P Γ ops (stD P Γ ops l s i) o).s1.H (evO (rcD P Γ ops (stD P Γ ops l s i) o).s1.ts) o) 0 (rcD P Γ ops (stD P Γ ops l s i) o).s1.H) o).safe)
  | [], s, fs, _ => ⟨by simp [opsD, stD, ftD, Tree.get], fun i o h => by simp at h⟩
  | o :: r, s, fs, hs => by
    simp only [opsD] at hs ⊢
    obtain ⟨h1, h2⟩ := Tree.safe_bind hs
    rw [Tree.get_bind hs]
    have hrc : ∀ b s1, (wantT s ops o).get = (b, s1) → b = false → rcD P Γ ops s o = ⟨s1, false, .v (.tuple #[]), Eff.no, ⟨[], [], true, s1.H.length⟩⟩ := fun b s1 h hb => by subst hb; unfold rcD; rw [h]
    have hrt : ∀ b s1, (wantT s ops o).get = (b, s1) → b = true → rcD P Γ ops s o = ⟨s1, true, (opT P Γ (evO s1.ts) (maskI (touchO s1.H (evO s1.ts) o) 0 s1.H) o).get.1, (opT P Γ (evO s1.ts) (maskI (touchO s1.H (evO s1.ts) o) 0 s1.H) o).get.2, ftOf s1.H (opIds (evO s1.ts) o) (touchO s1.H (evO s1.ts) o) (opT P Γ (evO s1.ts) (maskI (touchO s1.H (evO s1.ts) o) 0 s1.H) o).get.1 (opT P Γ (evO s1.ts) (maskI (touchO s1.H (evO s1.ts) o) 0 s1.H) o).get.2⟩ := fun b s1 h hb => by subst hb; unfold rcD; rw [h]
    generalize hgw : (wantT s ops o).get = g at *
    obtain ⟨b, s1⟩ := g
    cases b with
    | false =>
      simp only at h2 ⊢
      have e := hrc _ _ rfl rfl
      have en : nxD P Γ ops s o = s1.put o.dst (.v (.tuple #[])) := by unfold nxD; rw [e]; simp only [St.app_no]
      rw [← en] at h2 ⊢
      obtain ⟨g1, g2⟩ := opsD_ok r (nxD P Γ ops s o) _ h2
      refine ⟨by rw [g1]; simp [stD, ftD, e], fun i o' ho => ?_⟩
      cases i with
      | zero =>
        simp at ho
        subst ho
        refine ⟨h1, by simp [stD], by simp [ftD, stD], fun hw => ?_⟩
        simp only [stD] at hw
        rw [e] at hw; cases hw
      | succ i => exact g2 i o' (by simpa using ho)
    | true =>
      simp only at h2 ⊢
      obtain ⟨h3, h4⟩ := Tree.safe_bind h2
      rw [Tree.get_bind h2]
      have e := hrt _ _ rfl rfl
      have en : nxD P Γ ops s o = (s1.app (opT P Γ (evO s1.ts) (maskI (touchO s1.H (evO s1.ts) o) 0 s1.H) o).get.2).put o.dst (opT P Γ (evO s1.ts) (maskI (touchO s1.H (evO s1.ts) o) 0 s1.H) o).get.1 := by unfold nxD; rw [e]
      rw [← en] at h4 ⊢
      obtain ⟨g1, g2⟩ := opsD_ok r (nxD P Γ ops s o) _ h4
      refine ⟨by rw [g1]; simp [stD, ftD, e], fun i o' ho => ?_⟩
      cases i with
      | zero =>
        simp at ho
        subst ho
        refine ⟨h1, by simp [stD], by simp [ftD, stD], fun _ => ?_⟩
        simp only [stD]
        rw [e]
        exact h3
      | succ i => exact g2 i o' (by simpa using ho)
theorem wantT_cases {s : St} {o : Oper} (hs : (wantT s ops o).safe) : (wantT s ops o).get.2.H = s.H ∧ (wantT s ops o).get.2.ts.length = s.ts.length ∧ ∀ (t : Nat) (U : Ex) (W : World) (m : List Loc) (v : Value), Sees U W m v (s.ts.getD t .any) → Sees U W m v ((wantT s ops o).get.2.ts.getD t .any) := by
  revert hs
  unfold wantT
  split
  · intro _; exact ⟨rfl, rfl, fun _ _ _ _ _ h => h⟩
  · split
    · intro hs; exact hs.elim
    · rename_i t _
      split
      · intro _; exact ⟨rfl, rfl, fun _ _ _ _ _ h => h⟩
      · rename_i d _ hd
        have key : ∀ x, (∀ (U : Ex) (W : World) (m : List Loc) (v : Value), Sees U W m v d → v = .bool x) → ∀ (t' : Nat) (U : Ex) (W : World) (m : List Loc) (v : Value), Sees U W m v (s.ts.getD t' .any) → Sees U W m v ((s.ts.set t (.v (.bool x))).getD t' .any) := fun x hx t' U W m v hv => by
          rw [getD_set]
          split
          · rename_i h
            rw [h.1, List.getD_eq_getElem?_getD, hd, Option.getD_some] at hv
            rw [hx _ _ _ _ hv]
            exact .v _ _
          · exact hv
        unfold br
        split
        · rename_i x _; intro _; exact ⟨rfl, by simp [Tree.get], key x fun U W m v hv => hv.v_inv⟩
        · rename_i c _; intro _
          cases c
          · exact ⟨rfl, by simp [Tree.get], key false fun U W m v hv => by cases hv; rfl⟩
          · exact ⟨rfl, by simp [Tree.get], key true fun U W m v hv => by cases hv; rfl⟩
        · rename_i c _; intro _
          cases c
          · exact ⟨rfl, by simp [Tree.get], key true fun U W m v hv => by cases hv; rfl⟩
          · exact ⟨rfl, by simp [Tree.get], key false fun U W m v hv => by cases hv; rfl⟩
        · intro hs; exact hs.elim
      · intro hs; exact hs.elim
/-- The guard's truth, wherever its temporary is known. -/
theorem wantT_sees {s : St} {o : Oper} {a : Act} {U : Ex} {W : World} {m : List Loc} (hsz : a.tmps.size = s.ts.length) (ht : ∀ t ∈ o.looksAt ops, Sees U W m (a.tmps.getD t undef) (s.ts.getD t .any)) (hs : (wantT s ops o).safe) : Region.wanted o (yielded ops a.tmps) = (wantT s ops o).get.1 := by
  revert hs
  unfold wantT
  split
  · rename_i hg; intro _; simp [Region.wanted, hg, Tree.get]
  · rename_i j want hg
    split
    · intro hs; exact hs.elim
    · rename_i t hj
      have hlk : t ∈ o.looksAt ops := by
        unfold Oper.looksAt
        rw [hg]
        exact List.mem_append_right _ (by simp [hj])
      have hy : yielded ops a.tmps j = match a.tmps[t]? with | some (.bool b) => some b | _ => none := by
        unfold yielded; rw [hj]; rfl
      have hwt : Region.wanted o (yielded ops a.tmps) = (yielded ops a.tmps j == some want) := by unfold Region.wanted; rw [hg]
      rw [hwt]
      have hv := ht t hlk
      have val : ∀ {d : Da}, s.ts[t]? = some d → ∃ v, a.tmps[t]? = some v ∧ Sees U W m v d := fun hd => by
        have hlt := (List.getElem?_eq_some_iff.1 hd).1
        have hlt2 : t < a.tmps.size := by rw [hsz]; exact hlt
        refine ⟨a.tmps[t], Array.getElem?_eq_getElem hlt2, ?_⟩
        simpa only [Array.getD_eq_getD_getElem?, List.getD_eq_getElem?_getD, hd, Option.getD_some, Array.getElem?_eq_getElem hlt2] using hv
      split
      · rename_i x hd; intro _
        obtain ⟨v, h1, h2⟩ := val hd
        rw [hy, h1, h2.v_inv]; rfl
      · rename_i d _ hd
        obtain ⟨v, h1, h2⟩ := val hd
        unfold br
        split
        · rename_i x _; intro _; rw [hy, h1, h2.v_inv]; rfl
        · rename_i c _; intro _; cases h2; rw [hy, h1]; cases c <;> rfl
        · rename_i c _; intro _; cases h2; rw [hy, h1]; cases c <;> rfl
        · intro hs; exact hs.elim
      · intro hs; exact hs.elim
end
end Go.Proofs.YthlebalbiokjpaaGreat
namespace Go.Proofs.YthlebalbiokjpaaGreat
open Go.RowKit
set_option linter.unusedVariables false
set_option linter.unusedSimpArgs false
theorem Da.idsL_mem : ∀ {ds : List Da} {q : Nat}, q ∈ Da.idsL ds → ∃ (i : Nat) (d : Da), ds[i]? = some d ∧ q ∈ d.ids
  | [], q, h => by simp [Da.idsL] at h
  | d :: r, q, h => by
    simp only [Da.idsL, List.mem_append] at h
    rcases h with h | h
    · exact ⟨0, d, rfl, h⟩
    · obtain ⟨i, e, h1, h2⟩ := Da.idsL_mem h
      exact ⟨i + 1, e, by simpa using h1, h2⟩
theorem Sees.ids {U : Ex} {W : World} {m : List Loc} {v : Value} {d : Da} (h : Sees U W m v d) : ∀ q ∈ d.ids, q < m.length := by
  have list : ∀ {m : List Loc} {vs : Array Value} {ds : List Da}, vs.size = ds.length → (∀ (i : Nat) (v : Value) (d : Da), vs[i]? = some v → ds[i]? = some d → ∀ q ∈ d.ids, q < m.length) → ∀ q ∈ Da.idsL ds, q < m.length := by
    intro m vs ds hl ih q hq
    obtain ⟨i, d, h1, h2⟩ := Da.idsL_mem hq
    have hi := (List.getElem?_eq_some_iff.1 h1).1
    exact ih i _ d (Array.getElem?_eq_getElem (by omega)) h1 q h2
  induction h with
  | agg m vs ds h1 _ ih => exact list h1 ih
  | tup m vs ds h1 _ ih => exact list h1 ih
  | clo m fn fs cs df dc h1 _ h2 _ ih1 ih2 =>
    intro q hq
    simp only [Da.ids, List.mem_append] at hq
    rcases hq with hq | hq
    · exact list h1 ih1 q hq
    · exact list h2 ih2 q hq
  | box m b off L h => intro q hq; simp [Da.ids] at hq; subst hq; exact (List.getElem?_eq_some_iff.1 h).1
  | sl m k b lo n L A c h => intro q hq; simp [Da.ids] at hq; subst hq; exact (List.getElem?_eq_some_iff.1 h).1
  | elt m k b i off L h => intro q hq; simp [Da.ids] at hq; subst hq; exact (List.getElem?_eq_some_iff.1 h).1
  | _ => intro q hq; simp [Da.ids] at hq
theorem HI.ids {U0 : Ex} {H : List Bx} {m : List Loc} {W : World} (hi : HI U0 H m W) (b : Nat) : ∀ q ∈ (H.getD b Bx.gone).ids, q < m.length := by
  intro q hq
  rw [List.getD_eq_getElem?_getD] at hq
  cases hb : H[b]? with
  | none => rw [hb] at hq; simp [Bx.gone, Bx.ids] at hq
  | some x =>
    rw [hb] at hq
    simp only [Option.getD_some] at hq
    obtain ⟨ty, c, fr, dp⟩ := x
    cases c with
    | cells ds =>
      have hlt : b < m.length := by rw [hi.ml]; exact (List.getElem?_eq_some_iff.1 hb).1
      obtain ⟨-, cs, -, h3, h4⟩ := hi.bx b _ _ hb (List.getElem?_eq_getElem hlt)
      obtain ⟨i, d, h5, h6⟩ := Da.idsL_mem (show q ∈ Da.idsL ds from hq)
      have hi' := (List.getElem?_eq_some_iff.1 h5).1
      exact (h4 i _ d (Array.getElem?_eq_getElem (by omega)) h5).ids q h6
    | _ => simp [Bx.ids] at hq
mutual
theorem Da.ren_ids {f : Nat → Option Nat} : ∀ d : Da, (∀ q ∈ d.ids, f q = some q) → d.ren f = d
  | .agg ds, h => by rw [Da.ren, Da.renL_ids ds h]
  | .tup ds, h => by rw [Da.ren, Da.renL_ids ds h]
  | .clo fn a c, h => by rw [Da.ren, Da.renL_ids a fun q hq => h q (List.mem_append_left _ hq), Da.renL_ids c fun q hq => h q (List.mem_append_right _ hq)]
  | .box q off, h => by simp [Da.ren, h q (by simp [Da.ids])]
  | .sl k q lo n, h => by simp [Da.ren, h q (by simp [Da.ids])]
  | .elt k q i off, h => by simp [Da.ren, h q (by simp [Da.ids])]
  | .v _, _ => rfl
  | .u8 _, _ => rfl
  | .b _, _ => rfl
  | .nb _, _ => rfl
  | .lst _ _, _ => rfl
  | .ref _, _ => rfl
  | .opt _ _, _ => rfl
  | .emp, _ => rfl
  | .any, _ => rfl
theorem Da.renL_ids {f : Nat → Option Nat} : ∀ ds : List Da, (∀ q ∈ Da.idsL ds, f q = some q) → Da.renL f ds = ds
  | [], _ => rfl
  | d :: r, h => by rw [Da.renL, Da.ren_ids d fun q hq => h q (List.mem_append_left _ hq), Da.renL_ids r fun q hq => h q (List.mem_append_right _ hq)]
end
theorem Bx.ren_ids {f : Nat → Option Nat} (x : Bx) (h : ∀ q ∈ x.ids, f q = some q) : x.ren f = x := by
  obtain ⟨ty, c, fr, dp⟩ := x
  cases c with
  | cells ds => simp only [Bx.ren, Da.renL_ids ds h]
  | _ => rfl
/-- A step on some of our variables, seen with all of them. -/
theorem unmask2 {U0 : Ex} {q : List Nat} {H Hq Hr H' : List Bx} {m mq m2 m' : List Loc} {W W' : World} (hi : HI U0 H m W) (hsub : ∀ (b : Nat) (x : Bx) (L : Loc), Hq[b]? = some x → x.live = true → mq[b]? = some L → q.contains b = true ∧ H[b]? = some x ∧ m[b]? = some L)
    (T : Turned (Hid U0 q H m) Hq mq W Hr m2 W') (hU0 : ∀ k, Uof (Hid U0 q H m) Hq mq k ↔ Uof U0 H m k) (hl : m'.length = H'.length) (hmm : ∀ (c : Nat) (L : Loc), (mq ++ m2)[c]? = some L → m'[c]? = some L)
    (hs : ∀ (b : Nat) (x : Bx) (L : Loc), H'[b]? = some x → x.live = true → m'[b]? = some L → (Hr[b]? = some x ∧ (mq ++ m2)[b]? = some L) ∨ (H[b]? = some x ∧ q.contains b = false ∧ m[b]? = some L ∧ ∀ c ∈ x.ids, ∀ K, m[c]? = some K → m'[c]? = some K)) :
    HI U0 H' m' W' ∧ Chg (Mut H m) W W' ∧ (∀ k, Mut H' m' k → W.heap.size ≤ k ∨ Mut H m k) ∧ (∀ (b : Nat) (x : Bx) (L : Loc), H'[b]? = some x → x.live = true → m'[b]? = some L → ∀ k ∈ L.foot, W.heap.size ≤ k ∨ ∃ (b' : Nat) (x' : Bx) (L' : Loc), H[b']? = some x' ∧ x'.live = true ∧ m[b']? = some L' ∧ k ∈ L'.foot) ∧ (∀ k, Uof U0 H' m' k → Uof (Hid U0 q H m) Hr (mq ++ m2) k) := by
  have hmut : ∀ k, Mut Hq mq k → Mut H m k := by
    rintro k ⟨b, x, L, h1, h2, h3, h4, h5⟩
    obtain ⟨-, g2, g3⟩ := hsub b x L h1 h2 h4
    exact ⟨b, x, L, g2, h2, h3, g3, h5⟩
  have hkept : ∀ b (x : Bx) (L : Loc), H[b]? = some x → x.live = true → m[b]? = some L → q.contains b = false → ∀ k ∈ L.foot, k < W.heap.size ∧ ¬ Mut Hq mq k := fun b x L h1 h2 h3 h4 k hk => by
    refine ⟨(hi.lt b x L h1 h2 h3 k hk).1, ?_⟩
    rintro ⟨b', x', L', g1, g2, g3, g4, g5, g6⟩
    obtain ⟨c1, c2, c3⟩ := hsub b' x' L' g1 g2 g4
    have := hi.dj b b' x x' L L' h1 h2 h3 c2 g2 c3 k hk (by rw [← g6]; exact mem_foot g5)
    subst this
    rw [h4] at c1; cases c1
  have hU : ∀ k, Uof U0 H' m' k → Uof (Hid U0 q H m) Hr (mq ++ m2) k := by
    rintro k (h1 | ⟨b, x, L, h1, h2, h3, h4, h5, h6⟩)
    · exact .inl (.inl h1)
    · rcases hs b x L h1 h2 h4 with ⟨g, g'⟩ | ⟨g, gq, g', -⟩
      · exact .inr ⟨b, x, L, g, h2, h3, g', h5, h6⟩
      · exact .inl (.inr ⟨b, x, L, gq, g, h2, h3, g', h5, h6⟩)
  have cross : ∀ b (x : Bx) (L : Loc) b' (x' : Bx) (L' : Loc), H[b]? = some x → x.live = true → m[b]? = some L → q.contains b = false → Hr[b']? = some x' → x'.live = true → (mq ++ m2)[b']? = some L' → ∀ k, k ∈ L.foot → k ∈ L'.foot → False := fun b x L b' x' L' h1 h2 h3 h4 g1 g2 g3 k hk hk' => by
    have hklt := (hi.lt b x L h1 h2 h3 k hk).1
    rcases T.new b' x' L' g1 g2 g3 k hk' with g | ⟨b2, x2, L2, e1, e2, e3, e4⟩
    · omega
    · obtain ⟨c1, c2, c3⟩ := hsub b2 x2 L2 e1 e2 e3
      have := hi.dj b b2 x x2 L L2 h1 h2 h3 c2 e2 c3 k hk e4
      subst this
      rw [h4] at c1; cases c1
  have hmt : ∀ k, Mut H' m' k → W.heap.size ≤ k ∨ Mut H m k := by
    rintro k ⟨b, x, L, h1, h2, h3, h4, h5, h6⟩
    rcases hs b x L h1 h2 h4 with ⟨g, g'⟩ | ⟨g, gq, g', -⟩
    · exact (T.mt k ⟨b, x, L, g, h2, h3, g', h5, h6⟩).imp id (hmut k)
    · exact .inr ⟨b, x, L, g, h2, h3, g', h5, h6⟩
  have hchg : Chg (Mut H m) W W' := ⟨T.chg.os, T.chg.tape, T.chg.output, T.chg.size, fun k hk hn => T.chg.block k hk fun hm => hn (hmut k hm)⟩
  have hUW : ∀ k, k < W.heap.size → Uof U0 H' m' k → Uof U0 H m k := fun k hk hu => hu.imp id fun h => (hmt k h).resolve_left (by omega)
  refine ⟨⟨hl, fun k hk => Nat.lt_of_lt_of_le (hi.ul k hk) T.chg.size, fun b x L h1 h2 h3 k hk => ?_, fun b b' x x' L L' h1 h2 h3 h4 h5 h6 k hk hk' => ?_, fun b x L h1 h2 h3 => ?_, fun b x L h1 h3 => ?_⟩, hchg, hmt, fun b x L h1 h2 h3 k hk => ?_, hU⟩
  · rcases hs b x L h1 h2 h3 with ⟨g, g'⟩ | ⟨g, gq, g', -⟩
    · have := T.hi.lt b x L g h2 g' k hk
      exact ⟨this.1, fun hu => this.2 (.inl hu)⟩
    · have := hi.lt b x L g h2 g' k hk
      exact ⟨Nat.lt_of_lt_of_le this.1 T.chg.size, this.2⟩
  · rcases hs b x L h1 h2 h3 with ⟨g, gm⟩ | ⟨g, gq, gm, -⟩ <;> rcases hs b' x' L' h4 h5 h6 with ⟨g', gm'⟩ | ⟨g', gq', gm', -⟩
    · exact T.hi.dj b b' x x' L L' g h2 gm g' h5 gm' k hk hk'
    · exact (cross b' x' L' b x L g' h5 gm' gq' g h2 gm k hk' hk).elim
    · exact (cross b x L b' x' L' g h2 gm gq g' h5 gm' k hk hk').elim
    · exact hi.dj b b' x x' L L' g h2 gm g' h5 gm' k hk hk'
  · rcases hs b x L h1 h2 h3 with ⟨g, g'⟩ | ⟨g, gq, g', -⟩
    · exact T.hi.nd b x L g h2 g'
    · exact hi.nd b x L g h2 g'
  · cases hlv : x.live with
    | false =>
      obtain ⟨ty, c, fr, dp⟩ := x
      cases c <;> first | (cases hlv; done) | trivial
    | true =>
      rcases hs b x L h1 hlv h3 with ⟨g, g'⟩ | ⟨g, gq, g', gc⟩
      · exact (T.hi.bx b x L g g').same (fun _ _ => rfl) (fun _ _ hs => (hs.lift hmm).sub hU) (fun _ _ hs => hs.sub hU)
      · have hk := hkept b x L g hlv g' gq
        exact (hi.bx b x L g g').keep gc (fun k hk' => T.chg.block k (hk k hk').1 (hk k hk').2) (fun v d hs => hs.chg hchg (fun k hk => .inr hk) hUW) (fun v d hs => hs.chg hchg (fun k hk => .inr hk) hUW)
  · rcases hs b x L h1 h2 h3 with ⟨g, g'⟩ | ⟨g, gq, g', -⟩
    · rcases T.new b x L g h2 g' k hk with g2 | ⟨b', x', L', e1, e2, e3, e4⟩
      · exact .inl g2
      · obtain ⟨-, c2, c3⟩ := hsub b' x' L' e1 e2 e3
        exact .inr ⟨b', x', L', c2, e2, c3, e4⟩
    · exact .inr ⟨b, x, L, g, h2, g', hk⟩
end Go.Proofs.YthlebalbiokjpaaGreat
namespace Go.Proofs.YthlebalbiokjpaaGreat
open Go.RowKit
set_option linter.unusedVariables false
set_option linter.unusedSimpArgs false
section
variable {P : Program} {Γ : Ctx} {l : List Oper} {B : List Nat} {s0 : St} {E : Env}
variable (P Γ l s0)
abbrev stA (i : Nat) : St := stD P Γ l.toArray l s0 i
abbrev ftA (i : Nat) : Ft := (ftD P Γ l.toArray l s0).getD i ⟨[], [], true, 0⟩
abbrev rcA (i : Nat) : Rc := rcD P Γ l.toArray (stA P Γ l s0 i) (l.getD i default)
def tmF (S : Nat → Bool) (t : Nat) : Da := match lastP (fun j => S j && dstIs l t j) l.length with
  | some j => (rcA P Γ l s0 j).d
  | none => s0.ts.getD t .any
def bxF (S : Nat → Bool) (b : Nat) : Bx := match lastP (fun j => S j && (ftA P Γ l s0 j).wr.contains b) l.length with
  | some j => (stA P Γ l s0 (j + 1)).H.getD b Bx.gone
  | none => s0.H.getD b Bx.gone
def stF (S : Nat → Bool) : St := ⟨(List.range s0.ts.length).map (tmF P Γ l s0 S), (List.range (stA P Γ l s0 l.length).H.length).map (bxF P Γ l s0 S)⟩
variable {P Γ l s0}
/-- What the reckoning has shown of a region. -/
structure DrawOk (P : Program) (Γ : Ctx) (l : List Oper) (B : List Nat) (s0 : St) : Prop where
  ok : OkAt l B
  waits : waitsB l B = true
  safe : (opsD P Γ l.toArray l s0 []).safe
  fts : ftsOk B (ftD P Γ l.toArray l s0) = true
  ids0 : ∀ b, ∀ q ∈ (s0.H.getD b Bx.gone).ids, q < s0.H.length
  idsT : ∀ t, ∀ q ∈ (s0.ts.getD t .any).ids, q < s0.H.length
theorem disj_spec {a b : List Nat} (h : disj a b = true) {x : Nat} (hx : x ∈ a) : x ∉ b := by
  unfold disj at h
  have := (List.all_eq_true.1 h) x hx
  simpa using this
/-- One operation of the way. -/
structure OpAt (P : Program) (Γ : Ctx) (l : List Oper) (s0 : St) (i : Nat) (o : Oper) : Prop where
  eq_ : l.getD i default = o
  want : (wantT (stA P Γ l s0 i) l.toArray o).safe
  next : stA P Γ l s0 (i + 1) = nxD P Γ l.toArray (stA P Γ l s0 i) o
  ft : ftA P Γ l s0 i = (rcD P Γ l.toArray (stA P Γ l s0 i) o).ft
  sf : (rcD P Γ l.toArray (stA P Γ l s0 i) o).w = true → (opT P Γ (evO (rcD P Γ l.toArray (stA P Γ l s0 i) o).s1.ts) (maskI (touchO (rcD P Γ l.toArray (stA P Γ l s0 i) o).s1.H (evO (rcD P Γ l.toArray (stA P Γ l s0 i) o).s1.ts) o) 0 (rcD P Γ l.toArray (stA P Γ l s0 i) o).s1.H) o).safe
theorem DrawOk.at_ (h : DrawOk P Γ l B s0) {i : Nat} {o : Oper} (ho : l[i]? = some o) : OpAt P Γ l s0 i o := by
  obtain ⟨g1, g2, g3, g4⟩ := (opsD_ok l s0 [] h.safe).2 i o ho
  refine ⟨by rw [List.getD_eq_getElem?_getD, ho]; rfl, g1, g2, ?_, g4⟩
  show (ftD P Γ l.toArray l s0).getD i _ = _
  rw [List.getD_eq_getElem?_getD, g3]; rfl
theorem ftD_len : ∀ (l' : List Oper) (s : St) (ops : Array Oper), (ftD P Γ ops l' s).length = l'.length
  | [], _, _ => rfl
  | o :: r, s, ops => by simp [ftD, ftD_len r]
theorem DrawOk.ft (h : DrawOk P Γ l B s0) {i : Nat} (hi : i < l.length) : (ftA P Γ l s0 i).ok = true ∧ ∀ j, j < i → ancB B i j = false → disj (ftA P Γ l s0 j).wr (ftA P Γ l s0 i).tch = true ∧ disj (ftA P Γ l s0 i).wr (ftA P Γ l s0 j).tch = true := by
  have hf := h.fts
  unfold ftsOk at hf
  have hil : i < (ftD P Γ l.toArray l s0).length := by rw [ftD_len]; exact hi
  have hgi : ftA P Γ l s0 i = (ftD P Γ l.toArray l s0)[i] := by unfold ftA; rw [List.getD_eq_getElem?_getD, List.getElem?_eq_getElem hil]; rfl
  have h1 := (List.all_eq_true.1 hf) ((ftD P Γ l.toArray l s0)[i], i) (List.mem_zipIdx_iff_getElem?.2 (List.getElem?_eq_getElem hil))
  simp only [Bool.and_eq_true] at h1
  refine ⟨by rw [hgi]; exact h1.1, fun j hj ha => ?_⟩
  have hjl : j < (ftD P Γ l.toArray l s0).length := by omega
  have hgj : ftA P Γ l s0 j = (ftD P Γ l.toArray l s0)[j] := by unfold ftA; rw [List.getD_eq_getElem?_getD, List.getElem?_eq_getElem hjl]; rfl
  have h2 := (List.all_eq_true.1 h1.2) ((ftD P Γ l.toArray l s0)[j], j) (List.mem_zipIdx_iff_getElem?.2 (by rw [List.getElem?_take, if_pos hj]; exact List.getElem?_eq_getElem hjl))
  simp only [ha, Bool.false_or, Bool.and_eq_true] at h2
  rw [hgi, hgj]; exact h2
/-- How many variables there are, what they hold, behind one operation. -/
theorem OpAt.H {i : Nat} {o : Oper} (h : OpAt P Γ l s0 i o) : (rcD P Γ l.toArray (stA P Γ l s0 i) o).s1.H = (stA P Γ l s0 i).H ∧ (stA P Γ l s0 (i + 1)).H = (rcD P Γ l.toArray (stA P Γ l s0 i) o).e.app (stA P Γ l s0 i).H := by
  have hw := (wantT_cases h.want).1
  have h1 : (rcD P Γ l.toArray (stA P Γ l s0 i) o).s1 = (wantT (stA P Γ l s0 i) l.toArray o).get.2 := by
    unfold rcD
    generalize (wantT (stA P Γ l s0 i) l.toArray o).get = g
    obtain ⟨b, s1⟩ := g
    cases b <;> rfl
  refine ⟨by rw [h1]; exact hw, ?_⟩
  rw [h.next]
  unfold nxD
  have hp : ∀ (s : St) (dst : Option Tmp) (d : Da), (s.put dst d).H = s.H := fun s dst d => by cases dst <;> rfl
  rw [hp]
  show (rcD P Γ l.toArray (stA P Γ l s0 i) o).e.app (rcD P Γ l.toArray (stA P Γ l s0 i) o).s1.H = _
  rw [h1, hw]
theorem OpAt.ts {i : Nat} {o : Oper} (h : OpAt P Γ l s0 i o) : (stA P Γ l s0 (i + 1)).ts.length = (stA P Γ l s0 i).ts.length ∧ ∀ (t : Nat) (U : Ex) (W : World) (m : List Loc) (v : Value), Sees U W m v (if dstIs l t i = true then (rcD P Γ l.toArray (stA P Γ l s0 i) o).d else (stA P Γ l s0 i).ts.getD t .any) → Sees U W m v ((stA P Γ l s0 (i + 1)).ts.getD t .any) := by
  have hw := wantT_cases h.want
  have h1 : (rcD P Γ l.toArray (stA P Γ l s0 i) o).s1 = (wantT (stA P Γ l s0 i) l.toArray o).get.2 := by
    unfold rcD
    generalize (wantT (stA P Γ l s0 i) l.toArray o).get = g
    obtain ⟨b, s1⟩ := g
    cases b <;> rfl
  rw [h.next]
  unfold nxD
  have hd : ∀ t, dstIs l t i = (o.dst == some t) := fun t => by unfold dstIs; rw [h.eq_]
  generalize (rcD P Γ l.toArray (stA P Γ l s0 i) o).d = d at *
  generalize (rcD P Γ l.toArray (stA P Γ l s0 i) o).e = e at *
  rw [h1]
  cases ho : o.dst with
  | none =>
    refine ⟨hw.2.1, fun t U W m v hv => ?_⟩
    rw [hd, ho] at hv
    exact hw.2.2 t U W m v (by simpa using hv)
  | some td =>
    refine ⟨by simp [St.put, St.app, hw.2.1], fun t U W m v hv => ?_⟩
    rw [hd, ho] at hv
    simp only [St.put, St.app]
    rw [getD_set]
    by_cases ht : td = t
    · subst ht
      simp at hv
      split
      · exact hv
      · rename_i hn
        have : ¬ td < (wantT (stA P Γ l s0 i) l.toArray o).get.2.ts.length := fun hlt => hn ⟨rfl, hlt⟩
        rw [List.getD_eq_getElem?_getD, List.getElem?_eq_none (by omega)]
        exact .any _ _
    · rw [if_neg (fun hh => ht hh.1.symm)]
      exact hw.2.2 t U W m v (by simpa [ht] using hv)
theorem eff_get (e : Eff) (H : List Bx) {b : Nat} (h1 : b ∉ e.wr.map (·.1)) (h2 : b ∉ nwIds H.length e) : (e.app H).getD b Bx.gone = H.getD b Bx.gone := by
  unfold Eff.app
  rw [List.getD_eq_getElem?_getD, List.getD_eq_getElem?_getD]
  by_cases hb : b < H.length
  · rw [List.getElem?_append_left (by rw [setAll_len]; exact hb), setAll_other _ _ _ fun x hx e2 => h1 (List.mem_map.2 ⟨x, hx, e2⟩)]
  · rw [List.getElem?_append_right (by rw [setAll_len]; omega), setAll_len, List.getElem?_eq_none (l := H) (by omega)]
    by_cases hb2 : b - H.length < e.nw.length
    · exact absurd (by unfold nwIds; exact List.mem_map.2 ⟨b - H.length, List.mem_range.2 hb2, by omega⟩) h2
    · rw [List.getElem?_eq_none (by omega)]
theorem setAll_mem : ∀ (w : List (Nat × Bx)) (H : List Bx) (b : Nat), b ∈ w.map (·.1) → b < H.length → ∃ x, (b, x) ∈ w ∧ (setAll w H)[b]? = some x
  | [], H, b, h, _ => by simp at h
  | p :: r, H, b, h, hb => by
    by_cases hr : b ∈ r.map (·.1)
    · obtain ⟨x, h1, h2⟩ := setAll_mem r (H.set p.1 p.2) b hr (by simpa using hb)
      exact ⟨x, List.mem_cons_of_mem _ h1, h2⟩
    · have hp : p.1 = b := by
        simp only [List.map_cons, List.mem_cons] at h
        rcases h with h | h
        · exact h.symm
        · exact absurd h hr
      refine ⟨p.2, by rw [← hp]; exact List.mem_cons_self, ?_⟩
      rw [setAll, setAll_other _ _ _ fun x hx e => hr (List.mem_map.2 ⟨x, hx, e⟩), List.getElem?_set, if_pos hp, if_pos (by rw [hp]; exact hb)]
/-- What is written, what is new, is named. -/
theorem OpAt.wr {i : Nat} {o : Oper} (h : OpAt P Γ l s0 i o) {b : Nat} (hb : (ftA P Γ l s0 i).wr.contains b = false) : (stA P Γ l s0 (i + 1)).H.getD b Bx.gone = (stA P Γ l s0 i).H.getD b Bx.gone := by
  obtain ⟨h1, h2⟩ := h.H
  rw [h2]
  rw [h.ft] at hb
  unfold rcD at hb ⊢
  generalize hg : (wantT (stA P Γ l s0 i) l.toArray o).get = g at *
  obtain ⟨w, s1⟩ := g
  have hs1 : s1.H = (stA P Γ l s0 i).H := by
    have := (wantT_cases h.want).1
    rw [hg] at this; exact this
  cases w with
  | false => simp only [app_no]
  | true =>
    simp only [ftOf, hs1] at hb ⊢
    simp only [List.contains_eq_mem, List.mem_append, decide_eq_false_iff_not, not_or] at hb
    exact eff_get _ _ hb.1 hb.2
theorem H_last (h : DrawOk P Γ l B s0) : ∀ (i : Nat), i ≤ l.length → ∀ b, (stA P Γ l s0 i).H.getD b Bx.gone = match lastP (fun j => (ftA P Γ l s0 j).wr.contains b) i with
    | some j => (stA P Γ l s0 (j + 1)).H.getD b Bx.gone
    | none => s0.H.getD b Bx.gone
  | 0, _, b => by cases l <;> rfl
  | i + 1, hi, b => by
    have hil : i < l.length := by omega
    have hat := h.at_ (List.getElem?_eq_getElem hil)
    unfold lastP
    cases hc : (ftA P Γ l s0 i).wr.contains b with
    | true => rfl
    | false =>
      rw [hat.wr hc, H_last h i (by omega) b]
      rfl
theorem T_last (h : DrawOk P Γ l B s0) : ∀ (i : Nat), i ≤ l.length → (stA P Γ l s0 i).ts.length = s0.ts.length ∧ ∀ (t : Nat) (U : Ex) (W : World) (m : List Loc) (v : Value), Sees U W m v (match lastP (dstIs l t) i with
    | some j => (rcA P Γ l s0 j).d
    | none => s0.ts.getD t .any) → Sees U W m v ((stA P Γ l s0 i).ts.getD t .any)
  | 0, _ => by
    have e : stA P Γ l s0 0 = s0 := by cases l <;> rfl
    rw [e]
    exact ⟨rfl, fun t U W m v hv => hv⟩
  | i + 1, hi => by
    have hil : i < l.length := by omega
    have hat := h.at_ (List.getElem?_eq_getElem hil)
    obtain ⟨g1, g2⟩ := hat.ts
    obtain ⟨k1, k2⟩ := T_last h i (by omega)
    refine ⟨g1.trans k1, fun t U W m v hv => g2 t U W m v ?_⟩
    unfold lastP at hv
    have hrc : rcA P Γ l s0 i = rcD P Γ l.toArray (stA P Γ l s0 i) l[i] := by
      show rcD _ _ _ _ (l.getD i default) = _
      rw [hat.eq_]
    cases hc : dstIs l t i with
    | true =>
      rw [hc] at hv
      simp only [if_true] at hv ⊢
      rw [← hrc]; exact hv
    | false =>
      rw [hc] at hv
      simp only [Bool.false_eq_true, if_false] at hv ⊢
      exact k2 t U W m v hv
theorem N_mono (h : DrawOk P Γ l B s0) : ∀ (i : Nat), i ≤ l.length → ∀ j, j ≤ i → (stA P Γ l s0 j).H.length ≤ (stA P Γ l s0 i).H.length
  | 0, _, j, hj => by
    have : j = 0 := by omega
    subst this; exact Nat.le_refl _
  | i + 1, hi, j, hj => by
    by_cases e : j = i + 1
    · subst e; exact Nat.le_refl _
    · have hat := h.at_ (List.getElem?_eq_getElem (by omega : i < l.length))
      have := N_mono h i (by omega) j (by omega)
      rw [hat.H.2, Eff.app_len]
      omega
end
end Go.Proofs.YthlebalbiokjpaaGreat
