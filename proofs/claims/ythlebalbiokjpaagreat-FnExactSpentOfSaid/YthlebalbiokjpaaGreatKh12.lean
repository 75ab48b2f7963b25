/- The walk by reckoning is right: code, loops, functions. | The walk by reckoning is right: functions. -/
import Derived.Test.YthlebalbiokjpaaGreatKh11
import Derived.Scope
namespace Go.Proofs.YthlebalbiokjpaaGreat
open Go.RowKit
set_option linter.unusedVariables false
set_option linter.unusedSimpArgs false
def Ends (E : Env) : Out → Exit → Act → World → Prop
  | .nrm s, e, a, W => e = .normal ∧ ∃ m, Inv E s m a W
  | .exit n s, e, a, W => e = .exit n ∧ ∃ m, Inv E s m a W
  | .ret s, e, a, W => e = .ret ∧ ∃ m, Inv E s m a W
/-- From this state the code ends so. -/
def Sat (P : Program) (n0 : Nat) (c : Code) (s : St) (o : Out) : Prop := ∀ (E : Env) (m : List Loc) (a : Act) (W : World), E.m0.length = n0 → Inv E s m a W → c.wp P (Ends E o) a W
theorem loopsIn_len : ∀ c : Code, (loopsIn c).length = nLoops c
  | .seq x y => by simp [loopsIn, nLoops, loopsIn_len x, loopsIn_len y]
  | .cond _ x y => by simp [loopsIn, nLoops, loopsIn_len x, loopsIn_len y]
  | .block _ c => by simp [loopsIn, nLoops, loopsIn_len c]
  | .loop c => by simp [loopsIn, nLoops, loopsIn_len c]
  | .scope c => by simp [loopsIn, nLoops, loopsIn_len c]
  | .skip => rfl
  | .region .. => rfl
  | .rangeFunc .. => rfl
  | .exit _ => rfl
  | .label _ => rfl
  | .goto _ => rfl
  | .ret => rfl
  | .refuse _ => rfl
theorem idxO_some {l : List (Option Nat)} {b i : Nat} (h : idxO l b = some i) : l[i]? = some (some b) := by
  induction l generalizing i with
  | nil => cases h
  | cons a r ih =>
    unfold idxO at h
    split at h
    · rename_i e
      cases h
      have : a = some b := by simpa using e
      simp [this]
    · rw [Option.map_eq_some_iff] at h
      obtain ⟨j, hj, rfl⟩ := h
      simpa using ih hj
theorem noDup_inj : ∀ {l : List (Option Nat)}, noDup l = true → ∀ (i j b : Nat), l[i]? = some (some b) → l[j]? = some (some b) → i = j
  | [], _, i, j, b, h, _ => by simp at h
  | none :: r, hn, i, j, b, h1, h2 => by
    cases i with
    | zero => simp at h1
    | succ i => cases j with
      | zero => simp at h2
      | succ j => rw [noDup_inj (by simpa [noDup] using hn) i j b (by simpa using h1) (by simpa using h2)]
  | some a :: r, hn, i, j, b, h1, h2 => by
    simp only [noDup, Bool.and_eq_true, Bool.not_eq_true'] at hn
    have hno : ∀ k, r[k]? = some (some a) → False := fun k hk => by
      have := List.mem_of_getElem? hk
      have hc := hn.1
      simp at hc
      exact hc this
    cases i with
    | zero =>
      simp at h1
      subst h1
      cases j with
      | zero => rfl
      | succ j => exact (hno j (by simpa using h2)).elim
    | succ i => cases j with
      | zero =>
        simp at h2
        subst h2
        exact (hno i (by simpa using h1)).elim
      | succ j => rw [noDup_inj hn.2 i j b (by simpa using h1) (by simpa using h2)]
def locs (m : List Loc) (ρ : List (Option Nat)) : List Loc := mapI (fun i (o : Option Nat) => match o with | some b => m.getD b default | none => m.getD i default) 0 ρ
theorem locs_get {m : List Loc} {ρ : List (Option Nat)} {p b : Nat} (h : ρ[p]? = some (some b)) (hb : b < m.length) : (locs m ρ)[p]? = m[b]? := by
  unfold locs
  rw [mapI_get, h, Option.map_some, List.getElem?_eq_getElem hb]
  have : m.getD b default = m[b] := by rw [List.getD_eq_getElem?_getD, List.getElem?_eq_getElem hb]; rfl
  simp only [this]
theorem mapI_len {α β : Type} (f : Nat → α → β) : ∀ (l : List α) (i : Nat), (mapI f i l).length = l.length
  | [], _ => rfl
  | a :: r, i => by rw [mapI, List.length_cons, List.length_cons, mapI_len f r]
theorem remap_rho {U0 : Ex} {H : List Bx} {m : List Loc} {W : World} (hi : HI U0 H m W) {ρ : List (Option Nat)} (hn : noDup ρ = true) (fz : List Nat) : Remap (idxO ρ) (fun p => ((ρ.getD p none).getD 0)) H m (mapI (renB H ρ fz) 0 ρ) (locs m ρ) := by
  have at1 : ∀ (p : Nat) (x' : Bx), (mapI (renB H ρ fz) 0 ρ)[p]? = some x' → x'.live = true → ∃ b x, ρ[p]? = some (some b) ∧ H[b]? = some x ∧ x.live = true ∧ x' = { (x.ren (idxO ρ)) with fr := x.fr || fz.contains p } := fun p x' hp hlv => by
    rw [mapI_get, Nat.zero_add, Option.map_eq_some_iff] at hp
    obtain ⟨o, ho, rfl⟩ := hp
    cases o with
    | none => cases hlv
    | some b =>
      cases hx : H[b]? with
      | none =>
        have : H.getD b Bx.gone = Bx.gone := by rw [List.getD_eq_getElem?_getD, hx]; rfl
        simp only [renB, this] at hlv
        cases hlv
      | some x =>
        have hg : H.getD b Bx.gone = x := by rw [List.getD_eq_getElem?_getD, hx]; rfl
        have e : renB H ρ fz p (some b) = { (x.ren (idxO ρ)) with fr := x.fr || fz.contains p } := by
          simp only [renB, hg]
          obtain ⟨ty, c, fr, dp⟩ := x
          cases c <;> rfl
        rw [e] at hlv ⊢
        refine ⟨b, x, ho, hx, ?_, rfl⟩
        have : Bx.live { (x.ren (idxO ρ)) with fr := x.fr || fz.contains p } = (x.ren (idxO ρ)).live := rfl
        rw [this, Bx.ren_live] at hlv
        exact hlv
  have hlt : ∀ b (x : Bx), H[b]? = some x → b < m.length := fun b x hb => by rw [hi.ml]; exact (List.getElem?_eq_some_iff.1 hb).1
  refine ⟨by simp [locs, mapI_len], fun p x' hp hlv => ?_, fun p p' x x' h1 h2 h3 h4 h5 => ?_, fun b b' L h1 h2 => ?_⟩
  · obtain ⟨b, x, h1, h2, h3, h4⟩ := at1 p x' hp hlv
    have hg : (ρ.getD p none).getD 0 = b := by rw [List.getD_eq_getElem?_getD, h1]; rfl
    simp only [hg]
    refine ⟨x, x.fr || fz.contains p, h2, h3, locs_get h1 (hlt b x h2), h4, fun hf => ?_⟩
    simp only [Bool.or_eq_false_iff] at hf
    exact hf.1
  · obtain ⟨b, y, g1, -⟩ := at1 p x h1 h2
    obtain ⟨b', y', g1', -⟩ := at1 p' x' h3 h4
    simp only [List.getD_eq_getElem?_getD, g1, g1', Option.getD_some] at h5
    subst h5
    exact noDup_inj hn p p' b g1 g1'
  · have := idxO_some h1
    rw [locs_get this (List.getElem?_eq_some_iff.1 h2).1]; exact h2
theorem okHs_at : ∀ {n i : Nat} {l : List Src0}, okHs n i l = true → ∀ q, q < n → (l[q]? = some (.id (i + q)) ∨ l[q]? = some .none)
  | 0, _, _, _, q, hq => by omega
  | n + 1, i, [], h, q, _ => by simp [okHs] at h
  | n + 1, i, x :: r, h, q, hq => by
    simp only [okHs, Bool.and_eq_true] at h
    cases q with
    | zero =>
      cases x <;> simp at h ⊢
      · exact h.1
    | succ q =>
      have := okHs_at h.2 q (by omega)
      simp only [List.getElem?_cons_succ]
      rwa [show i + (q + 1) = i + 1 + q from by omega]
/-- Renamed, some forgotten. -/
theorem keep_base {E : Env} {s : St} {m : List Loc} {a : Act} {W : World} (h : Inv E s m a W) {k : Keep} {rs : List Da} (hk : okHs E.m0.length 0 k.hs = true) : ∀ (q : Nat) (L : Loc), E.m0[q]? = some L → m[q]? = some L → (locs m (k.rho rs s))[q]? = some L := fun q L hq hm => by
  have hql := (List.getElem?_eq_some_iff.1 hq).1
  have hqm := (List.getElem?_eq_some_iff.1 hm).1
  have hg : m.getD q default = L := by rw [List.getD_eq_getElem?_getD, hm]; rfl
  unfold locs
  rw [mapI_get, Nat.zero_add]
  have hr : (k.rho rs s)[q]? = (k.hs[q]?).map (Src0.get s.H rs) := by unfold Keep.rho; rw [List.getElem?_map]
  rcases okHs_at hk q hql with h1 | h1
  · rw [hr, h1]
    simp only [Option.map_some, Src0.get, Nat.zero_add, hg]
  · rw [hr, h1]
    simp only [Option.map_some, Src0.get, hg]
theorem weaken_inv {E : Env} {s : St} {m : List Loc} {a : Act} {W : World} (h : Inv E s m a W) {n0 : Nat} (hn : E.m0.length = n0) {k : Keep} (hk : okKeep n0 k [] s = true) : Inv E (weaken k s) (locs m (k.rho [] s)) a W := by
  unfold okKeep at hk
  rw [Bool.and_eq_true] at hk
  have r := remap_rho h.hi hk.2 k.fz
  refine h.remap r (keep_base h (by rw [hn]; exact hk.1)) _ (by rw [mapI_len]) fun t => ?_
  have ht := r.sees (h.tm t)
  rw [List.getD_eq_getElem?_getD, mapI_get, Nat.zero_add]
  cases hts : s.ts[t]? with
  | none => exact .any _ _
  | some d =>
    rw [List.getD_eq_getElem?_getD, hts] at ht
    simp only [Option.map_some, Option.getD_some] at ht ⊢
    split
    · exact ht
    · exact .any _ _
section
variable {P : Program} {Γ : Ctx} {L : Nat → St → Option LoopSpec} {n0 : Nat}
theorem evC_sat (hΓ : COk P Γ) (hmx : P.follows .mixedOrders = true) : ∀ (c : Code) (n : Nat) (s : St), (∀ (k : Nat) (body : Code), (loopsIn c)[k]? = some body → ∀ s l, L (n + k) s = some l → l.T.safe → Sat P n0 (.loop body) l.s l.T.get) → (evC P Γ L n0 c n s).safe → Sat P n0 c s (evC P Γ L n0 c n s).get
  | .skip, n, s, _, _ => fun E m a W he0 h => wp_skip ⟨rfl, m, h⟩
  | .region id ops false, n, s, _, hs => fun E m a W he0 h => by
    simp only [evC, regF_eq] at hs ⊢
    obtain ⟨h1, -⟩ := Tree.safe_bind hs
    rw [Tree.get_bind hs]
    exact wp_region_list (opsT_wp hΓ ops ops.toList s m a W h h1 fun m' a' W' hI => ⟨rfl, m', hI⟩)
  | .region id ops true, n, s, _, hs => fun E m a W he0 h => by
    simp only [evC, drawT, forceL_eq, CheckFast.beforeF_eq] at hs ⊢
    cases hok : openOk ops (Region.before ops).toList with
    | false => rw [hok] at hs; exact hs.elim
    | true =>
      rw [hok] at hs
      simp only [cond_true] at hs ⊢
      obtain ⟨l⟩ := ops
      obtain ⟨h1, h2⟩ := Tree.safe_bind hs
      rw [Tree.get_bind hs]
      rw [(opsD_ok l s [] h1).1] at h2 ⊢
      simp only [List.nil_append] at h2 ⊢
      unfold openOk at hok
      rw [Bool.and_eq_true] at hok
      cases hf : ftsOk (Region.before l.toArray).toList (ftD P Γ l.toArray l s) with
      | false => rw [hf] at h2; exact h2.elim
      | true =>
        simp only [cond_true]
        exact draw_wp hΓ hmx (OkAt.of hok.1) hok.2 h1 hf h id fun m' a' W' hI => ⟨rfl, m', hI⟩
  | .seq x y, n, s, hL, hs => fun E m a W he0 h => by
    simp only [evC] at hs ⊢
    obtain ⟨h1, h2⟩ := Tree.safe_bind hs
    rw [Tree.get_bind hs]
    have hx := evC_sat hΓ hmx x n s (fun k body hb => hL k body (by rw [loopsIn, List.getElem?_append_left (List.getElem?_eq_some_iff.1 hb).1]; exact hb)) h1 E m a W he0 h
    refine wp_seq (wp_mono hx fun e a' W' he => ?_)
    generalize hg : (evC P Γ L n0 x n s).get = g at *
    cases g with
    | nrm s' =>
      obtain ⟨rfl, m', hI⟩ := he
      exact evC_sat hΓ hmx y (n + nLoops x) s' (fun k body hb s l => by
        rw [Nat.add_assoc]
        exact hL (nLoops x + k) body (by rw [loopsIn, List.getElem?_append_right (by rw [loopsIn_len]; omega), loopsIn_len, Nat.add_sub_cancel_left]; exact hb) s l) h2 E m' a' W' he0 hI
    | exit k s' => obtain ⟨rfl, m', hI⟩ := he; exact ⟨rfl, m', hI⟩
    | ret s' => obtain ⟨rfl, m', hI⟩ := he; exact ⟨rfl, m', hI⟩
  | .cond c x y, n, s, hL, hs => fun E m a W he0 h => by
    simp only [evC] at hs ⊢
    have hc := h.ev c
    have gx : (evC P Γ L n0 x n s).safe → Sat P n0 x s (evC P Γ L n0 x n s).get := evC_sat hΓ hmx x n s fun k body hb => hL k body (by rw [loopsIn, List.getElem?_append_left (List.getElem?_eq_some_iff.1 hb).1]; exact hb)
    have gy : (evC P Γ L n0 y (n + nLoops x) s).safe → Sat P n0 y s (evC P Γ L n0 y (n + nLoops x) s).get := evC_sat hΓ hmx y (n + nLoops x) s fun k body hb s l => by
      rw [Nat.add_assoc]
      exact hL (nLoops x + k) body (by rw [loopsIn, List.getElem?_append_right (by rw [loopsIn_len]; omega), loopsIn_len, Nat.add_sub_cancel_left]; exact hb) s l
    revert hs
    unfold br
    split
    · rename_i b he
      rw [he] at hc
      generalize hq : a.eval c = q at hc
      cases hc
      intro hs
      cases b
      · exact wp_cond_false hq (gy hs E m a W he0 h)
      · exact wp_cond_true hq (gx hs E m a W he0 h)
    · rename_i b he
      rw [he] at hc
      generalize hq : a.eval c = q at hc
      cases hc
      intro hs
      cases b
      · exact wp_cond_false hq (gy (hs.2 rfl) E m a W he0 h)
      · exact wp_cond_true hq (gx (hs.1 rfl) E m a W he0 h)
    · rename_i b he
      rw [he] at hc
      generalize hq : a.eval c = q at hc
      cases hc
      intro hs
      cases b
      · exact wp_cond_true hq (gx (hs.2 rfl) E m a W he0 h)
      · exact wp_cond_false hq (gy (hs.1 rfl) E m a W he0 h)
    · intro hs; exact hs.elim
  | .block id c, n, s, hL, hs => fun E m a W he0 h => by
    simp only [evC] at hs ⊢
    obtain ⟨h1, h2⟩ := Tree.safe_bind hs
    rw [Tree.get_bind hs]
    have hx := evC_sat hΓ hmx c n s hL h1 E m a W he0 h
    refine wp_block (wp_mono hx fun e a' W' he => ?_)
    generalize hg : (evC P Γ L n0 c n s).get = g at *
    cases g with
    | nrm s' => obtain ⟨rfl, m', hI⟩ := he; exact ⟨rfl, m', hI⟩
    | exit k s' =>
      obtain ⟨rfl, m', hI⟩ := he
      simp only [Exit.inBlock]
      by_cases hk : k = id
      · subst hk
        simp only [beq_self_eq_true, if_true]
        exact ⟨rfl, m', hI⟩
      · have e : (k == id) = false := by simpa using hk
        rw [if_neg hk]
        simp only [e, Bool.false_eq_true, if_false]
        exact ⟨rfl, m', hI⟩
    | ret s' => obtain ⟨rfl, m', hI⟩ := he; exact ⟨rfl, m', hI⟩
  | .loop c, n, s, hL, hs => fun E m a W he0 h => by
    simp only [evC] at hs ⊢
    cases hl : L n s with
    | none => rw [hl] at hs; exact hs.elim
    | some l =>
      rw [hl] at hs
      simp only at hs ⊢
      cases hk : okKeep n0 l.k [] s with
      | false => rw [hk] at hs; exact hs.elim
      | true =>
        rw [hk] at hs
        simp only [cond_true] at hs ⊢
        have hI := weaken_inv h he0 hk
        rw [hs.1] at hI
        exact hL 0 c rfl s l hl hs.2 E _ a W he0 hI
  | .exit k, n, s, _, _ => fun E m a W he0 h => wp_exit ⟨rfl, m, h⟩
  | .ret, n, s, _, _ => fun E m a W he0 h => wp_ret ⟨rfl, m, h⟩
  | .scope c, n, s, hL, hs => fun E m a W he0 h => by
    simp only [evC] at hs ⊢
    have hx := evC_sat hΓ hmx c n s hL hs E m a W he0 h
    refine wp_scope_straight (wp_mono hx fun e a' W' he => ?_)
    generalize hg : (evC P Γ L n0 c n s).get = g at *
    cases g with
    | nrm s' => obtain ⟨rfl, m', hI⟩ := he; exact ⟨rfl, m', hI⟩
    | exit k s' => obtain ⟨rfl, m', hI⟩ := he; exact ⟨rfl, m', hI⟩
    | ret s' => obtain ⟨rfl, m', hI⟩ := he; exact ⟨rfl, m', hI⟩
  | .rangeFunc .., n, s, _, hs => hs.elim
  | .label _, n, s, _, hs => hs.elim
  | .goto _, n, s, _, hs => hs.elim
  | .refuse _, n, s, _, hs => hs.elim
theorem exists_least (p : Nat → Prop) (h : ∃ n, p n) : ∃ n, p n ∧ ∀ m, p m → n ≤ m := by
  obtain ⟨n, hn⟩ := h
  induction n using Nat.strongRecOn with
  | _ n ih =>
    by_cases h : ∃ k, k < n ∧ p k
    · obtain ⟨k, hk, hp⟩ := h; exact ih k hk hp
    · exact ⟨n, hn, fun m hm => Nat.le_of_not_lt fun hlt => h ⟨m, hlt, hm⟩⟩
/-- A loop: states at its head, and how it ends from each. -/
theorem sat_loop {c : Code} {ι : Type} (ok : ι → Prop) (I : ι → St) (R : ι → Out) (μ : ι → Nat)
    (step : ∀ i, ok i → (∃ i', Sat P n0 c (I i) (.nrm (I i')) ∧ ok i' ∧ μ i' < μ i ∧ R i' = R i) ∨ ((∀ s', R i ≠ .nrm s') ∧ Sat P n0 c (I i) (R i))) (i : ι) (hi : ok i) : Sat P n0 (.loop c) (I i) (R i) := by
  intro E m a W he0 h
  let p : Act → World → Nat → Prop := fun a W n => ∃ j m, ok j ∧ Inv E (I j) m a W ∧ R j = R i ∧ μ j = n
  classical
  let ν : Act → World → Nat := fun a W => if h : ∃ n, p a W n then (exists_least _ h).choose else 0
  have hν : ∀ a W n, p a W n → p a W (ν a W) ∧ ν a W ≤ n := fun a W n hp => by
    have hex : ∃ n, p a W n := ⟨n, hp⟩
    have e : ν a W = (exists_least _ hex).choose := dif_pos hex
    rw [e]
    exact ⟨(exists_least _ hex).choose_spec.1, (exists_least _ hex).choose_spec.2 n hp⟩
  refine wp_loop (fun a W => ∃ n, p a W n) ν ⟨_, i, m, hi, h, rfl, rfl⟩ fun a W ⟨n, hn⟩ => ?_
  obtain ⟨⟨j, m, hj, hI, hR, hμ⟩, -⟩ := hν a W n hn
  rcases step j hj with ⟨j', h1, h3, h4, h5⟩ | ⟨h1, h2⟩
  · refine wp_mono (h1 E m a W he0 hI) fun e a' W' he => ?_
    obtain ⟨rfl, m', hI'⟩ := he
    have hp : p a' W' (μ j') := ⟨j', _, h3, hI', h5.trans hR, rfl⟩
    exact ⟨⟨_, hp⟩, Nat.lt_of_le_of_lt (hν a' W' _ hp).2 (by omega)⟩
  · refine wp_mono (h2 E m a W he0 hI) fun e a' W' he => ?_
    rw [hR] at he h1
    generalize hg : R i = g at *
    cases g with
    | nrm s' => exact absurd rfl (h1 s')
    | exit k s' => obtain ⟨rfl, m', hI⟩ := he; exact ⟨rfl, m', hI⟩
    | ret s' => obtain ⟨rfl, m', hI⟩ := he; exact ⟨rfl, m', hI⟩
end
end Go.Proofs.YthlebalbiokjpaaGreat
namespace Go.Proofs.YthlebalbiokjpaaGreat
open Go.RowKit
set_option linter.unusedVariables false
set_option linter.unusedSimpArgs false
/-- The state at a function's entry. -/
def st0 (fn : Func) (ds : List Da) (H : List Bx) : St := ⟨ds ++ List.replicate (fn.ntmps - ds.length) (.v (.tuple #[])), H⟩
def resT (P : Program) (s : St) : ResultVar → Tree Da
  | .tmp t => .leaf (s.ts.getD t .any)
  | .cell a t => (loadT P s.H t (s.ts.getD a .any)).bind fun x => .leaf x.1
def resTs (P : Program) (s : St) : List ResultVar → Tree (List Da)
  | [] => .leaf []
  | r :: rs => (resT P s r).bind fun d => (resTs P s rs).bind fun ds => .leaf (d :: ds)
def oneT : List Da → Da
  | [d] => d
  | ds => .tup ds
/-- What a function returns. -/
def finT (P : Program) (fn : Func) (s : St) : Tree Da :=
  (resTs P s fn.results.toList).bind fun ds => match shutAs s.H ds with
    | some (es, _) => .leaf (oneT es)
    | none => .bad
def fnT (P : Program) (Γ : Ctx) (L : Nat → St → Option LoopSpec) (fn : Func) (c : Code) (ds : List Da) : Tree Da :=
  (evC P Γ L 0 c 0 (st0 fn ds [])).bind fun o => match o with
    | .nrm s => finT P fn s
    | .ret s => finT P fn s
    | .exit _ _ => .bad
/-- What a function returns that was handed variables of ours, and what it makes of them. -/
def finX (P : Program) (fn : Func) (n0 : Nat) (hs : List Src0) (s : St) : Tree (List Bx × Da) :=
  (resTs P s fn.results.toList).bind fun ds =>
    let k : Keep := ⟨[], hs, []⟩
    bif okKeep n0 k ds s && decide (n0 ≤ hs.length) then .leaf (mapI (renB s.H (k.rho ds s) []) 0 (k.rho ds s), oneT (Da.renL (idxO (k.rho ds s)) ds)) else .bad
def fnX (P : Program) (Γ : Ctx) (L : Nat → St → Option LoopSpec) (fn : Func) (c : Code) (H : List Bx) (ds : List Da) (hs : List Src0) : Tree (List Bx × Da) :=
  (evC P Γ L H.length c 0 (st0 fn ds H)).bind fun o => match o with
    | .nrm s => finX P fn H.length hs s
    | .ret s => finX P fn H.length hs s
    | .exit _ _ => .bad
instance : Inhabited (List Bx × Da) := ⟨([], .any)⟩
section
variable {P : Program} {Γ : Ctx} {L : Nat → St → Option LoopSpec} {E : Env} {W : World} {s : St} {m : List Loc} {a : Act}
def resSem (tmps : Array Value) : ResultVar → Sem Value
  | .tmp t => pure (tmps.getD t undef)
  | .cell a t => do loadVar t (← asAddr (tmps.getD a undef))
theorem resT_run (h : Inv E s m a W) (r : ResultVar) (hs : (resT P s r).safe) : ∃ v, (resSem a.tmps r).run P W = .ok v W ∧ Sees (Uof E.U0 s.H m) W m v (resT P s r).get := by
  cases r with
  | tmp t => exact ⟨_, rfl, h.tm t⟩
  | cell p t =>
    simp only [resT] at hs ⊢
    obtain ⟨h1, -⟩ := Tree.safe_bind hs
    rw [Tree.get_bind hs]
    have hp := h.tm p
    obtain ⟨x, hx, hx2⟩ := loadT_run h.hi t _ _ hp h1
    refine ⟨x, ?_, hx2⟩
    have hpt : ∃ ad, a.tmps.getD p undef = .pointer (some ad) := by
      generalize s.ts.getD p .any = d at *
      generalize a.tmps.getD p undef = v at *
      cases hp <;> first | exact ⟨_, rfl⟩ | exact h1.elim
    obtain ⟨ad, had⟩ := hpt
    rw [had] at hx
    simp only [Instr.loadAt, Instr.sureAddr, Sem.run_bind, Sem.run_pure, Result.andThen_ok] at hx
    simp [resSem, had, asAddr, hx]
theorem resTs_run (h : Inv E s m a W) : ∀ (rs : List ResultVar), (resTs P s rs).safe → ∃ vs, (rs.mapM (resSem a.tmps)).run P W = .ok vs W ∧ vs.length = (resTs P s rs).get.length ∧ (∀ (i : Nat) (v : Value) (d : Da), vs[i]? = some v → (resTs P s rs).get[i]? = some d → Sees (Uof E.U0 s.H m) W m v d) ∧ vs.length = rs.length
  | [], _ => ⟨[], by simp, rfl, fun i v d hv => by simp at hv, rfl⟩
  | r :: rs, hs => by
    simp only [resTs] at hs ⊢
    obtain ⟨h1, h2⟩ := Tree.safe_bind hs
    rw [Tree.get_bind hs]
    obtain ⟨h3, -⟩ := Tree.safe_bind h2
    rw [Tree.get_bind h2]
    obtain ⟨v, g1, g2⟩ := resT_run h r h1
    obtain ⟨vs, g3, g4, g5, g6⟩ := resTs_run h rs h3
    refine ⟨v :: vs, by simp [List.mapM_cons, g1, g3], by simp [Tree.get, g4], fun i v' d hv hd => ?_, by simp [g6]⟩
    simp only [Tree.get] at hd
    cases i with
    | zero => simp at hv hd; subst hv hd; exact g2
    | succ i => exact g5 i v' d (by simpa using hv) (by simpa using hd)
theorem results_eq (fn : Func) (tmps : Array Value) : results fn tmps = (do let vs ← fn.results.mapM (resSem tmps); pure (if h : vs.size = 1 then vs[0] else .tuple vs)) := by
  unfold results
  congr 1
theorem one_sees {U : Ex} {m : List Loc} {vs : List Value} {es : List Da} (hl : vs.length = es.length) (h : ∀ (i : Nat) (v : Value) (d : Da), vs[i]? = some v → es[i]? = some d → Sees U W m v d) : Sees U W m (if h : vs.toArray.size = 1 then vs.toArray[0] else .tuple vs.toArray) (oneT es) := by
  match vs, es, hl, h with
  | [v], [d], _, h => exact h 0 v d rfl rfl
  | [], [], _, h => exact .tup _ _ _ rfl fun i v d hv => by simp at hv
  | v :: v' :: r, d :: d' :: r', hl, h => exact .tup _ _ _ (by simpa using hl) fun i v d hv hd => h i v d (by simpa using hv) hd
theorem results_run (h : Inv E s m a W) (fn : Func) (hs : (resTs P s fn.results.toList).safe) : ∃ vs : List Value, (results fn a.tmps).run P W = .ok (if h : vs.toArray.size = 1 then vs.toArray[0] else .tuple vs.toArray) W ∧ vs.length = (resTs P s fn.results.toList).get.length ∧ ∀ (i : Nat) (v : Value) (d : Da), vs[i]? = some v → (resTs P s fn.results.toList).get[i]? = some d → Sees (Uof E.U0 s.H m) W m v d := by
  obtain ⟨vs, g1, g2, g3, g4⟩ := resTs_run h _ hs
  refine ⟨vs, ?_, g2, g3⟩
  rw [results_eq, Sem.run_bind, Array.mapM_eq_mapM_toList]
  simp [g1]
theorem finT_run (h : Inv E s m a W) (fn : Func) (hs : (finT P fn s).safe) : ∃ v, (results fn a.tmps).run P W = .ok v W ∧ Sees E.U0 W [] v (finT P fn s).get := by
  unfold finT at hs ⊢
  obtain ⟨h1, h2⟩ := Tree.safe_bind hs
  rw [Tree.get_bind hs]
  obtain ⟨vs, g1, g2, g3⟩ := results_run h fn h1
  generalize (resTs P s fn.results.toList).get = ds at *
  refine ⟨_, g1, ?_⟩
  cases hsh : shutAs s.H ds with
  | none => rw [hsh] at h2; exact h2.elim
  | some p =>
    obtain ⟨es, fz⟩ := p
    obtain ⟨e1, e2⟩ := shutAs_sees h.hi ds vs es fz g2 g3 hsh (off_frz h.hi fz)
    exact (one_sees (by rw [e1, g2]) e2).sub fun k hk => .inl hk
theorem finX_run (h : Inv E s m a W) (fn : Func) {n0 : Nat} (hn : E.m0.length = n0) (hs0 : List Src0) (hs : (finX P fn n0 hs0 s).safe) : ∃ v m2, (results fn a.tmps).run P W = .ok v W ∧ (Inv E ⟨s.ts.map fun _ => .any, (finX P fn n0 hs0 s).get.1⟩ (E.m0 ++ m2) a W) ∧ Sees (Uof E.U0 (finX P fn n0 hs0 s).get.1 (E.m0 ++ m2)) W (E.m0 ++ m2) v (finX P fn n0 hs0 s).get.2 := by
  unfold finX at hs ⊢
  obtain ⟨h1, h2⟩ := Tree.safe_bind hs
  rw [Tree.get_bind hs]
  obtain ⟨vs, g1, g2, g3⟩ := results_run h fn h1
  generalize (resTs P s fn.results.toList).get = ds at *
  simp only at h2 ⊢
  cases hk : okKeep n0 ⟨[], hs0, []⟩ ds s && decide (n0 ≤ hs0.length) with
  | false => rw [hk] at h2; exact h2.elim
  | true =>
    simp only [cond_true, Tree.get]
    simp only [Bool.and_eq_true, decide_eq_true_eq] at hk
    obtain ⟨hk1, hk2⟩ := hk
    unfold okKeep at hk1
    rw [Bool.and_eq_true] at hk1
    have r := remap_rho h.hi hk1.2 []
    generalize hρ : (⟨[], hs0, []⟩ : Keep).rho ds s = ρ at *
    have hb := keep_base (k := ⟨[], hs0, []⟩) (rs := ds) h (by rw [hn]; exact hk1.1)
    rw [hρ] at hb
    have hlen : ρ.length = hs0.length := by rw [← hρ]; simp [Keep.rho]
    have hm : locs m ρ = E.m0 ++ (locs m ρ).drop E.m0.length := by
      have : (locs m ρ).take E.m0.length = E.m0 := by
        refine List.ext_getElem? fun q => ?_
        rw [List.getElem?_take]
        by_cases hq : q < E.m0.length
        · rw [if_pos hq, List.getElem?_eq_getElem hq]
          exact hb q _ (List.getElem?_eq_getElem hq) (h.base q _ (List.getElem?_eq_getElem hq))
        · rw [if_neg hq, List.getElem?_eq_none (by omega)]
      conv => lhs; rw [← List.take_append_drop E.m0.length (locs m ρ)]
      rw [this]
    have hI := h.remap r hb (s.ts.map fun _ => .any) (by simp) fun t => by
      have : (s.ts.map fun _ => Da.any).getD t .any = .any := by
        rw [List.getD_eq_getElem?_getD, List.getElem?_map]
        cases s.ts[t]? <;> rfl
      rw [this]; exact .any _ _
    refine ⟨_, (locs m ρ).drop E.m0.length, g1, by rw [← hm]; exact hI, ?_⟩
    rw [← hm]
    exact one_sees (by rw [Da.renL_len, g2]) fun i v d hv hd => by
      rw [Da.renL_get, Option.map_eq_some_iff] at hd
      obtain ⟨e, he, rfl⟩ := hd
      exact r.sees (g3 i v e hv he)
theorem tm0 {U : Ex} {fn : Func} {ds : List Da} {vs : Array Value} (hl : vs.size = ds.length) (hv : ∀ (i : Nat) (v : Value) (d : Da), vs[i]? = some v → ds[i]? = some d → Sees U W m v d) (H : List Bx) (t : Nat) : Sees U W m ((vs ++ Array.replicate (fn.ntmps - vs.size) undef).getD t undef) ((st0 fn ds H).ts.getD t .any) := by
  simp only [st0, Array.getD_eq_getD_getElem?, List.getD_eq_getElem?_getD, Array.getElem?_append, List.getElem?_append, hl]
  by_cases ht : t < ds.length
  · rw [if_pos ht, if_pos ht, Array.getElem?_eq_getElem (by omega), List.getElem?_eq_getElem ht]
    exact hv t _ _ (Array.getElem?_eq_getElem (by omega)) (List.getElem?_eq_getElem ht)
  · rw [if_neg ht, if_neg ht, Array.getElem?_replicate, List.getElem?_replicate]
    split
    · exact .v _ _
    · exact .any _ _
/-- THE LAW: a function of the program gives what is reckoned. -/
theorem fn_ok (hΓ : COk P Γ) (hmx : P.follows .mixedOrders = true) {f : FuncId} {fn : Func} {c : Code} (hf : P.funcs[f]? = some fn) (hb : fn.body = some c) (ds : List Da)
    (hL : ∀ (k : Nat) (body : Code), (loopsIn c)[k]? = some body → ∀ s l, L k s = some l → l.T.safe → Sat P 0 (.loop body) l.s l.T.get) (hs : (fnT P Γ L fn c ds).safe) : OkC P f ds (fnT P Γ L fn c ds).get := by
  intro U w vs hU hl hv
  refine calls_of_wp hf hb ?_
  unfold fnT at hs ⊢
  obtain ⟨h1, h2⟩ := Tree.safe_bind hs
  rw [Tree.get_bind hs]
  have hUU : ∀ k, Uof U [] [] k → U k := by
    rintro k (g | ⟨b, x, L, g1, -⟩)
    · exact g
    · simp at g1
  have hI : Inv ⟨U, fun _ => False, fun _ => False, w, []⟩ (st0 fn ds []) [] { tmps := vs ++ Array.replicate (fn.ntmps - vs.size) undef, defers := [] } w := by
    refine ⟨⟨rfl, hU, fun b x L h1 => ?_, fun b b' x x' L L' h1 => ?_, fun b x L h1 => ?_, fun b x L h1 => ?_⟩, Chg.refl _ _, ?_, fun b x L h1 => ?_, fun q L hq => ?_, fun t => (tm0 hl hv [] t).sub hUU, by simp [st0, hl], rfl⟩
    · simp [st0] at h1
    · simp [st0] at h1
    · simp [st0] at h1
    · simp [st0] at h1
    · rintro k ⟨b, x, L, g1, -⟩
      simp [st0] at g1
    · simp [st0] at h1
    · simp at hq
  refine wp_mono (evC_sat hΓ hmx c 0 (st0 fn ds []) (fun k body hk s l => by rw [Nat.zero_add]; exact hL k body hk s l) h1 ⟨U, fun _ => False, fun _ => False, w, []⟩ [] _ w rfl hI) fun e a' W' he => ?_
  generalize hg : (evC P Γ L 0 c 0 (st0 fn ds [])).get = g at *
  cases g with
  | nrm s' =>
    obtain ⟨rfl, m', hI'⟩ := he
    obtain ⟨v, g1, g2⟩ := finT_run hI' fn h2
    exact ⟨hI'.df, v, g1, v, rfl, g2, hI'.le.to_below fun _ _ h => h⟩
  | ret s' =>
    obtain ⟨rfl, m', hI'⟩ := he
    obtain ⟨v, g1, g2⟩ := finT_run hI' fn h2
    exact ⟨hI'.df, v, g1, v, rfl, g2, hI'.le.to_below fun _ _ h => h⟩
  | exit k s' => exact h2.elim
/-- .. also one that is handed variables of ours. -/
theorem fn_okX (hΓ : COk P Γ) (hmx : P.follows .mixedOrders = true) {f : FuncId} {fn : Func} {c : Code} (hf : P.funcs[f]? = some fn) (hb : fn.body = some c) (H : List Bx) (ds : List Da) (hs0 : List Src0)
    (hL : ∀ (k : Nat) (body : Code), (loopsIn c)[k]? = some body → ∀ s l, L k s = some l → l.T.safe → Sat P H.length (.loop body) l.s l.T.get) (hs : (fnX P Γ L fn c H ds hs0).safe) : OkX P f H ds (fnX P Γ L fn c H ds hs0).get.1 (fnX P Γ L fn c H ds hs0).get.2 := by
  intro U0 m w vs hi hl hv
  refine calls_of_wp hf hb ?_
  unfold fnX at hs ⊢
  obtain ⟨h1, h2⟩ := Tree.safe_bind hs
  rw [Tree.get_bind hs]
  have hI : Inv ⟨U0, Mut H m, fun k => ∃ (b : Nat) (x : Bx) (L : Loc), H[b]? = some x ∧ x.live = true ∧ m[b]? = some L ∧ k ∈ L.foot, w, m⟩ (st0 fn ds H) m { tmps := vs ++ Array.replicate (fn.ntmps - vs.size) undef, defers := [] } w :=
    ⟨hi, Chg.refl _ _, fun k hk => .inr hk, fun b x L h1 h2 h3 k hk => .inr ⟨b, x, L, h1, h2, h3, hk⟩, fun q L hq => hq, fun t => tm0 hl hv H t, by simp [st0, hl], rfl⟩
  refine wp_mono (evC_sat hΓ hmx c 0 (st0 fn ds H) (fun k body hk s l => by rw [Nat.zero_add]; exact hL k body hk s l) h1 _ m _ w hi.ml hI) fun e a' W' he => ?_
  generalize hg : (evC P Γ L H.length c 0 (st0 fn ds H)).get = g at *
  cases g with
  | nrm s' =>
    obtain ⟨rfl, m', hI'⟩ := he
    obtain ⟨v, m2, g1, g2, g3⟩ := finX_run hI' fn hi.ml hs0 h2
    exact ⟨hI'.df, v, g1, v, m2, rfl, ⟨g2.hi, g2.le, g2.new, g2.mt⟩, g3⟩
  | ret s' =>
    obtain ⟨rfl, m', hI'⟩ := he
    obtain ⟨v, m2, g1, g2, g3⟩ := finX_run hI' fn hi.ml hs0 h2
    exact ⟨hI'.df, v, g1, v, m2, rfl, ⟨g2.hi, g2.le, g2.new, g2.mt⟩, g3⟩
  | exit k s' => exact h2.elim
end
end Go.Proofs.YthlebalbiokjpaaGreat
