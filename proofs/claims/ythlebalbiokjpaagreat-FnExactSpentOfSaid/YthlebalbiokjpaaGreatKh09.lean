/- The walk by reckoning is right: regions in the order of the text. | A region that draws its order: what holds whatever has been done of it. Nothing of a program is named here. -/
import Derived.Test.YthlebalbiokjpaaGreatKh08
namespace Go.Proofs.YthlebalbiokjpaaGreat
open Go.RowKit
set_option linter.unusedVariables false
set_option linter.unusedSimpArgs false
/-- What was there at a function's entry: what is not to be turned, what may be, what is handed on; memory; where what is handed on lies. -/
structure Env where
  U0 : Ex
  R : Ex
  F : Ex
  w0 : World
  m0 : List Loc
structure Inv (E : Env) (s : St) (m : List Loc) (a : Act) (W : World) : Prop where
  hi : HI E.U0 s.H m W
  le : Chg E.R E.w0 W
  mt : ∀ k, Mut s.H m k → E.w0.heap.size ≤ k ∨ E.R k
  new : ∀ (b : Nat) (x : Bx) (L : Loc), s.H[b]? = some x → x.live = true → m[b]? = some L → ∀ k ∈ L.foot, E.w0.heap.size ≤ k ∨ E.F k
  base : ∀ (q : Nat) (L : Loc), E.m0[q]? = some L → m[q]? = some L
  tm : ∀ t : Nat, Sees (Uof E.U0 s.H m) W m (a.tmps.getD t undef) (s.ts.getD t .any)
  sz : a.tmps.size = s.ts.length
  df : a.defers = []
theorem Turned.uof {U0 : Ex} {H H' : List Bx} {m m2 : List Loc} {W W' : World} (h : Turned U0 H m W H' m2 W') : ∀ k, k < W.heap.size → Uof U0 H' (m ++ m2) k → Uof U0 H m k := fun k hk hu => hu.imp id fun hu => (h.mt k hu).resolve_left (by omega)
theorem Turned.sees {U0 : Ex} {H H' : List Bx} {m m2 : List Loc} {W W' : World} (h : Turned U0 H m W H' m2 W') {v : Value} {d : Da} (hs : Sees (Uof U0 H m) W m v d) : Sees (Uof U0 H' (m ++ m2)) W' (m ++ m2) v d :=
  (hs.app).chg h.chg (fun k hk => .inr hk) h.uof
section
variable {P : Program} {Γ : Ctx} {E : Env} {s : St} {m : List Loc} {a : Act} {W W' : World}
theorem Inv.ev (h : Inv E s m a W) (x : Operand) : Sees (Uof E.U0 s.H m) W m (a.eval x) (evO s.ts x) := by
  cases x with
  | tmp t => exact h.tm t
  | const v => exact sees_ofC v
  | global g => exact .any _ _
  | func f => exact .clo _ _ _ _ _ _ rfl (fun i v d hv => by simp at hv) rfl (fun i v d hv => by simp at hv)
theorem getD_put (a : Act) (t : Nat) (v : Value) (t' : Nat) : ({ a with tmps := a.tmps.setIfInBounds t v } : Act).tmps.getD t' undef = if t' = t ∧ t < a.tmps.size then v else a.tmps.getD t' undef := by
  simp only [Array.getD_eq_getD_getElem?, Array.getElem?_setIfInBounds]
  by_cases h : t = t'
  · subst h
    by_cases h2 : t < a.tmps.size <;> simp [h2]
  · have h3 : ¬ (t' = t ∧ t < a.tmps.size) := fun e => h e.1.symm
    simp [h, h3]
theorem getD_set (l : List Da) (t : Nat) (d : Da) (t' : Nat) : (l.set t d).getD t' .any = if t' = t ∧ t < l.length then d else l.getD t' .any := by
  simp only [List.getD_eq_getElem?_getD, List.getElem?_set]
  by_cases h : t = t'
  · subst h
    by_cases h2 : t < l.length <;> simp [h2]
  · have h3 : ¬ (t' = t ∧ t < l.length) := fun e => h e.1.symm
    simp [h, h3]
theorem Inv.put (h : Inv E s m a W) (dst : Option Tmp) {v : Value} {d : Da} (hv : Sees (Uof E.U0 s.H m) W m v d) : Inv E (s.put dst d) m (a.put dst v) W := by
  cases dst with
  | none => exact h
  | some t =>
    refine ⟨h.hi, h.le, h.mt, h.new, h.base, fun t' => ?_, by simp [Act.put, St.put, h.sz], h.df⟩
    show Sees _ _ _ (({ a with tmps := a.tmps.setIfInBounds t v } : Act).tmps.getD t' undef) ((s.ts.set t d).getD t' .any)
    rw [getD_put, getD_set, h.sz]
    split
    · exact hv
    · exact h.tm t'
/-- Behind a step. -/
theorem Inv.turn (h : Inv E s m a W) {H' : List Bx} {m2 : List Loc} (ht : Turned E.U0 s.H m W H' m2 W') : Inv E { s with H := H' } (m ++ m2) a W' := by
  refine ⟨ht.hi, h.le.trans ht.chg (fun k hk hlt => (h.mt k hk).resolve_left (by omega)), fun k hk => ?_, fun b x L h1 h2 h3 k hk => ?_, fun q L hq => ?_, fun t => ht.sees (h.tm t), h.sz, h.df⟩
  · rcases ht.mt k hk with g | g
    · exact .inl (Nat.le_trans h.le.size g)
    · exact h.mt k g
  · rcases ht.new b x L h1 h2 h3 k hk with g | ⟨b', x', L', g1, g2, g3, g4⟩
    · exact .inl (Nat.le_trans h.le.size g)
    · exact h.new b' x' L' g1 g2 g3 k g4
  · have := h.base q L hq
    rw [List.getElem?_append_left (List.getElem?_eq_some_iff.1 this).1]; exact this
theorem Inv.done (h : Inv E s m a W) (dst : Option Tmp) {e : Eff} {v : Value} {d : Da} (hd : Done E.U0 s.H m W e d v W') : ∃ m', Inv E ((s.app e).put dst d) m' (a.put dst v) W' := by
  obtain ⟨m2, h1, h2⟩ := hd
  exact ⟨m ++ m2, (h.turn h1).put dst h2⟩
/-- One operation. -/
theorem opT_wp (hΓ : COk P Γ) (h : Inv E s m a W) (o : Oper) (hs : (opT P Γ (evO s.ts) s.H o).safe) {K : Act → World → Prop} {Q : Exit → Act → World → Prop}
    (hK : ∀ m' v W', Inv E ((s.app (opT P Γ (evO s.ts) s.H o).get.2).put o.dst (opT P Γ (evO s.ts) s.H o).get.1) m' (a.put o.dst v) W' → K (a.put o.dst v) W') : o.wp P a W K Q :=
  gives_wp (opT_gives hΓ h.hi (evO s.ts) o (fun x _ => h.ev x) hs) fun v W' hd => by
    obtain ⟨m', hI⟩ := h.done o.dst hd
    exact hK m' v W' hI
theorem wantT_ok (h : Inv E s m a W) (ops : Array Oper) (o : Oper) (hs : (wantT s ops o).safe) : Region.wanted o (yielded ops a.tmps) = (wantT s ops o).get.1 ∧ Inv E (wantT s ops o).get.2 m a W := by
  revert hs
  unfold wantT
  split
  · rename_i hg
    intro _
    exact ⟨by simp [Region.wanted, hg, Tree.get], h⟩
  · rename_i j want hg
    split
    · intro hs; exact hs.elim
    · rename_i t ht
      have hy : yielded ops a.tmps j = match a.tmps[t]? with | some (.bool b) => some b | _ => none := by
        unfold yielded
        rw [ht]
        rfl
      have hwt : Region.wanted o (yielded ops a.tmps) = (yielded ops a.tmps j == some want) := by unfold Region.wanted; rw [hg]
      rw [hwt]
      split
      · rename_i x hd
        intro _
        have hlt := (List.getElem?_eq_some_iff.1 hd).1
        have hv := h.tm t
        have hlt2 : t < a.tmps.size := by rw [h.sz]; exact hlt
        simp only [Array.getD_eq_getD_getElem?, List.getD_eq_getElem?_getD, hd, Option.getD_some, Array.getElem?_eq_getElem hlt2] at hv
        refine ⟨?_, h⟩
        rw [hy, Array.getElem?_eq_getElem hlt2, hv.v_inv]
        rfl
      · rename_i d hnt hd
        intro hs
        have hlt := (List.getElem?_eq_some_iff.1 hd).1
        have hv := h.tm t
        have hlt2 : t < a.tmps.size := by rw [h.sz]; exact hlt
        simp only [Array.getD_eq_getD_getElem?, List.getD_eq_getElem?_getD, hd, Option.getD_some, Array.getElem?_eq_getElem hlt2] at hv
        have set_ : ∀ x, a.tmps[t] = .bool x → Inv E { s with ts := s.ts.set t (.v (.bool x)) } m a W := fun x hx => by
          have := h.put (some t) (v := a.tmps[t]) (d := .v (.bool x)) (by rw [hx]; exact .v _ _)
          have e0 : a.tmps.setIfInBounds t a.tmps[t] = a.tmps := by
            apply Array.ext
            · simp
            · intro i g1 g2
              rw [Array.getElem_setIfInBounds]
              split
              · rename_i e; subst e; rfl
              · rfl
          have e : a.put (some t) a.tmps[t] = a := by
            show Act.mk (a.tmps.setIfInBounds t a.tmps[t]) a.defers = a
            rw [e0]
          rw [e] at this
          exact this
        have fin : ∀ x, a.tmps[t] = .bool x → (yielded ops a.tmps j == some want) = (x == want) := fun x hx => by
          rw [hy, Array.getElem?_eq_getElem hlt2, hx]
          rfl
        revert hs
        unfold br
        split
        · rename_i x
          intro _
          generalize hq : a.tmps[t] = q at hv
          cases hv
          exact ⟨fin _ hq, set_ _ hq⟩
        · rename_i c
          intro _
          generalize hq : a.tmps[t] = q at hv
          cases hv
          cases c <;> exact ⟨fin _ hq, set_ _ hq⟩
        · rename_i c
          intro _
          generalize hq : a.tmps[t] = q at hv
          cases hv
          cases c <;> exact ⟨fin _ hq, set_ _ hq⟩
        · intro hs; exact hs.elim
      · intro hs; exact hs.elim
/-- The operations of a region, in the order of the text. -/
theorem opsT_wp (hΓ : COk P Γ) (ops : Array Oper) {Q : Exit → Act → World → Prop} : ∀ (l : List Oper) (s : St) (m : List Loc) (a : Act) (W : World), Inv E s m a W → (opsT P Γ ops l s).safe → (∀ m' a' W', Inv E (opsT P Γ ops l s).get m' a' W' → Q .normal a' W') → wpList P ops Q l a W
  | [], s, m, a, W, h, _, hQ => hQ m a W h
  | o :: r, s, m, a, W, h, hs, hQ => by
    simp only [opsT] at hs hQ
    obtain ⟨h1, h2⟩ := Tree.safe_bind hs
    rw [Tree.get_bind hs] at hQ
    obtain ⟨hw, hI⟩ := wantT_ok h ops o h1
    generalize hgw : (wantT s ops o).get = g at *
    obtain ⟨b, s1⟩ := g
    cases b with
    | false =>
      simp only at hw hI h2 hQ
      unfold wpList
      rw [hw]
      simp only [Bool.false_eq_true, if_false]
      exact opsT_wp hΓ ops r _ m _ W (hI.put o.dst (v := undef) (.v _ _)) h2 hQ
    | true =>
      simp only at hw hI h2 hQ
      obtain ⟨h3, h4⟩ := Tree.safe_bind h2
      rw [Tree.get_bind h2] at hQ
      unfold wpList
      rw [hw]
      simp only [if_true]
      refine .inl (opT_wp hΓ hI o h3 fun m' v W' hI' => ?_)
      exact opsT_wp hΓ ops r _ m' _ W' hI' h4 hQ
end
end Go.Proofs.YthlebalbiokjpaaGreat
namespace Go.Proofs.YthlebalbiokjpaaGreat
open Go.RowKit
set_option linter.unusedVariables false
set_option linter.unusedSimpArgs false
def updS (S : Nat → Bool) (i : Nat) : Nat → Bool := fun j => if j = i then true else S j
/-- Operation i may come now: what it waits for is done, and nothing is done that waits for it. -/
structure MayCome (B : List Nat) (n : Nat) (S : Nat → Bool) (i : Nat) : Prop where
  no : S i = false
  anc : ∀ j, ancB B i j = true → S j = true
  desc : ∀ k, S k = true → k < n ∧ ancB B k i = false
section
variable {P : Program} {l : List Oper} {B : List Nat} {Q : Exit → Act → World → Prop}
theorem free_sound (hok : OkAt l B) (I : (Nat → Bool) → Act → World → Prop)
    (step : ∀ (S : Nat → Bool) (a : Act) (w : World) (i : Nat) (o : Oper), l[i]? = some o → MayCome B l.length S i → I S a w → if Region.wanted o (yielded l.toArray a.tmps) = true then o.wp P a w (fun a' w' => I (updS S i) a' w') Q else I (updS S i) (a.put o.dst undef) w)
    (fin : ∀ (S : Nat → Bool) (a : Act) (w : World), (∀ i, i < l.length → S i = true) → I S a w → Q .normal a w) :
    ∀ (fuel : Nat) (listed : Array Bool) (a : Act) (w : World), listed.size = l.length → (∀ (i : Nat) (o : Oper), l[i]? = some o → listed.getD i true = true → ∀ j, ancB B i j = true → listed.getD j true = true) → fuel = ((List.range l.length).filter fun i => !listed.getD i true).length →
      I (fun i => decide (i < l.length) && listed.getD i true) a w → wpAny P .any l.toArray Q fuel listed a w := by
  have ready_all : ∀ (listed : Array Bool), listed.size = l.length → Region.ready .any l.toArray listed = [] → ∀ i, i < l.length → listed.getD i true = true := by
    intro listed hl hr i
    induction i using Nat.strongRecOn with
    | _ i ih =>
      intro hi
      cases hc : listed.getD i true with
      | true => rfl
      | false =>
        exfalso
        have : i ∈ Region.ready .any l.toArray listed := mem_ready.2 ⟨hc, l[i], by simp [hi], fun e he hb => by
          have hlt := hok.dep i l[i] (List.getElem?_eq_getElem hi) e he hb
          have := ih e.on hlt (by omega)
          have h2 : e.on < listed.size := by omega
          simpa [h2] using this⟩
        rw [hr] at this
        cases this
  intro fuel
  induction fuel with
  | zero =>
    intro listed a w hl hcl hf hI
    have hall : ∀ i, i < l.length → listed.getD i true = true := fun i hi => by
      cases hc : listed.getD i true with
      | true => rfl
      | false =>
        exfalso
        have hm : i ∈ (List.range l.length).filter fun i => !listed.getD i true := List.mem_filter.2 ⟨List.mem_range.2 hi, by simp [hc]⟩
        rw [List.eq_nil_of_length_eq_zero hf.symm] at hm
        cases hm
    refine ⟨?_, fin _ a w (fun i hi => by simp [hi, hall i hi]) hI⟩
    refine List.eq_nil_iff_forall_not_mem.2 fun j hj => ?_
    obtain ⟨hjl, oj, hoj, -⟩ := mem_ready.1 hj
    have hlt : j < l.length := by
      have : l[j]? = some oj := by simpa using hoj
      exact (List.getElem?_eq_some_iff.1 this).1
    rw [hall j hlt] at hjl; cases hjl
  | succ fuel ih =>
    intro listed a w hl hcl hf hI
    refine ⟨fun hr => fin _ a w (fun i hi => by simp [hi, ready_all listed hl hr i hi]) hI, fun j hj => ?_⟩
    obtain ⟨hjl, oj, hoj, hdeps⟩ := mem_ready.1 hj
    have hoj' : l[j]? = some oj := by simpa using hoj
    have hjlt : j < l.length := (List.getElem?_eq_some_iff.1 hoj').1
    have hanc : ∀ i, ancB B j i = true → listed.getD i true = true := by
      intro i hi
      have hij := hok.lt j oj hoj' i hi
      obtain ⟨e, he, hb, h2⟩ := hok.close j oj hoj' i hij hi
      have h3 := hdeps e he hb
      have hej := hok.dep j oj hoj' e he hb
      have h4 : listed.getD e.on true = true := by
        have : e.on < listed.size := by omega
        simpa [this] using h3
      rcases h2 with rfl | h2
      · exact h4
      · exact hcl e.on l[e.on] (List.getElem?_eq_getElem (by omega)) h4 i h2
    have hcl' : ∀ i o, l[i]? = some o → (listed.setIfInBounds j true).getD i true = true → ∀ k, ancB B i k = true → (listed.setIfInBounds j true).getD k true = true := by
      intro i o ho hi k hk
      by_cases hkj : k = j
      · subst hkj; simp [hl, hjlt]
      · rw [getD_set_ne true (Ne.symm hkj)]
        by_cases hij : i = j
        · subst hij; exact hanc k hk
        · rw [getD_set_ne true (Ne.symm hij)] at hi
          exact hcl i o ho hi k hk
    have hfu : fuel = ((List.range l.length).filter fun i => !(listed.setIfInBounds j true).getD i true).length := by
      have e1 : ((List.range l.length).filter fun i => !(listed.setIfInBounds j true).getD i true) = ((List.range l.length).filter fun i => !listed.getD i true).erase j := by
        rw [(List.nodup_range.sublist List.filter_sublist).erase_eq_filter, List.filter_filter]
        refine List.filter_congr fun x hx => ?_
        by_cases hxj : x = j
        · subst hxj
          simp [hl, hjlt]
        · rw [getD_set_ne true (Ne.symm hxj)]
          simp [hxj]
      rw [e1, List.length_erase_of_mem (List.mem_filter.2 ⟨List.mem_range.2 hjlt, by simp [hjl]⟩), ← hf]
      rfl
    have hS : (fun i => decide (i < l.length) && (listed.setIfInBounds j true).getD i true) = updS (fun i => decide (i < l.length) && listed.getD i true) j := by
      funext i
      unfold updS
      by_cases hij : i = j
      · subst hij; simp [hjlt, hl]
      · rw [if_neg hij, getD_set_ne true (Ne.symm hij)]
    have hmay : MayCome B l.length (fun i => decide (i < l.length) && listed.getD i true) j := by
      refine ⟨by simp [hjl], fun i hi => ?_, fun k hk => ?_⟩
      · have := hok.lt j oj hoj' i hi
        simp [hanc i hi]; omega
      · simp only [Bool.and_eq_true, decide_eq_true_eq] at hk
        refine ⟨hk.1, ?_⟩
        cases hc : ancB B k j with
        | false => rfl
        | true =>
          have := hcl k l[k] (List.getElem?_eq_getElem hk.1) hk.2 j hc
          rw [hjl] at this; cases this
    have hst := step _ a w j oj hoj' hmay hI
    unfold wpOp
    simp only [hoj]
    by_cases hw : Region.wanted oj (yielded l.toArray a.tmps) = true
    · simp only [hw, if_true] at hst ⊢
      refine .inl (Oper.wp_mono (fun a' w' hI' => ?_) hst)
      exact ih _ a' w' (by simpa using hl) hcl' hfu (by rw [hS]; exact hI')
    · simp only [hw, Bool.false_eq_true, if_false] at hst ⊢
      exact ih _ _ w (by simpa using hl) hcl' hfu (by rw [hS]; exact hst)
/-- A REGION THAT DRAWS ITS ORDER. -/
theorem wp_region_free {id : Nat} {a : Act} {w : World} (hmx : P.follows .mixedOrders = true) (hok : OkAt l B) (I : (Nat → Bool) → Act → World → Prop) (h0 : I (fun _ => false) a w.drew)
    (step : ∀ (S : Nat → Bool) (a : Act) (w : World) (i : Nat) (o : Oper), l[i]? = some o → MayCome B l.length S i → I S a w → if Region.wanted o (yielded l.toArray a.tmps) = true then o.wp P a w (fun a' w' => I (updS S i) a' w') Q else I (updS S i) (a.put o.dst undef) w)
    (fin : ∀ (S : Nat → Bool) (a : Act) (w : World), (∀ i, i < l.length → S i = true) → I S a w → Q .normal a w) : (Code.region id l.toArray true).wp P Q a w := by
  refine wp_region_any hmx ?_
  have h1 : ∀ i, i < l.length → (Array.replicate l.length false).getD i true = false := fun i hi => by simp [hi]
  have := free_sound hok I step fin l.length (Array.replicate l.length false) a w.drew (by simp) (fun i o ho hi => by
    have := (List.getElem?_eq_some_iff.1 ho).1
    rw [h1 i this] at hi; cases hi) (by
    have : ((List.range l.length).filter fun i => !(Array.replicate l.length false).getD i true) = List.range l.length := List.filter_eq_self.2 fun i hi => by rw [h1 i (List.mem_range.1 hi)]; rfl
    rw [this, List.length_range]) (by
    have : (fun i => decide (i < l.length) && (Array.replicate l.length false).getD i true) = fun _ => false := by
      funext i
      by_cases hi : i < l.length
      · rw [h1 i hi]; simp
      · simp [hi]
    rw [this]; exact h0)
  simpa using this
end
end Go.Proofs.YthlebalbiokjpaaGreat
