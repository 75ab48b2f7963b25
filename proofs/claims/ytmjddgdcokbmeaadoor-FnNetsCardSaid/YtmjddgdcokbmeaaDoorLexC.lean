/- Regions of open order in two phases: what comes first all of it, with one invariant; then the rest, with another. -/
import Derived.Test.YtmjddgdcokbmeaaDoorLexB
import Derived.Test.YtmjddgdcokbmeaaDoorLex
namespace Go.Proofs.YtmjddgdcokbmeaaDoor
open Go.RowKit
set_option linter.unusedVariables false
set_option linter.unusedSimpArgs false
set_option maxRecDepth 20000
set_option maxHeartbeats 1000000

section
variable {P : Program} {ops : Array Oper} {J : Nat → World → Prop} {Le : World → World → Prop} {φ : Nat → Option Spec} {B : List Nat} {m : Nat}
def marks (l : List Oper) (n0 : Nat) : Array Bool := Array.replicate n0 true ++ Array.replicate (l.length - n0) false
/-- All that stands from n0 on waits for all that stands ahead of it. -/
def tailAll (l : List Oper) (B : List Nat) (n0 : Nat) : Bool :=
  decide (n0 ≤ l.length) && ((List.range l.length).all fun t => decide (t < n0) || (List.range n0).all fun j => ancB B t j)
theorem lex_soundF {l : List Oper} {n0 : Nat} {Q : Exit → Act → World → Prop} {fin : Act → Facts → Prop} (hok : OkAt l B) (htl : tailAll l B n0 = true) (hfin : ∀ (F : Facts) (a : Act) (w : World), J 0 w → factsAt φ F (fun _ => true) w → fin a F → wpAny P .any l.toArray Q (l.length - n0) (marks l n0) a w) (hst : ∀ j sp x v w w', φ j = some sp → Le w w' → sp x v w → sp x v w') (hm : ∀ m w, J (m + 1) w → J m w) :
    ∀ (fuel : Nat) (listed : Array Bool) (F : Facts) (a : Act) (w : World), fuel = (rem (l.take n0) listed).length + (l.length - n0) → listed.size = l.length → (∀ (i : Nat) (o : Oper), l[i]? = some o → listed.getD i true = true → ∀ j, ancB B i j = true → listed.getD j true = true) →
      (∀ t, n0 ≤ t → t < l.length → listed.getD t true = false) →
      (∀ j, j < l.length → listed.getD j true = false → F j = none) → J (rem (l.take n0) listed).length w → factsAt φ F (fun _ => true) w →
      lexR P l.toArray J Le φ B (rem (l.take n0) listed) fin F a → wpAny P .any l.toArray Q fuel listed a w := by
  simp only [tailAll, Bool.and_eq_true, decide_eq_true_eq, List.all_eq_true, List.mem_range, Bool.or_eq_true] at htl
  obtain ⟨hn0, htail⟩ := htl
  have done : ∀ (listed : Array Bool) (F : Facts) (a : Act) (w : World), listed.size = l.length → (∀ t, n0 ≤ t → t < l.length → listed.getD t true = false) → rem (l.take n0) listed = [] → J 0 w → factsAt φ F (fun _ => true) w →
      lexR P l.toArray J Le φ B [] fin F a → wpAny P .any l.toArray Q (l.length - n0) listed a w := by
    intro listed F a w hl ht hnil hJ hf h
    have he : listed = Array.replicate n0 true ++ Array.replicate (l.length - n0) false := by
      apply Array.ext
      · simp [hl]; omega
      · intro i h1 h2
        have hi : i < l.length := by omega
        by_cases hin : i < n0
        · have : listed.getD i true = true := by
            cases hc : listed.getD i true with
            | true => rfl
            | false =>
              have hx : (i, l[i]) ∈ rem (l.take n0) listed := List.mem_filter.2 ⟨mem_take.2 ⟨List.getElem?_eq_getElem hi, hin⟩, by simp [hc]⟩
              rw [hnil] at hx
              cases hx
          simp [h1] at this
          simp [Array.getElem_append, hin, this]
        · have := ht i (by omega) hi
          simp [h1] at this
          simp [Array.getElem_append, hin, this]
    rw [he]
    exact hfin F a w hJ hf h
  intro fuel
  induction fuel with
  | zero =>
    intro listed F a w hfu hl hcl ht hF hJ hf h
    have hnil : rem (l.take n0) listed = [] := List.eq_nil_of_length_eq_zero (by omega)
    rw [hnil] at h hJ
    have := done listed F a w hl ht hnil hJ hf h
    rwa [show l.length - n0 = 0 by omega] at this
  | succ fuel ih =>
    intro listed F a w hfu hl hcl ht hF hJ hf h
    by_cases hnil : rem (l.take n0) listed = []
    · rw [hnil] at h hJ
      have := done listed F a w hl ht hnil hJ hf h
      rwa [show l.length - n0 = fuel + 1 by rw [hnil] at hfu; simp at hfu; omega] at this
    refine ⟨fun hr => ?_, fun j hj => ?_⟩
    · exfalso
      obtain ⟨x, hx⟩ := List.exists_mem_of_ne_nil _ hnil
      have hall : ∀ i, i < l.length → listed.getD i true = true := by
        intro i
        induction i using Nat.strongRecOn with
        | _ i ih =>
          intro hi
          cases hc : listed.getD i true with
          | true => rfl
          | false =>
            exfalso
            have : i ∈ Region.ready .any l.toArray listed := mem_ready.2 ⟨hc, l[i], by simp [hi], fun e he hb => by
              have hlt := hok.dep i l[i] (List.getElem?_eq_getElem hi) e he hb
              have := ih e.on hlt (by omega)
              have h2 : e.on < listed.size := by omega
              simpa [h2] using this⟩
            rw [hr] at this
            cases this
      obtain ⟨hx1, hx2⟩ := List.mem_filter.1 hx
      rw [hall x.1 (List.getElem?_eq_some_iff.1 (mem_take.1 hx1).1).1] at hx2
      simp at hx2
    · obtain ⟨hjl, oj, hoj, hdeps⟩ := mem_ready.1 hj
      have hoj' : l[j]? = some oj := by simpa using hoj
      have hjlt : j < l.length := (List.getElem?_eq_some_iff.1 hoj').1
      have hanc : ∀ i, ancB B j i = true → listed.getD i true = true := by
        intro i hi
        have hij := hok.lt j oj hoj' i hi
        obtain ⟨e, he, hb, h2⟩ := hok.close j oj hoj' i hij hi
        have h3 := hdeps e he hb
        have hej := hok.dep j oj hoj' e he hb
        have h4 : listed.getD e.on true = true := by
          have : e.on < listed.size := by omega
          simpa [this] using h3
        rcases h2 with rfl | h2
        · exact h4
        · exact hcl e.on l[e.on] (List.getElem?_eq_getElem (by omega)) h4 i h2
      have hjn : j < n0 := by
        rcases Nat.lt_or_ge j n0 with h1 | h1
        · exact h1
        · exfalso
          obtain ⟨x, hx⟩ := List.exists_mem_of_ne_nil _ hnil
          obtain ⟨hx1, hx2⟩ := List.mem_filter.1 hx
          have h2 := (htail j hjlt).resolve_left (by omega) x.1 (mem_take.1 hx1).2
          rw [hanc x.1 h2] at hx2
          simp at hx2
      have hmem : (j, oj) ∈ rem (l.take n0) listed := List.mem_filter.2 ⟨mem_take.2 ⟨hoj', hjn⟩, by rw [hjl]; rfl⟩
      obtain ⟨l1, l2, hsp⟩ := List.append_of_mem hmem
      have hs : (l1 ++ (j, oj) :: l2).Pairwise fun x y => x.1 < y.1 := by rw [← hsp]; exact (pairs_sorted _).filter _
      have hlt1 : ∀ x ∈ l1, x.1 < j := fun x hx => (List.pairwise_append.1 hs).2.2 x hx (j, oj) List.mem_cons_self
      have hah : ∀ x ∈ l1, x.1 ≠ j ∧ ancB B j x.1 = false ∧ ancB B x.1 j = false ∧ x.2.apart l.toArray oj = true ∧ (∀ cs b, x.2.op ≠ .select cs b) := by
        intro x hx
        have hxr : x ∈ rem (l.take n0) listed := by rw [hsp]; exact List.mem_append_left _ hx
        obtain ⟨hx1, hx2⟩ := List.mem_filter.1 hxr
        have hx3 := (mem_take.1 hx1).1
        have hx4 : listed.getD x.1 true = false := by simpa using hx2
        have a1 : ancB B j x.1 = false := by
          cases hc : ancB B j x.1 with
          | false => rfl
          | true => have := hanc _ hc; rw [hx4] at this; cases this
        have a2 : ancB B x.1 j = false := by
          cases hc : ancB B x.1 j with
          | false => rfl
          | true => have := hok.lt _ _ hx3 _ hc; have := hlt1 x hx; omega
        exact ⟨by have := hlt1 x hx; omega, a1, a2, hok.apart j oj hoj' x.1 x.2 (hlt1 x hx) hx3 a1, hok.sel _ _ hx3⟩
      have hsj := hok.sel j oj hoj'
      have hlen : (rem (l.take n0) listed).length = l1.length + l2.length + 1 := by rw [hsp]; simp; omega
      rw [hsp] at h
      rw [hlen] at hJ hfu
      have hFj : F j = none := hF j hjlt hjl
      have hset := rem_set (by rw [hl, List.length_take]; omega) hsp
      have ht' : ∀ t, n0 ≤ t → t < l.length → (listed.setIfInBounds j true).getD t true = false := fun t h1 h2 => by rw [getD_set_ne true (by omega)]; exact ht t h1 h2
      have hcl' : ∀ i o, l[i]? = some o → (listed.setIfInBounds j true).getD i true = true → ∀ k, ancB B i k = true → (listed.setIfInBounds j true).getD k true = true := by
        intro i o ho hi k hk
        by_cases hkj : k = j
        · subst hkj; simp [hl, hjlt]
        · rw [getD_set_ne true (Ne.symm hkj)]
          by_cases hij : i = j
          · subst hij; exact hanc k hk
          · rw [getD_set_ne true (Ne.symm hij)] at hi
            exact hcl i o ho hi k hk
      have hF' : ∀ x, ∀ k, k < l.length → (listed.setIfInBounds j true).getD k true = false → upd F j x k = none ∧ F k = none := by
        intro x k hkl hk
        have hkj : k ≠ j := fun e => by subst e; simp [hl, hjlt] at hk
        rw [getD_set_ne true (Ne.symm hkj)] at hk
        exact ⟨by simp [upd, hkj, hF k hkl hk], hF k hkl hk⟩
      unfold wpOp
      simp only [hoj]
      by_cases hw : Region.wanted oj (yielded l.toArray a.tmps) = true
      · simp only [hw, if_true]
        have hA := asks_of_lex hst hm hsj l1 F a (fun x hx => ⟨(hah x hx).1, (hah x hx).2.1, (hah x hx).2.2.2.1⟩) ⟨l2.length + 1, w, by rw [show l2.length + 1 + l1.length = l1.length + l2.length + 1 by omega]; exact hJ, hf⟩ hw h
        unfold Asks at hA
        cases hφ : φ j with
        | none =>
          simp only [hφ] at hA
          obtain ⟨v, hv⟩ := hA
          have hrun := hv _ w hJ (facts_mono hf fun _ _ => rfl)
          refine .inl ?_
          unfold Oper.wp
          rw [hrun]
          have h2 := lex_without (vj := v) (xj := argsOf a oj) hsj true l1 F a hah (fun x hx => (hah x hx).1) hFj hw rfl (fun _ _ => hv) (fun e => by cases e) (by simp only [hφ]; exact ⟨_, w, hJ, hf⟩) h
          simp only [hφ, Option.isSome_none, Bool.false_eq_true, and_false, if_false] at h2
          exact ih _ F _ w (by rw [hset, List.length_append]; omega) (by simpa using hl) hcl' ht' (fun k h1 hk => (hF' (#[], undef) k h1 hk).2) (by rw [hset, List.length_append]; exact hm _ _ hJ) hf (by rw [hset]; exact h2)
        | some sp =>
          simp only [hφ] at hA
          have hg := hA (l1.length + l2.length) w hJ (facts_mono hf fun _ _ => rfl)
          refine .inl (gives_wp hg fun v w' ⟨h1, h2, h3⟩ => ?_)
          have hfa := facts_all_upd hφ hst h2 h3 hf
          have h4 := lex_without (vj := v) (xj := argsOf a oj) hsj true l1 F a hah (fun x hx => (hah x hx).1) hFj hw rfl (fun _ e => by rw [hφ] at e; cases e) (fun e => by cases e) (by simp only [hφ]; exact ⟨_, w', h1, hfa⟩) h
          simp only [hφ, Option.isSome_some, and_self, if_true] at h4
          exact ih _ _ _ w' (by rw [hset, List.length_append]; omega) (by simpa using hl) hcl' ht' (fun k h1 hk => (hF' _ k h1 hk).1) (by rw [hset, List.length_append]; exact h1) hfa (by rw [hset]; exact h4)
      · simp only [hw, Bool.false_eq_true, if_false]
        have h2 := lex_without (vj := undef) (xj := argsOf a oj) hsj false l1 F a hah (fun x hx => (hah x hx).1) hFj (by simpa using hw) rfl (fun e => by cases e) (fun _ => rfl) (by simp only [Bool.false_eq_true, false_and, if_false]; exact ⟨_, w, hJ, hf⟩) h
        simp only [Bool.false_eq_true, false_and, if_false] at h2
        exact ih _ F _ w (by rw [hset, List.length_append]; omega) (by simpa using hl) hcl' ht' (fun k h1 hk => (hF' (#[], undef) k h1 hk).2) (by rw [hset, List.length_append]; exact hm _ _ hJ) hf (by rw [hset]; exact h2)

def tail2 (P : Program) (l : List Oper) (n0 : Nat) (Q : Exit → Act → World → Prop) (a : Act) (w : World) : Prop := wpAny P .any l.toArray Q (l.length - n0) (marks l n0) a w
def lexOk2 (l : List Oper) (n0 : Nat) : Bool := lexOk l && (tailAll l (Region.before l.toArray).toList n0 && tailOk l (Region.before l.toArray).toList l.length)
/-- A region of open order, the first n0 operations of it; what is left goes by lex2_tail. -/
theorem wp_region_lex2 {id : Nat} {Q : Exit → Act → World → Prop} {a : Act} {w : World} {l : List Oper} (n0 : Nat) (hmx : P.follows .mixedOrders = true) (hB : lexOk2 l n0 = true)
    (J : Nat → World → Prop) (Le : World → World → Prop) (φ : Nat → Option Spec) (hst : ∀ j sp x v w w', φ j = some sp → Le w w' → sp x v w → sp x v w') (hm : ∀ m w, J (m + 1) w → J m w) (h0 : J n0 w.drew)
    (h : lexR P l.toArray J Le φ (Region.before l.toArray).toList (pairs (l.take n0)) (fun a F => ∀ m w, J m w → factsAt φ F (fun _ => true) w → tail2 P l n0 Q a w) (fun _ => none) a) : (Code.region id l.toArray true).wp P Q a w := by
  unfold lexOk2 at hB
  rw [Bool.and_eq_true, Bool.and_eq_true] at hB
  refine wp_region_any hmx ?_
  have hn : n0 ≤ l.length := by
    have := hB.2.1
    simp only [tailAll, Bool.and_eq_true, decide_eq_true_eq] at this
    exact this.1
  have hr : rem (l.take n0) (Array.replicate l.length false) = pairs (l.take n0) := List.filter_eq_self.2 fun x hx => by
    have := (List.getElem?_eq_some_iff.1 (mem_take.1 hx).1).1
    simp [this]
  have hp : (pairs (l.take n0)).length = n0 := by simp [pairs]; omega
  have := lex_soundF (Q := Q) (n0 := n0) (fin := fun a F => ∀ m w, J m w → factsAt φ F (fun _ => true) w → tail2 P l n0 Q a w) (OkAt.of hB.1) hB.2.1 (fun F a w hJ hf hfi => hfi 0 w hJ hf) hst hm l.length (Array.replicate l.length false) (fun _ => none) a w.drew (by rw [hr, hp]; omega) (by simp) (fun i o ho hi => by
      have := (List.getElem?_eq_some_iff.1 ho).1
      simp [this] at hi) (fun t _ h2 => by simp [h2]) (fun _ _ _ => rfl) (by rw [hr, hp]; exact h0) (fun _ _ _ _ _ hF => by cases hF) (by rw [hr]; exact h)
  simpa using this
theorem marks_getD (l : List Oper) (n0 : Nat) (hn : n0 ≤ l.length) (i : Nat) (hi : i < l.length) : (marks l n0).getD i true = decide (i < n0) := by
  have hs : i < (marks l n0).size := by simp [marks]; omega
  rw [Array.getD_eq_getD_getElem?, Array.getElem?_eq_getElem hs]
  by_cases h : i < n0
  · simp [marks, Array.getElem_append, h]
  · simp [marks, Array.getElem_append, h]
theorem pairs_drop (l : List Oper) (n0 : Nat) (hn : n0 ≤ l.length) : rem l (marks l n0) = (pairs l).drop n0 := by
  unfold rem
  have hp : pairs l = (pairs l).take n0 ++ (pairs l).drop n0 := (List.take_append_drop _ _).symm
  have hs := pairs_sorted l
  have hlen : (pairs l).length = l.length := by simp [pairs]
  have hget : ∀ k (h : k < (pairs l).length), ((pairs l)[k]).1 = k := fun k h => by simp [pairs]
  conv => lhs; rw [hp]
  rw [List.filter_append]
  have h1 : ((pairs l).take n0).filter (fun x => !(marks l n0).getD x.1 true) = [] := List.filter_eq_nil_iff.2 fun x hx => by
    obtain ⟨k, hk, rfl⟩ := List.getElem_of_mem hx
    rw [List.getElem_take, hget k (by simp at hk; omega), marks_getD l n0 hn k (by simp at hk; omega)]
    simp only [List.length_take] at hk
    have : k < n0 := by omega
    simp [this]
  have h2 : ((pairs l).drop n0).filter (fun x => !(marks l n0).getD x.1 true) = (pairs l).drop n0 := List.filter_eq_self.2 fun x hx => by
    obtain ⟨k, hk, rfl⟩ := List.getElem_of_mem hx
    rw [List.getElem_drop, hget (n0 + k) (by simp at hk; omega), marks_getD l n0 hn (n0 + k) (by simp at hk; omega)]
    simp
  rw [h1, h2, List.nil_append]
theorem lex2_tail {Q : Exit → Act → World → Prop} {a : Act} {w : World} {l : List Oper} {n0 : Nat} (hB : lexOk2 l n0 = true)
    (J : Nat → World → Prop) (Le : World → World → Prop) (φ : Nat → Option Spec) (hst : ∀ j sp x v w w', φ j = some sp → Le w w' → sp x v w → sp x v w') (hm : ∀ m w, J (m + 1) w → J m w) (h0 : J (l.length - n0) w)
    (h : lexR P l.toArray J Le φ (Region.before l.toArray).toList ((pairs l).drop n0) (fun a F => ∀ m w, J m w → factsAt φ F (fun _ => true) w → wpList P l.toArray Q [] a w) (fun _ => none) a) : tail2 P l n0 Q a w := by
  unfold lexOk2 at hB
  rw [Bool.and_eq_true, Bool.and_eq_true] at hB
  have hok := OkAt.of hB.1
  have hn : n0 ≤ l.length := by
    have := hB.2.1
    simp only [tailAll, Bool.and_eq_true, decide_eq_true_eq] at this
    exact this.1
  have hr : rem (l.take l.length) (marks l n0) = (pairs l).drop n0 := by rw [List.take_length, pairs_drop l n0 hn]
  have hp : ((pairs l).drop n0).length = l.length - n0 := by simp [pairs]
  have := lex_sound (Q := Q) (n0 := l.length) hok hB.2.2 hst hm (l.length - n0) (marks l n0) (fun _ => none) a w (by rw [hr, hp]; omega) (by simp [marks]; omega) (fun i o ho hi j hj => by
      have hil := (List.getElem?_eq_some_iff.1 ho).1
      have hji := hok.lt i o ho j hj
      rw [marks_getD l n0 hn i hil] at hi
      rw [marks_getD l n0 hn j (by omega)]
      simp at hi ⊢
      omega) (fun t h1 h2 => by omega) (fun _ _ _ => rfl) (by rw [hr, hp]; exact h0) (fun _ _ _ _ _ hF => by cases hF) (by rw [hr, List.drop_length]; exact h)
  exact this
/-- A region that stores over an earlier world's block: a row stored twice is the row stored once. -/
theorem setRow_twice (w : World) (b : Nat) (cs : Array Value) : (w.setRow b cs).setRow b cs = w.setRow b cs := by
  simp only [World.setRow]
  congr 1
  apply Array.ext
  · simp
  · intro i h1 h2
    by_cases h : b = i
    · subst h
      have hb : b < w.heap.size := by simpa using h2
      obtain ⟨o, ho⟩ : ∃ o, w.heap[b] = o := ⟨_, rfl⟩
      simp only [Array.getElem_modify, if_true, ho]
      cases o <;> rfl
    · simp [Array.getElem_modify, h]
/-- What is left only reads its frame, but for one row that is stored (operation i) into block b. -/
def rowJ (w W : World) (_ : Nat) (x : World) : Prop := x = w ∨ x = W
def rowLe (W : World) (x y : World) : Prop := x = W → y = W
def rowφ (i : Nat) (W : World) (k : Nat) : Option Spec := if k = i then some (fun _ _ x => x = W) else none
theorem rowφ_st {i : Nat} {W : World} : ∀ j sp x v w w', rowφ i W j = some sp → rowLe W w w' → sp x v w → sp x v w' := by
  intro j sp x v w w' hj hL h
  unfold rowφ at hj
  split at hj
  · cases hj; exact hL h
  · cases hj
theorem rowJ_mono {w W : World} (m : Nat) (x : World) (h : rowJ w W (m + 1) x) : rowJ w W m x := h
theorem lexRow_store {i : Nat} {o : Oper} {r : List (Nat × Oper)} {fin : Act → Facts → Prop} {F : Facts} {a : Act} {x y : Operand} {b : Nat} {T : TypeId} {E : TypeId} {cur cs : Array Value} {w : World} (hg : o.guard = none)
    (ho : o.op = .store T x y) (hx : a.eval x = .pointer (some ⟨b, 0, none⟩)) (hy : a.eval y = .agg cs) (hd : o.dst = none) (hb : w.heap[b]? = some (.cells cur E (0, 0))) (hs : cur.size = cs.size) (hi : (P.info? T).map (·.size) = some cs.size) (h1 : cs.toList.all (·.oneCell') = true)
    (h2 : ∀ y v, lexR P ops (rowJ w (w.setRow b cs)) (rowLe (w.setRow b cs)) (rowφ i (w.setRow b cs)) B r fin (upd F i (y, v)) a) : lexR P ops (rowJ w (w.setRow b cs)) (rowLe (w.setRow b cs)) (rowφ i (w.setRow b cs)) B ((i, o) :: r) fin F a := by
  refine lex_eff (sp := fun _ _ x => x = w.setRow b cs) hg (by simp [rowφ]) (fun m X hJ hf => ?_) (fun v hP => ?_)
  · rcases hJ with rfl | rfl
    · unfold gives execOp
      simp only [ho, Sem.run_bind, Sem.run_pure, Result.andThen_ok, hx, hy, run_store_row _ b T E cur cs hb hs hi h1]
      exact ⟨Or.inr rfl, fun _ => rfl, trivial⟩
    · unfold gives execOp
      simp only [ho, Sem.run_bind, Sem.run_pure, Result.andThen_ok, hx, hy, run_store_row _ b T E cs cs (setRow_heap _ _ _ _ _ _ hb) rfl hi h1]
      exact ⟨Or.inr (setRow_twice _ _ _), fun _ => setRow_twice _ _ _, setRow_twice _ _ _⟩
  · have e : a.put o.dst v = a := by rw [hd]; rfl
    rw [e]
    exact h2 _ v
end
end Go.Proofs.YtmjddgdcokbmeaaDoor
