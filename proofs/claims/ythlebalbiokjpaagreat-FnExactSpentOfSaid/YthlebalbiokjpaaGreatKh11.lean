/- The walk by reckoning is right: a region that draws its order ends as the reckoning says. | The walk by reckoning is right: each operation of a region that draws its order, whenever it comes. -/
import Derived.Test.YthlebalbiokjpaaGreatKh10
namespace Go.Proofs.YthlebalbiokjpaaGreat
open Go.RowKit
set_option linter.unusedVariables false
set_option linter.unusedSimpArgs false
theorem Inv.remap {E : Env} {s : St} {m m' : List Loc} {a : Act} {W : World} {f : Nat → Option Nat} {g : Nat → Nat} {H' : List Bx} (h : Inv E s m a W) (r : Remap f g s.H m H' m') (hb : ∀ (q : Nat) (L : Loc), E.m0[q]? = some L → m[q]? = some L → m'[q]? = some L) (ts' : List Da) (hl : ts'.length = s.ts.length) (ht : ∀ t, Sees (Uof E.U0 H' m') W m' (a.tmps.getD t undef) (ts'.getD t .any)) : Inv E ⟨ts', H'⟩ m' a W := by
  refine ⟨h.hi.remap r, h.le, fun k hk => h.mt k (r.mut k hk), fun b x L h1 h2 h3 k hk => ?_, fun q L hq => hb q L hq (h.base q L hq), ht, h.sz.trans hl.symm, h.df⟩
  obtain ⟨y, fr, g1, g2, g3, g4, g5⟩ := r.at_ b x h1 h2
  exact h.new (g b) y L g1 g2 (by rw [← g3]; exact h3) k hk
theorem range_map_getD {α : Type} (f : Nat → α) (n t : Nat) (z : α) : ((List.range n).map f).getD t z = if t < n then f t else z := by
  rw [List.getD_eq_getElem?_getD, List.getElem?_map]
  by_cases h : t < n
  · rw [if_pos h, List.getElem?_eq_getElem (by simpa using h)]; simp
  · rw [if_neg h, List.getElem?_eq_none (by simpa using h)]; rfl
theorem range_map_get {α : Type} {f : Nat → α} {n p : Nat} {x : α} (h : ((List.range n).map f)[p]? = some x) : p < n ∧ x = f p := by
  rw [List.getElem?_map, Option.map_eq_some_iff] at h
  obtain ⟨q, hq, rfl⟩ := h
  obtain ⟨h1, h2⟩ := List.getElem?_eq_some_iff.1 hq
  simp at h1 h2
  subst h2
  exact ⟨h1, rfl⟩
section
variable {P : Program} {Γ : Ctx} {l : List Oper} {B : List Nat} {s0 : St} {E : Env}
theorem nwIds_mem {n : Nat} {e : Eff} {c : Nat} : c ∈ nwIds n e ↔ n ≤ c ∧ c < n + e.nw.length := by
  unfold nwIds
  rw [List.mem_map]
  constructor
  · rintro ⟨j, hj, rfl⟩
    have := List.mem_range.1 hj
    omega
  · rintro ⟨h1, h2⟩
    exact ⟨c - n, List.mem_range.2 (by omega), by omega⟩
/-- What is laid down of an operation that is wanted. -/
structure Foot (P : Program) (Γ : Ctx) (l : List Oper) (s0 : St) (i : Nat) (o : Oper) (s1 : St) (tc : List Nat) (d : Da) (e : Eff) : Prop where
  H : s1.H = (stA P Γ l s0 i).H
  nx : (stA P Γ l s0 (i + 1)).H = e.app s1.H
  wr : (ftA P Γ l s0 i).wr = e.wr.map (·.1) ++ nwIds s1.H.length e
  tch : ∀ c, c ∈ (ftA P Γ l s0 i).tch ↔ c ∈ tc ∨ c ∈ d.ids ∨ c ∈ (ftA P Γ l s0 i).wr ∨ c ∈ e.wr.flatMap (·.2.ids) ∨ c ∈ e.nw.flatMap Bx.ids
  tcl : ∀ b ∈ tc, b < s1.H.length ∧ ∀ c ∈ (s1.H.getD b Bx.gone).ids, c ∈ tc
  oi : ∀ c ∈ opIds (evO s1.ts) o, c ∈ tc
  we : ∀ p ∈ e.wr, p.1 ∈ tc
  lt : ∀ c ∈ (ftA P Γ l s0 i).tch, c < s1.H.length + e.nw.length
theorem foot_of (h : DrawOk P Γ l B s0) {i : Nat} {o : Oper} (ho : l[i]? = some o) {s1 : St} (hg : (wantT (stA P Γ l s0 i) l.toArray o).get = (true, s1)) :
    Foot P Γ l s0 i o s1 (touchO s1.H (evO s1.ts) o) (opT P Γ (evO s1.ts) (maskI (touchO s1.H (evO s1.ts) o) 0 s1.H) o).get.1 (opT P Γ (evO s1.ts) (maskI (touchO s1.H (evO s1.ts) o) 0 s1.H) o).get.2 ∧ (rcD P Γ l.toArray (stA P Γ l s0 i) o).d = (opT P Γ (evO s1.ts) (maskI (touchO s1.H (evO s1.ts) o) 0 s1.H) o).get.1 ∧ (opT P Γ (evO s1.ts) (maskI (touchO s1.H (evO s1.ts) o) 0 s1.H) o).safe := by
  have hat := h.at_ ho
  have hrc : rcD P Γ l.toArray (stA P Γ l s0 i) o = ⟨s1, true, (opT P Γ (evO s1.ts) (maskI (touchO s1.H (evO s1.ts) o) 0 s1.H) o).get.1, (opT P Γ (evO s1.ts) (maskI (touchO s1.H (evO s1.ts) o) 0 s1.H) o).get.2, ftOf s1.H (opIds (evO s1.ts) o) (touchO s1.H (evO s1.ts) o) (opT P Γ (evO s1.ts) (maskI (touchO s1.H (evO s1.ts) o) 0 s1.H) o).get.1 (opT P Γ (evO s1.ts) (maskI (touchO s1.H (evO s1.ts) o) 0 s1.H) o).get.2⟩ := by unfold rcD; rw [hg]
  have hsf := hat.sf
  obtain ⟨hH1, hH2⟩ := hat.H
  have hft := hat.ft
  rw [hrc] at hsf hH1 hH2 hft ⊢
  simp only at hsf hH1 hH2 hft ⊢
  have hok := (h.ft (List.getElem?_eq_some_iff.1 ho).1).1
  generalize (opT P Γ (evO s1.ts) (maskI (touchO s1.H (evO s1.ts) o) 0 s1.H) o) = t at *
  generalize touchO s1.H (evO s1.ts) o = tc at *
  rw [hft] at hok
  simp only [ftOf, Bool.and_eq_true, List.all_eq_true, decide_eq_true_eq] at hok
  obtain ⟨⟨⟨k1, k2⟩, k3⟩, k4⟩ := hok
  refine ⟨⟨hH1, by rw [hH2, hH1], by rw [hft]; rfl, fun c => ?_, fun b hb => ⟨(k1 b hb).1, fun c hc => ?_⟩, fun c hc => ?_, fun p hp => ?_, fun c hc => ?_⟩, (by first | rfl | trivial), (by first | exact hsf rfl | exact hsf trivial)⟩
  · rw [hft]
    simp only [ftOf, List.mem_append]
  · have := (k1 b hb).2 c hc
    simpa using this
  · simpa using k2 c hc
  · simpa using k3 p hp
  · rw [hft] at hc
    exact k4 c hc
/-- What was turned by an operation names only what it came to. -/
theorem Foot.ids {i : Nat} {o : Oper} {s1 : St} {tc : List Nat} {d : Da} {e : Eff} (f : Foot P Γ l s0 i o s1 tc d e) {b : Nat} (hb : b ∈ (ftA P Γ l s0 i).wr) : ∀ c ∈ ((stA P Γ l s0 (i + 1)).H.getD b Bx.gone).ids, c ∈ (ftA P Γ l s0 i).tch := by
  intro c hc
  rw [f.nx] at hc
  rw [f.wr, List.mem_append] at hb
  rw [f.tch]
  unfold Eff.app at hc
  rw [List.getD_eq_getElem?_getD] at hc
  by_cases hlt : b < s1.H.length
  · rw [List.getElem?_append_left (by rw [setAll_len]; exact hlt)] at hc
    rcases hb with hb | hb
    · obtain ⟨x, h1, h2⟩ := setAll_mem e.wr s1.H b hb hlt
      rw [h2] at hc
      exact .inr (.inr (.inr (.inl (List.mem_flatMap.2 ⟨_, h1, hc⟩))))
    · rw [nwIds_mem] at hb; omega
  · rw [List.getElem?_append_right (by rw [setAll_len]; omega), setAll_len] at hc
    cases hx : e.nw[b - s1.H.length]? with
    | none => rw [hx] at hc; simp [Bx.gone, Bx.ids] at hc
    | some x =>
      rw [hx] at hc
      exact .inr (.inr (.inr (.inr (List.mem_flatMap.2 ⟨x, List.mem_of_getElem? hx, hc⟩))))
/-- What stands in the way of an operation. -/
structure Around (P : Program) (Γ : Ctx) (l : List Oper) (B : List Nat) (s0 : St) (S : Nat → Bool) (i : Nat) : Prop where
  later : ∀ k, S k = true → i < k → disj (ftA P Γ l s0 i).wr (ftA P Γ l s0 k).tch = true ∧ disj (ftA P Γ l s0 k).wr (ftA P Γ l s0 i).tch = true
  ahead : ∀ k, k < i → S k = false → disj (ftA P Γ l s0 k).wr (ftA P Γ l s0 i).tch = true ∧ disj (ftA P Γ l s0 i).wr (ftA P Γ l s0 k).tch = true
theorem around (h : DrawOk P Γ l B s0) {S : Nat → Bool} {i : Nat} (hi : i < l.length) (mc : MayCome B l.length S i) : Around P Γ l B s0 S i := by
  refine ⟨fun k hk hik => ?_, fun k hki hk => ?_⟩
  · obtain ⟨h1, h2⟩ := mc.desc k hk
    exact (h.ft h1).2 i hik h2
  · refine (h.ft hi).2 k hki ?_
    cases hc : ancB B i k with
    | false => rfl
    | true => rw [mc.anc k hc] at hk; cases hk
theorem sub_tch (h : DrawOk P Γ l B s0) {k : Nat} (hk : k < l.length) : (∀ c ∈ (ftA P Γ l s0 k).wr, c ∈ (ftA P Γ l s0 k).tch) ∧ (∀ c ∈ (rcA P Γ l s0 k).d.ids, c ∈ (ftA P Γ l s0 k).tch) ∧ (∀ c ∈ (ftA P Γ l s0 k).tch, c < (stA P Γ l s0 (k + 1)).H.length) ∧ ∀ b ∈ (ftA P Γ l s0 k).wr, ∀ c ∈ ((stA P Γ l s0 (k + 1)).H.getD b Bx.gone).ids, c ∈ (ftA P Γ l s0 k).tch := by
  have ho : l[k]? = some l[k] := List.getElem?_eq_getElem hk
  have hat := h.at_ ho
  have hrc : rcA P Γ l s0 k = rcD P Γ l.toArray (stA P Γ l s0 k) l[k] := by
    show rcD _ _ _ _ (l.getD k default) = _
    rw [hat.eq_]
  rw [hrc]
  generalize hg : (wantT (stA P Γ l s0 k) l.toArray l[k]).get = g
  obtain ⟨w, s1⟩ := g
  cases w with
  | true =>
    obtain ⟨f, hd, -⟩ := foot_of h ho hg
    refine ⟨fun c hc => (f.tch c).2 (.inr (.inr (.inl hc))), fun c hc => (f.tch c).2 (.inr (.inl (by rw [← hd]; exact hc))), fun c hc => ?_, fun b hb => f.ids hb⟩
    rw [f.nx, Eff.app_len]
    exact f.lt c hc
  | false =>
    have hf := hat.ft
    have hr : rcD P Γ l.toArray (stA P Γ l s0 k) l[k] = ⟨s1, false, .v (.tuple #[]), Eff.no, ⟨[], [], true, s1.H.length⟩⟩ := by unfold rcD; rw [hg]
    rw [hr] at hf ⊢
    rw [hf]
    exact ⟨fun c hc => (by cases hc), fun c hc => (by simp [Da.ids] at hc), fun c hc => (by cases hc), fun b hb => (by cases hb)⟩
/-- A temporary that operation i reads, a variable that it comes to: as in the text. -/
theorem tmF_text (h : DrawOk P Γ l B s0) {S : Nat → Bool} {i : Nat} {o : Oper} (ho : l[i]? = some o) (mc : MayCome B l.length S i) {t : Nat} (ht : t ∈ o.looksAt l.toArray) : tmF P Γ l s0 S t = match lastP (dstIs l t) i with
    | some j => (rcA P Γ l s0 j).d
    | none => s0.ts.getD t .any := by
  have hi := (List.getElem?_eq_some_iff.1 ho).1
  unfold tmF
  have e := lastP_cut (p := fun j => S j && dstIs l t j) (q := dstIs l t) (n := l.length) (i := i) (by omega) (fun k hk hp => by
    simp only [Bool.and_eq_true] at hp
    refine ⟨?_, hp.2⟩
    rcases Nat.lt_trichotomy k i with hlt | he | hlt
    · exact hlt
    · subst he; rw [mc.no] at hp; cases hp.1
    · exfalso
      obtain ⟨-, h2⟩ := mc.desc k hp.1
      have hap := h.ok.apart k l[k] (List.getElem?_eq_getElem hk) i o hlt ho h2
      have hd : l[k].dst = some t := by
        have := hp.2
        unfold dstIs at this
        rw [List.getD_eq_getElem?_getD, List.getElem?_eq_getElem hk] at this
        simpa using this
      exact (Oper.apart_spec hap).2.2 t hd ht) (fun j hj => by
    have hw := (List.all_eq_true.1 h.waits) (o, i) (List.mem_zipIdx_iff_getElem?.2 ho)
    have hw2 := (List.all_eq_true.1 hw) t ht
    simp only [hj] at hw2
    rw [mc.anc j hw2, (lastP_some hj).2.1]
    rfl)
  rw [e]
  cases lastP (dstIs l t) i <;> rfl
theorem bxF_text (h : DrawOk P Γ l B s0) {S : Nat → Bool} {i : Nat} (hi : i < l.length) (mc : MayCome B l.length S i) {b : Nat} (hb : b ∈ (ftA P Γ l s0 i).tch) : bxF P Γ l s0 S b = (stA P Γ l s0 i).H.getD b Bx.gone := by
  have ar := around h hi mc
  rw [H_last h i (by omega) b]
  unfold bxF
  have e := lastP_cut (p := fun j => S j && (ftA P Γ l s0 j).wr.contains b) (q := fun j => (ftA P Γ l s0 j).wr.contains b) (n := l.length) (i := i) (by omega) (fun k hk hp => by
    simp only [Bool.and_eq_true] at hp
    refine ⟨?_, hp.2⟩
    rcases Nat.lt_trichotomy k i with hlt | he | hlt
    · exact hlt
    · subst he; rw [mc.no] at hp; cases hp.1
    · exact absurd hb (disj_spec (ar.later k hp.1 hlt).2 (by simpa using hp.2))) (fun j hj => by
    obtain ⟨g1, g2, -⟩ := lastP_some hj
    simp only [g2, Bool.and_true]
    cases hS : S j with
    | true => rfl
    | false => exact absurd hb (disj_spec (ar.ahead j g1 hS).1 (by simpa using g2)))
  rw [e]
/-- .. behind operation i. -/
theorem bxF_upd (h : DrawOk P Γ l B s0) {S : Nat → Bool} {i : Nat} (hi : i < l.length) (mc : MayCome B l.length S i) (b : Nat) : bxF P Γ l s0 (updS S i) b = if (ftA P Γ l s0 i).wr.contains b = true then (stA P Γ l s0 (i + 1)).H.getD b Bx.gone else bxF P Γ l s0 S b := by
  have ar := around h hi mc
  unfold bxF
  by_cases hc : (ftA P Γ l s0 i).wr.contains b = true
  · rw [if_pos hc]
    have e : lastP (fun j => updS S i j && (ftA P Γ l s0 j).wr.contains b) l.length = some i := lastP_of hi (by simp only [updS, if_true, Bool.true_and]; exact hc) (fun k h1 h2 => by
      have hne : k ≠ i := by omega
      simp only [updS, if_neg hne]
      cases hS : S k with
      | false => rfl
      | true =>
        rw [Bool.true_and]
        cases hk : (ftA P Γ l s0 k).wr.contains b with
        | false => rfl
        | true => exact absurd ((sub_tch h hi).1 b (by simpa using hc)) (disj_spec (ar.later k hS h1).2 (by simpa using hk)))
    rw [e]
  · rw [if_neg hc]
    have hc' : (ftA P Γ l s0 i).wr.contains b = false := by simpa using hc
    have e := lastP_congr (p := fun j => updS S i j && (ftA P Γ l s0 j).wr.contains b) (q := fun j => S j && (ftA P Γ l s0 j).wr.contains b) (n := l.length) fun k hk => by
      unfold updS
      by_cases e : k = i
      · subst e; rw [if_pos rfl, hc', mc.no]; rfl
      · rw [if_neg e]
    rw [e]
theorem tmF_upd (h : DrawOk P Γ l B s0) {S : Nat → Bool} {i : Nat} {o : Oper} (ho : l[i]? = some o) (mc : MayCome B l.length S i) (t : Nat) : tmF P Γ l s0 (updS S i) t = if o.dst = some t then (rcD P Γ l.toArray (stA P Γ l s0 i) o).d else tmF P Γ l s0 S t := by
  have hi := (List.getElem?_eq_some_iff.1 ho).1
  have hat := h.at_ ho
  have hdi : dstIs l t i = (o.dst == some t) := by unfold dstIs; rw [hat.eq_]
  have hrc : rcA P Γ l s0 i = rcD P Γ l.toArray (stA P Γ l s0 i) o := by
    show rcD _ _ _ _ (l.getD i default) = _
    rw [hat.eq_]
  unfold tmF
  by_cases hc : o.dst = some t
  · rw [if_pos hc]
    have e : lastP (fun j => updS S i j && dstIs l t j) l.length = some i := lastP_of hi (by simp only [updS, if_true, Bool.true_and, hdi, hc]; simp) (fun k h1 h2 => by
      have hne : k ≠ i := by omega
      simp only [updS, if_neg hne]
      cases hS : S k with
      | false => rfl
      | true =>
        rw [Bool.true_and]
        cases hk : dstIs l t k with
        | false => rfl
        | true =>
          exfalso
          obtain ⟨-, h3⟩ := mc.desc k hS
          have hap := h.ok.apart k l[k] (List.getElem?_eq_getElem h2) i o h1 ho h3
          have hd : l[k].dst = some t := by
            unfold dstIs at hk
            rw [List.getD_eq_getElem?_getD, List.getElem?_eq_getElem h2] at hk
            simpa using hk
          exact (Oper.apart_spec hap).2.1 t hc hd)
    rw [e]
    simp only [hrc]
  · rw [if_neg hc]
    have e := lastP_congr (p := fun j => updS S i j && dstIs l t j) (q := fun j => S j && dstIs l t j) (n := l.length) fun k hk => by
      unfold updS
      by_cases e : k = i
      · subst e
        rw [if_pos rfl, mc.no, hdi]
        have : (o.dst == some t) = false := by simpa using hc
        rw [this]; rfl
      · rw [if_neg e]
    rw [e]
end
end Go.Proofs.YthlebalbiokjpaaGreat
namespace Go.Proofs.YthlebalbiokjpaaGreat
open Go.RowKit
set_option linter.unusedVariables false
set_option linter.unusedSimpArgs false
section
variable {P : Program} {Γ : Ctx} {l : List Oper} {B : List Nat} {s0 : St} {E : Env}
theorem stF_ts (h : DrawOk P Γ l B s0) {S : Nat → Bool} {i : Nat} {o : Oper} (ho : l[i]? = some o) (mc : MayCome B l.length S i) : (stF P Γ l s0 (updS S i)).ts = (match o.dst with
    | some t => (stF P Γ l s0 S).ts.set t (rcD P Γ l.toArray (stA P Γ l s0 i) o).d
    | none => (stF P Γ l s0 S).ts) := by
  have key : ∀ t, tmF P Γ l s0 (updS S i) t = if o.dst = some t then (rcD P Γ l.toArray (stA P Γ l s0 i) o).d else tmF P Γ l s0 S t := tmF_upd h ho mc
  show (List.range s0.ts.length).map (tmF P Γ l s0 (updS S i)) = _
  cases hd : o.dst with
  | none =>
    simp only
    refine List.map_congr_left fun t _ => ?_
    rw [key, hd]; simp
  | some td =>
    simp only
    refine List.ext_getElem? fun t => ?_
    rw [List.getElem?_set]
    by_cases ht : t < s0.ts.length
    · have e1 : ((List.range s0.ts.length).map (tmF P Γ l s0 (updS S i)))[t]? = some (tmF P Γ l s0 (updS S i) t) := by
        rw [List.getElem?_map, List.getElem?_eq_getElem (by simpa using ht)]; simp
      have e2 : (stF P Γ l s0 S).ts[t]? = some (tmF P Γ l s0 S t) := by
        show ((List.range s0.ts.length).map (tmF P Γ l s0 S))[t]? = _
        rw [List.getElem?_map, List.getElem?_eq_getElem (by simpa using ht)]; simp
      rw [e1, e2, key, hd]
      by_cases e : td = t
      · subst e
        have : td < (stF P Γ l s0 S).ts.length := by show td < ((List.range s0.ts.length).map _).length; simpa using ht
        rw [if_pos rfl, if_pos rfl, if_pos this]
      · rw [if_neg e, if_neg (by simpa using e)]
    · rw [List.getElem?_eq_none (by simpa using ht)]
      have hl : (stF P Γ l s0 S).ts.length ≤ t := by show ((List.range s0.ts.length).map _).length ≤ t; simp; omega
      split
      · rw [if_neg (by omega)]
      · rw [List.getElem?_eq_none hl]
theorem stF_tsLen (S : Nat → Bool) : (stF P Γ l s0 S).ts.length = s0.ts.length := by show ((List.range s0.ts.length).map _).length = _; simp
theorem stF_HLen (S : Nat → Bool) : (stF P Γ l s0 S).H.length = (stA P Γ l s0 l.length).H.length := by show ((List.range _).map _).length = _; simp
theorem stF_H {S : Nat → Bool} {b : Nat} {x : Bx} (h : (stF P Γ l s0 S).H[b]? = some x) : b < (stA P Γ l s0 l.length).H.length ∧ x = bxF P Γ l s0 S b := range_map_get h
theorem stF_tm {S : Nat → Bool} (t : Nat) : (stF P Γ l s0 S).ts.getD t .any = if t < s0.ts.length then tmF P Γ l s0 S t else .any := range_map_getD _ _ _ _
/-- What is named by what is done is not new. -/
theorem old_ids (h : DrawOk P Γ l B s0) {S : Nat → Bool} {i : Nat} (hi : i < l.length) (mc : MayCome B l.length S i) {c : Nat} (hc : c ∈ (ftA P Γ l s0 i).wr) (hn : (stA P Γ l s0 i).H.length ≤ c) : (∀ t, c ∉ (tmF P Γ l s0 S t).ids) ∧ ∀ b, c ∉ (bxF P Γ l s0 S b).ids := by
  have ar := around h hi mc
  have h0 : s0.H.length ≤ c := by
    have := N_mono h i (by omega) 0 (Nat.zero_le _)
    have e : stA P Γ l s0 0 = s0 := by cases l <;> rfl
    rw [e] at this
    omega
  have done : ∀ k, S k = true → c ∉ (ftA P Γ l s0 k).tch := fun k hk hck => by
    obtain ⟨hkl, -⟩ := mc.desc k hk
    rcases Nat.lt_trichotomy k i with hlt | he | hlt
    · have h1 := (sub_tch h hkl).2.2.1 c hck
      have h2 := N_mono h i (by omega) (k + 1) (by omega)
      omega
    · subst he; rw [mc.no] at hk; cases hk
    · exact disj_spec (ar.later k hk hlt).1 hc hck
  refine ⟨fun t hct => ?_, fun b hcb => ?_⟩
  · unfold tmF at hct
    split at hct
    · rename_i j hj
      obtain ⟨g1, g2, -⟩ := lastP_some hj
      simp only [Bool.and_eq_true] at g2
      exact done j g2.1 ((sub_tch h g1).2.1 c hct)
    · have := h.idsT t c hct
      omega
  · unfold bxF at hcb
    split at hcb
    · rename_i j hj
      obtain ⟨g1, g2, -⟩ := lastP_some hj
      simp only [Bool.and_eq_true] at g2
      exact done j g2.1 ((sub_tch h g1).2.2.2 b (by simpa using g2.2) c hcb)
    · have := h.ids0 b c hcb
      omega
theorem draw_step (hΓ : COk P Γ) (h : DrawOk P Γ l B s0) {S : Nat → Bool} {a : Act} {w : World} {i : Nat} {o : Oper} (ho : l[i]? = some o) (mc : MayCome B l.length S i) (hm0 : ∀ (q : Nat) (L : Loc), E.m0[q]? = some L → q < s0.H.length) {m : List Loc} (hI : Inv E (stF P Γ l s0 S) m a w) {Q : Exit → Act → World → Prop} :
    if Region.wanted o (yielded l.toArray a.tmps) = true then o.wp P a w (fun a' w' => ∃ m', Inv E (stF P Γ l s0 (updS S i)) m' a' w') Q else ∃ m', Inv E (stF P Γ l s0 (updS S i)) m' (a.put o.dst undef) w := by
  have hi := (List.getElem?_eq_some_iff.1 ho).1
  have hat := h.at_ ho
  obtain ⟨hTl, hTs⟩ := T_last h i (by omega)
  -- what it reads
  have hrd : ∀ t ∈ o.looksAt l.toArray, Sees (Uof E.U0 (stF P Γ l s0 S).H m) w m (a.tmps.getD t undef) ((stA P Γ l s0 i).ts.getD t .any) := fun t ht => by
    have h1 := hI.tm t
    rw [stF_tm] at h1
    split at h1
    · refine hTs t _ _ _ _ ?_
      rw [tmF_text h ho mc ht] at h1
      cases hlp : lastP (dstIs l t) i with
      | none => rw [hlp] at h1; exact h1
      | some j => rw [hlp] at h1; exact h1
    · rw [List.getD_eq_getElem?_getD (l := (stA P Γ l s0 i).ts), List.getElem?_eq_none (by omega)]
      exact .any _ _
  have hwt := wantT_sees (ops := l.toArray) (o := o) (s := stA P Γ l s0 i) (a := a) (by rw [hI.sz, stF_tsLen, hTl]) hrd hat.want
  have hwc := wantT_cases hat.want
  generalize hg : (wantT (stA P Γ l s0 i) l.toArray o).get = g at *
  obtain ⟨wb, s1⟩ := g
  simp only at hwt hwc
  rw [hwt]
  have hts := stF_ts h ho mc
  cases wb with
  | false =>
    have hr : rcD P Γ l.toArray (stA P Γ l s0 i) o = ⟨s1, false, .v (.tuple #[]), Eff.no, ⟨[], [], true, s1.H.length⟩⟩ := by unfold rcD; rw [hg]
    simp only [Bool.false_eq_true, if_false]
    have hwr : (ftA P Γ l s0 i).wr = [] := by rw [hat.ft, hr]
    have hH : (stF P Γ l s0 (updS S i)).H = (stF P Γ l s0 S).H := by
      show (List.range _).map _ = (List.range _).map _
      refine List.map_congr_left fun b _ => ?_
      rw [bxF_upd h hi mc, hwr]; rfl
    refine ⟨m, ?_⟩
    have := hI.put o.dst (v := undef) (d := .v (.tuple #[])) (.v _ _)
    have e : (stF P Γ l s0 S).put o.dst (.v (.tuple #[])) = stF P Γ l s0 (updS S i) := by
      have e1 : ∀ (x y : St), x.ts = y.ts → x.H = y.H → x = y := fun x y h1 h2 => by cases x; cases y; simp at h1 h2; simp [h1, h2]
      refine e1 _ _ ?_ ?_
      · rw [hts, hr]
        cases o.dst <;> rfl
      · rw [hH]
        cases o.dst <;> rfl
    rw [e] at this
    exact this
  | true =>
    simp only [if_true]
    obtain ⟨f, hd, hsf⟩ := foot_of h ho hg
    rw [hd] at hts
    generalize hop : (opT P Γ (evO s1.ts) (maskI (touchO s1.H (evO s1.ts) o) 0 s1.H) o) = T at *
    generalize htc : touchO s1.H (evO s1.ts) o = tc at *
    -- our variables, hidden but for these
    have hn : s1.H.length ≤ (stA P Γ l s0 l.length).H.length := by rw [f.H]; exact N_mono h l.length (Nat.le_refl _) i (by omega)
    have hml := hI.hi.ml
    rw [stF_HLen] at hml
    have htch : ∀ b ∈ tc, b ∈ (ftA P Γ l s0 i).tch := fun b hb => (f.tch b).2 (.inl hb)
    have hK1 : ∀ b ∈ tc, bxF P Γ l s0 S b = s1.H.getD b Bx.gone := fun b hb => by rw [f.H]; exact bxF_text h hi mc (htch b hb)
    let fr : Nat → Option Nat := fun b => if b < s1.H.length then some b else none
    have rm : Remap fr id (maskI tc 0 (stF P Γ l s0 S).H) m (maskI tc 0 s1.H) (m.take s1.H.length) := by
      refine ⟨by rw [maskI_len, List.length_take]; omega, fun p x' hp hlv => ?_, fun p p' x x' _ _ _ _ e => e, fun b b' L h1 h2 => ?_⟩
      · obtain ⟨c1, c2⟩ := mask_at hp hlv
        have hpl := (List.getElem?_eq_some_iff.1 c2).1
        have hpt : p ∈ tc := by simpa using c1
        have hx : bxF P Γ l s0 S p = x' := by rw [hK1 p hpt, List.getD_eq_getElem?_getD, c2]; rfl
        refine ⟨x', x'.fr, ?_, hlv, ?_, ?_, id⟩
        · show (maskI tc 0 (stF P Γ l s0 S).H)[p]? = some x'
          rw [maskI_get]
          have : (stF P Γ l s0 S).H[p]? = some (bxF P Γ l s0 S p) := by
            show ((List.range _).map _)[p]? = _
            rw [List.getElem?_map, List.getElem?_eq_getElem (by simp; omega)]; simp
          rw [this, hx, Option.map_some, Nat.zero_add, if_pos c1]
        · show (m.take s1.H.length)[p]? = m[p]?
          rw [List.getElem?_take, if_pos hpl]
        · rw [Bx.ren_ids x' fun c hc => ?_]
          have := f.tcl p hpt
          rw [List.getD_eq_getElem?_getD, c2] at this
          have hct := this.2 c hc
          simp only [fr, (f.tcl c hct).1, if_true]
      · simp only [fr] at h1
        split at h1 <;> cases h1
        rename_i hlt
        rw [List.getElem?_take, if_pos hlt]; exact h2
    have him := (hI.hi.mask (q := tc)).remap rm
    have hU1 : ∀ k, Uof (Hid E.U0 tc (stF P Γ l s0 S).H m) (maskI tc 0 (stF P Γ l s0 S).H) m k ↔ Uof E.U0 (stF P Γ l s0 S).H m k := hid_uof
    have hU2 : ∀ k, Uof (Hid E.U0 tc (stF P Γ l s0 S).H m) (maskI tc 0 s1.H) (m.take s1.H.length) k ↔ Uof E.U0 (stF P Γ l s0 S).H m k := fun k => by
      constructor
      · intro hk; exact (hU1 k).1 (rm.uof k hk)
      · intro hk
        rcases (hU1 k).2 hk with g | ⟨b, x, L, g1, g2, g3, g4, g5⟩
        · exact .inl g
        · obtain ⟨c1, c2⟩ := mask_at g1 g2
          have hbt : b ∈ tc := by simpa using c1
          have hbl := (f.tcl b hbt).1
          have hx : s1.H[b]? = some x := by
            obtain ⟨-, e⟩ := stF_H c2
            rw [hK1 b hbt, List.getD_eq_getElem?_getD, List.getElem?_eq_getElem hbl] at e
            rw [List.getElem?_eq_getElem hbl, e]; rfl
          exact .inr ⟨b, x, L, by rw [maskI_get, hx, Option.map_some, Nat.zero_add, if_pos c1], g2, g3, by rw [List.getElem?_take, if_pos hbl]; exact g4, g5⟩
    have hop2 : ∀ x ∈ o.op.operands, Sees (Uof (Hid E.U0 tc (stF P Γ l s0 S).H m) (maskI tc 0 s1.H) (m.take s1.H.length)) w (m.take s1.H.length) (a.eval x) (evO s1.ts x) := fun x hx => by
      cases x with
      | tmp t =>
        have hlk : t ∈ o.looksAt l.toArray := by
          unfold Oper.looksAt
          exact List.mem_append_left _ (List.mem_filterMap.2 ⟨.tmp t, by simpa using hx, rfl⟩)
        have h1 := hwc.2.2 t _ _ _ _ (hrd t hlk)
        rw [← uof_eq hU1] at h1
        have h2 := rm.sees h1
        rw [Da.ren_ids _ fun c hc => ?_] at h2
        · exact h2
        · have hct := f.oi c (by unfold opIds; exact List.mem_flatMap.2 ⟨.tmp t, by simpa using hx, hc⟩)
          simp only [fr, (f.tcl c hct).1, if_true]
      | const v => exact sees_ofC v
      | global g => exact .any _ _
      | func f => exact .clo _ _ _ _ _ _ rfl (fun i v d hv => by simp at hv) rfl (fun i v d hv => by simp at hv)
    have hgv := opT_gives (a := a) hΓ him (evO s1.ts) o hop2 (by rw [hop]; exact hsf)
    rw [hop] at hgv
    refine gives_wp hgv fun v w' ⟨m2, hT, hsv⟩ => ?_
    have hm2 : m2.length = T.get.2.nw.length := by
      have := hT.hi.ml
      rw [Eff.app_len, maskI_len, List.length_append, List.length_take] at this
      omega
    have hN1 : s1.H.length + T.get.2.nw.length ≤ (stA P Γ l s0 l.length).H.length := by
      have := N_mono h l.length (Nat.le_refl _) (i + 1) (by omega)
      rw [f.nx, Eff.app_len] at this
      exact this
    let m' := m.take s1.H.length ++ m2 ++ m.drop (s1.H.length + T.get.2.nw.length)
    have hm' : m'.length = (stA P Γ l s0 l.length).H.length := by
      simp only [m', List.length_append, List.length_take, List.length_drop]; omega
    have hlo : (m.take s1.H.length ++ m2).length = s1.H.length + T.get.2.nw.length := by
      rw [List.length_append, List.length_take]; omega
    have hmm : ∀ (c : Nat) (L : Loc), (m.take s1.H.length ++ m2)[c]? = some L → m'[c]? = some L := fun c L hc => by
      simp only [m']
      rw [List.getElem?_append_left (List.getElem?_eq_some_iff.1 hc).1]; exact hc
    have hmo : ∀ c, ¬ (s1.H.length ≤ c ∧ c < s1.H.length + T.get.2.nw.length) → m'[c]? = m[c]? := fun c hc => by
      simp only [m']
      by_cases h1 : c < s1.H.length
      · rw [List.getElem?_append_left (by omega), List.getElem?_append_left (by rw [List.length_take]; omega), List.getElem?_take, if_pos h1]
      · rw [List.getElem?_append_right (by omega), hlo, List.getElem?_drop]
        congr 1
        omega
    have hold := fun c hc hn => old_ids h hi mc (c := c) hc hn
    have hnew : ∀ c, s1.H.length ≤ c → c < s1.H.length + T.get.2.nw.length → c ∈ (ftA P Γ l s0 i).wr := fun c h1 h2 => by
      rw [f.wr]
      exact List.mem_append_right _ (nwIds_mem.2 ⟨h1, h2⟩)
    have hkeep : ∀ (c : Nat) (K : Loc), (∀ t, c ∉ (tmF P Γ l s0 S t).ids) ∨ True → m[c]? = some K → ¬ (s1.H.length ≤ c ∧ c < s1.H.length + T.get.2.nw.length) → m'[c]? = some K := fun c K _ hc hn => by rw [hmo c hn]; exact hc
    obtain ⟨u1, u2, u3, u4, u5⟩ := unmask2 (q := tc) (m' := m') (H' := (stF P Γ l s0 (updS S i)).H) hI.hi (fun b x L h1 h2 h3 => by
      obtain ⟨y, fr', g1, g2, g3, g4, g5⟩ := rm.at_ b x h1 h2
      obtain ⟨c1, c2⟩ := mask_at g1 g2
      have hbt : b ∈ tc := by simpa using c1
      obtain ⟨d1, d2⟩ := mask_at h1 h2
      have hbl := (f.tcl b hbt).1
      refine ⟨c1, ?_, g3.symm.trans h3⟩
      have hxx : y = x := by
        obtain ⟨-, e⟩ := stF_H c2
        change y = bxF P Γ l s0 S b at e
        rw [hK1 b hbt, List.getD_eq_getElem?_getD, d2] at e
        exact e
      rw [← hxx]; exact c2) hT hU2 (by rw [hm', stF_HLen]) hmm (fun b x L h1 h2 h3 => by
      obtain ⟨hbN, hx⟩ := stF_H h1
      rw [bxF_upd h hi mc] at hx
      have happ : ∀ p : Nat, p ∈ (ftA P Γ l s0 i).wr ∨ p ∈ tc → (stA P Γ l s0 (i + 1)).H.getD p Bx.gone = (T.get.2.app (maskI tc 0 s1.H)).getD p Bx.gone := fun p hp => by
        rw [f.nx]
        unfold Eff.app
        rw [List.getD_eq_getElem?_getD, List.getD_eq_getElem?_getD]
        by_cases hpl : p < s1.H.length
        · rw [List.getElem?_append_left (by rw [setAll_len]; exact hpl), List.getElem?_append_left (by rw [setAll_len, maskI_len]; exact hpl)]
          by_cases hpw : p ∈ T.get.2.wr.map (·.1)
          · have key : ∀ (w : List (Nat × Bx)) (G G' : List Bx), p ∈ w.map (·.1) → G.length = G'.length → (setAll w G)[p]? = (setAll w G')[p]? := by
              intro w
              induction w with
              | nil => intro G G' h; simp at h
              | cons y r ih =>
                intro G G' hw hl
                by_cases hr : p ∈ r.map (·.1)
                · exact ih _ _ hr (by simp [hl])
                · rw [setAll, setAll, setAll_other _ _ _ (fun z hz e => hr (List.mem_map.2 ⟨z, hz, e⟩)), setAll_other _ _ _ (fun z hz e => hr (List.mem_map.2 ⟨z, hz, e⟩))]
                  have hy : y.1 = p := by
                    simp only [List.map_cons, List.mem_cons] at hw
                    rcases hw with hw | hw
                    · exact hw.symm
                    · exact absurd hw hr
                  rw [List.getElem?_set, List.getElem?_set, if_pos hy, if_pos hy, hl]
            rw [key _ s1.H (maskI tc 0 s1.H) hpw (by rw [maskI_len])]
          · have hpt : p ∈ tc := by
              rcases hp with hp | hp
              · rw [f.wr, List.mem_append] at hp
                rcases hp with hp | hp
                · exact absurd hp hpw
                · rw [nwIds_mem] at hp; omega
              · exact hp
            rw [setAll_other _ _ _ (fun z hz e => hpw (List.mem_map.2 ⟨z, hz, e⟩)), setAll_other _ _ _ (fun z hz e => hpw (List.mem_map.2 ⟨z, hz, e⟩)), maskI_get, Nat.zero_add, List.getElem?_eq_getElem hpl, Option.map_some, if_pos (by simpa using hpt)]
        · rw [List.getElem?_append_right (by rw [setAll_len]; omega), List.getElem?_append_right (by rw [setAll_len, maskI_len]; omega), setAll_len, setAll_len, maskI_len]
      have vis : (b ∈ (ftA P Γ l s0 i).wr ∨ b ∈ tc) → x = (stA P Γ l s0 (i + 1)).H.getD b Bx.gone → (T.get.2.app (maskI tc 0 s1.H))[b]? = some x ∧ (m.take s1.H.length ++ m2)[b]? = some L := fun hv hxv => by
        rw [happ b hv, List.getD_eq_getElem?_getD] at hxv
        cases hb2 : (T.get.2.app (maskI tc 0 s1.H))[b]? with
        | none => rw [hb2] at hxv; simp only [Option.getD_none] at hxv; subst hxv; cases h2
        | some y =>
          rw [hb2] at hxv
          simp only [Option.getD_some] at hxv
          subst hxv
          refine ⟨rfl, ?_⟩
          have hbl : b < (m.take s1.H.length ++ m2).length := by
            have := (List.getElem?_eq_some_iff.1 hb2).1
            rw [Eff.app_len, maskI_len] at this
            omega
          have := hmm b _ (List.getElem?_eq_getElem hbl)
          rw [h3] at this
          rw [List.getElem?_eq_getElem hbl]
          exact this.symm
      split at hx
      · rename_i hc
        exact .inl (vis (.inl (by simpa using hc)) hx)
      · rename_i hc
        have hcw : b ∉ (ftA P Γ l s0 i).wr := by simpa using hc
        by_cases hbt : b ∈ tc
        · refine .inl (vis (.inr hbt) ?_)
          rw [hx, hK1 b hbt, hat.wr (by simpa using hcw), f.H]
        · have hnn : ¬ (s1.H.length ≤ b ∧ b < s1.H.length + T.get.2.nw.length) := fun hh => hcw (hnew b hh.1 hh.2)
          refine .inr ⟨?_, by simpa using hbt, by rw [← hmo b hnn]; exact h3, fun c hc K hK => ?_⟩
          · show ((List.range _).map _)[b]? = _
            rw [List.getElem?_map, List.getElem?_eq_getElem (by simp; exact hbN), hx]; simp
          · rw [hmo c fun hh => ?_]
            · exact hK
            · rw [hx] at hc
              exact (hold c (hnew c hh.1 hh.2) (by rw [← f.H]; exact hh.1)).2 b hc)
    -- temporaries
    have hUW : ∀ k, k < w.heap.size → Uof E.U0 (stF P Γ l s0 (updS S i)).H m' k → Uof E.U0 (stF P Γ l s0 S).H m k := fun k hk hu => hu.imp id fun hh => (u3 k hh).resolve_left (by omega)
    refine ⟨m', u1, hI.le.trans u2 (fun k hk hlt => (hI.mt k hk).resolve_left (by omega)), fun k hk => ?_, fun b x L h1 h2 h3 k hk => ?_, fun q L hq => ?_, fun t => ?_, ?_, ?_⟩
    · rcases u3 k hk with g | g
      · exact .inl (Nat.le_trans hI.le.size g)
      · exact hI.mt k g
    · rcases u4 b x L h1 h2 h3 k hk with g | ⟨b', x', L', g1, g2, g3, g4⟩
      · exact .inl (Nat.le_trans hI.le.size g)
      · exact hI.new b' x' L' g1 g2 g3 k g4
    · have hq2 := hI.base q L hq
      have hq0 : q < s0.H.length ∨ True := .inr trivial
      by_cases hh : s1.H.length ≤ q ∧ q < s1.H.length + T.get.2.nw.length
      · exfalso
        have h1 := hm0 q L hq
        have h2 := N_mono h i (by omega) 0 (Nat.zero_le _)
        have e : stA P Γ l s0 0 = s0 := by cases l <;> rfl
        rw [e, ← f.H] at h2
        omega
      · rw [hmo q hh]; exact hq2
    · have hnewv := (hsv.lift hmm).sub u5
      have hkt : ∀ t, Sees (Uof E.U0 (stF P Γ l s0 (updS S i)).H m') w' m' (a.tmps.getD t undef) ((stF P Γ l s0 S).ts.getD t .any) := fun t => by
        have h1 := hI.tm t
        have h2 : Sees (Uof E.U0 (stF P Γ l s0 S).H m) w m' (a.tmps.getD t undef) ((stF P Γ l s0 S).ts.getD t .any) := h1.keep fun c hc K hK => by
          rw [hmo c fun hh => ?_]
          · exact hK
          · rw [stF_tm] at hc
            split at hc
            · exact (hold c (hnew c hh.1 hh.2) (by rw [← f.H]; exact hh.1)).1 t hc
            · simp [Da.ids] at hc
        exact h2.chg u2 (fun k hk => .inr hk) hUW
      rw [hts]
      cases hdst : o.dst with
      | none => exact hkt t
      | some td =>
        show Sees _ _ _ (({ a with tmps := a.tmps.setIfInBounds td v } : Act).tmps.getD t undef) (((stF P Γ l s0 S).ts.set td T.get.1).getD t .any)
        rw [getD_put, getD_set, hI.sz]
        split
        · exact hnewv
        · exact hkt t
    · rw [hts]
      cases hdst : o.dst with
      | none => exact hI.sz
      | some td => simp [Act.put, hI.sz]
    · cases hdst : o.dst <;> exact hI.df
/-- A REGION THAT DRAWS ITS ORDER. -/
theorem draw_wp (hΓ : COk P Γ) (hmx : P.follows .mixedOrders = true) (hok : OkAt l B) (hw : waitsB l B = true) (hs : (opsD P Γ l.toArray l s0 []).safe) (hf : ftsOk B (ftD P Γ l.toArray l s0) = true) {m : List Loc} {a : Act} {W : World} (h0 : Inv E s0 m a W) (id : Nat) {Q : Exit → Act → World → Prop}
    (hQ : ∀ m' a' W', Inv E (stA P Γ l s0 l.length) m' a' W' → Q .normal a' W') : (Code.region id l.toArray true).wp P Q a W := by
  have hml := h0.hi.ml
  have h : DrawOk P Γ l B s0 := ⟨hok, hw, hs, hf, fun b q hq => by rw [← hml]; exact h0.hi.ids b q hq, fun t q hq => by rw [← hml]; exact (h0.tm t).ids q hq⟩
  have hm0 : ∀ (q : Nat) (L : Loc), E.m0[q]? = some L → q < s0.H.length := fun q L hq => by rw [← hml]; exact (List.getElem?_eq_some_iff.1 (h0.base q L hq)).1
  refine wp_region_free hmx hok (fun S a w => ∃ m, Inv E (stF P Γ l s0 S) m a w) ?_ (fun S a w i o ho mc ⟨m, hI⟩ => draw_step hΓ h ho mc hm0 hI) (fun S a w hall ⟨m, hI⟩ => ?_)
  · -- nothing is done yet
    have hN : s0.H.length ≤ (stA P Γ l s0 l.length).H.length := by
      have := N_mono h l.length (Nat.le_refl _) 0 (Nat.zero_le _)
      have e : stA P Γ l s0 0 = s0 := by cases l <;> rfl
      rw [e] at this; exact this
    have hb0 : ∀ b, bxF P Γ l s0 (fun _ => false) b = s0.H.getD b Bx.gone := fun b => by
      unfold bxF
      have e : lastP (fun j => (fun _ => false : Nat → Bool) j && (ftA P Γ l s0 j).wr.contains b) l.length = none := lastP_no fun k _ => rfl
      rw [e]
    have ht0 : ∀ t, tmF P Γ l s0 (fun _ => false) t = s0.ts.getD t .any := fun t => by
      unfold tmF
      have e : lastP (fun j => (fun _ => false : Nat → Bool) j && dstIs l t j) l.length = none := lastP_no fun k _ => rfl
      rw [e]
    have h1 : Inv E s0 m a W.drew := by
      have hB : Below W.heap.size W W.drew := (Below.refl _ _).drew
      exact ⟨h0.hi.grow hB, h0.le.trans (Chg.of_below (R := fun _ => False) hB) (fun _ h => h.elim), h0.mt, h0.new, h0.base, fun t => (h0.tm t).grow hB, h0.sz, h0.df⟩
    have rm : Remap some _root_.id s0.H m (stF P Γ l s0 fun _ => false).H (m ++ List.replicate ((stA P Γ l s0 l.length).H.length - s0.H.length) default) := by
      refine ⟨by rw [stF_HLen, List.length_append, List.length_replicate]; omega, fun p x' hp hlv => ?_, fun p p' x x' _ _ _ _ e => e, fun b b' L h1 h2 => ?_⟩
      · obtain ⟨-, e⟩ := stF_H hp
        rw [hb0, List.getD_eq_getElem?_getD] at e
        cases hx : s0.H[p]? with
        | none => rw [hx] at e; simp only [Option.getD_none] at e; subst e; cases hlv
        | some y =>
          rw [hx] at e
          simp only [Option.getD_some] at e
          subst e
          have hpl := (List.getElem?_eq_some_iff.1 hx).1
          refine ⟨x', x'.fr, hx, hlv, ?_, by rw [Bx.ren_some], fun h => h⟩
          show (m ++ _)[p]? = m[p]?
          rw [List.getElem?_append_left (by omega)]
      · cases h1
        rw [List.getElem?_append_left (List.getElem?_eq_some_iff.1 h2).1]; exact h2
    refine ⟨_, h1.remap rm (fun q L _ h2 => by rw [List.getElem?_append_left (List.getElem?_eq_some_iff.1 h2).1]; exact h2) _ (stF_tsLen _) fun t => ?_⟩
    have h2 := rm.sees (h1.tm t)
    rw [Da.ren_some] at h2
    show Sees _ _ _ _ ((stF P Γ l s0 fun _ => false).ts.getD t .any)
    rw [stF_tm]
    split
    · rw [ht0]; exact h2
    · exact .any _ _
  · -- all is done
    have hbN : (stF P Γ l s0 S).H = (stA P Γ l s0 l.length).H := by
      refine List.ext_getElem? fun b => ?_
      by_cases hb : b < (stA P Γ l s0 l.length).H.length
      · have e : (stF P Γ l s0 S).H[b]? = some (bxF P Γ l s0 S b) := by
          show ((List.range _).map _)[b]? = _
          rw [List.getElem?_map, List.getElem?_eq_getElem (by simpa using hb)]; simp
        rw [e, List.getElem?_eq_getElem hb]
        have h2 := H_last h l.length (Nat.le_refl _) b
        rw [List.getD_eq_getElem?_getD, List.getElem?_eq_getElem hb] at h2
        simp only [Option.getD_some] at h2
        rw [h2]
        unfold bxF
        have e2 := lastP_congr (p := fun j => S j && (ftA P Γ l s0 j).wr.contains b) (q := fun j => (ftA P Γ l s0 j).wr.contains b) (n := l.length) fun k hk => by rw [hall k hk]; rfl
        rw [e2]
      · rw [List.getElem?_eq_none (by rw [stF_HLen]; omega), List.getElem?_eq_none (by omega)]
    obtain ⟨t1, t2⟩ := T_last h l.length (Nat.le_refl _)
    refine hQ m a w ?_
    have e3 : ∀ (x : St), Inv E ⟨x.ts, x.H⟩ m a w → Inv E x m a w := fun x hx => hx
    refine ⟨by rw [← hbN]; exact hI.hi, hI.le, by rw [← hbN]; exact hI.mt, by rw [← hbN]; exact hI.new, hI.base, fun t => ?_, by rw [hI.sz, stF_tsLen, t1], hI.df⟩
    rw [← hbN]
    by_cases hlt : t < s0.ts.length
    · refine t2 t _ _ _ _ ?_
      have h3 := hI.tm t
      rw [stF_tm, if_pos hlt] at h3
      unfold tmF at h3
      have e2 := lastP_congr (p := fun j => S j && dstIs l t j) (q := dstIs l t) (n := l.length) fun k hk => by rw [hall k hk]; rfl
      rw [e2] at h3
      cases hl : lastP (dstIs l t) l.length with
      | none => rw [hl] at h3; exact h3
      | some j => rw [hl] at h3; exact h3
    · rw [List.getD_eq_getElem?_getD (l := (stA P Γ l s0 l.length).ts), List.getElem?_eq_none (by omega)]
      exact .any _ _
end
end Go.Proofs.YthlebalbiokjpaaGreat
