/- Flows, plain: what passing, opening and taking away make of a list. -/
import Derived.Test.YtdenjmdngmmodaaFlB
namespace Go.Proofs.Ytdenjmdngmmodaa
open Go.RowKit
set_option linter.unusedVariables false
set_option linter.unusedSimpArgs false
set_option maxRecDepth 20000
set_option maxHeartbeats 600000

def ends (f : Fl) : Nat × Nat × Nat × Nat × Nat := (f.proto, f.sip, f.sport, f.dip, f.dport)
def apartE (x y : Nat × Nat × Nat × Nat × Nat) : Prop := x ≠ y ∧ x ≠ (y.1, y.2.2.2.1, y.2.2.2.2, y.2.1, y.2.2.1)
theorem at_iff (f : Fl) (p a ap b bp : Nat) : f.at p a ap b bp = true ↔ ends f = (p, a, ap, b, bp) := by
  simp [Fl.at, ends, and_assoc]
theorem at_false (f : Fl) (p a ap b bp : Nat) : f.at p a ap b bp = false ↔ ends f ≠ (p, a, ap, b, bp) := by
  rw [← Bool.not_eq_true, at_iff]
theorem apart_iff (f g : Fl) : apartF f g ↔ apartE (ends f) (ends g) := by
  unfold apartF Fl.hit apartE
  rw [Bool.or_eq_false_iff, at_false, at_false]
  rfl
theorem apart_map (l : List Fl) : l.Pairwise apartF ↔ (l.map ends).Pairwise apartE := by
  rw [List.pairwise_map]
  constructor
  · exact fun h => h.imp fun h => (apart_iff _ _).1 h
  · exact fun h => h.imp fun h => (apart_iff _ _).2 h
theorem apart_set {l : List Fl} (h : l.Pairwise apartF) (k : Nat) (hk : k < l.length) (x : Fl) (hx : ends x = ends l[k]) : (l.set k x).Pairwise apartF := by
  rw [apart_map] at h ⊢
  rw [List.map_set, hx]
  have e : (l.map ends).set k (ends l[k]) = l.map ends := by
    have h := @List.set_getElem_self _ (l.map ends) k (by simpa using hk)
    simpa using h
  rw [e]
  exact h
def passSt (f : Fl) (back : Bool) (flags : Nat) : Nat := if f.proto = 6 ∧ Nat.land flags 1 ≠ 0 then 3 else if f.st = 1 ∧ back = true then 2 else f.st
def passF (f : Fl) (back : Bool) (flags now : Nat) : Fl := { f with st := passSt f back flags, til := now + waitC f.proto (passSt f back flags) }
def passC (l : List Fl) (k : Nat) (f : Fl) (back : Bool) (flags now : Nat) : List Fl :=
  if f.proto = 6 ∧ Nat.land flags 4 ≠ 0 then l.eraseIdx k else l.set k (passF f back flags now)
theorem passF_OK {f : Fl} (h : FlOK f) (back : Bool) (flags now : Nat) (hn : now ≤ 100000) : FlOK (passF f back flags now) := by
  have hs : 1 ≤ passSt f back flags ∧ passSt f back flags ≤ 3 := by
    have := h.st1
    have := h.st3
    unfold passSt
    split
    · omega
    · split <;> omega
  have hw := waitC_le f.proto (passSt f back flags)
  exact ⟨h.proto, h.mac, h.sip, h.sport, h.dip, h.dport, hs.1, hs.2, by show now + _ ≤ _; omega, h.own⟩
theorem pass_OK {l : List Fl} (h : FlsOK l) (k : Nat) (hk : k < l.length) (back : Bool) (flags now : Nat) (hn : now ≤ 100000) : FlsOK (passC l k l[k] back flags now) := by
  unfold passC
  split
  · exact ⟨Nat.le_trans (List.eraseIdx_sublist l k).length_le h.len, fun f hf => h.ok f (List.mem_of_mem_eraseIdx hf), h.ap.sublist (List.eraseIdx_sublist l k)⟩
  · refine ⟨by rw [List.length_set]; exact h.len, fun f hf => ?_, apart_set h.ap k hk _ rfl⟩
    rcases List.mem_or_eq_of_mem_set hf with hf | rfl
    · exact h.ok f hf
    · exact passF_OK (h.ok _ (List.getElem_mem hk)) back flags now hn
theorem filter_OK {l : List Fl} (h : FlsOK l) (p : Fl → Bool) : FlsOK (l.filter p) :=
  ⟨Nat.le_trans (List.filter_sublist).length_le h.len, fun f hf => h.ok f (List.mem_filter.1 hf).1, h.ap.sublist List.filter_sublist⟩
theorem take_OK {l : List Fl} (h : FlsOK l) (k : Nat) : FlsOK (l.take k) :=
  ⟨Nat.le_trans (List.take_sublist k l).length_le h.len, fun f hf => h.ok f (List.mem_of_mem_take hf), h.ap.sublist (List.take_sublist k l)⟩
def openF (f : Fl) (now : Nat) : Fl := { f with st := 1, til := now + waitC f.proto 1 }
theorem openF_OK {f : Fl} (h : FlOK f) (now : Nat) (hn : now ≤ 100000) : FlOK (openF f now) := by
  have hw := waitC_le f.proto 1
  exact ⟨h.proto, h.mac, h.sip, h.sport, h.dip, h.dport, Nat.le_refl _, by show 1 ≤ 3; omega, by show now + _ ≤ _; omega, h.own⟩
/-- No flow of the list has these ends, this way or the other. -/
def noHit (l : List Fl) (p a ap b bp : Nat) : Prop := ∀ f ∈ l, f.hit p a ap b bp = false
theorem open_OK {l : List Fl} (h : FlsOK l) {f : Fl} (hf : FlOK f) (now : Nat) (hn : now ≤ 100000) (hl : l.length < 8) (hno : noHit l f.proto f.sip f.sport f.dip f.dport) : FlsOK (l ++ [openF f now]) := by
  refine ⟨by simp; omega, fun g hg => ?_, List.pairwise_append.2 ⟨h.ap, by simp, fun a ha b hb => ?_⟩⟩
  · rcases List.mem_append.1 hg with hg | hg
    · exact h.ok g hg
    · rw [List.mem_singleton.1 hg]; exact openF_OK hf now hn
  · rw [List.mem_singleton.1 hb]; exact hno a ha
/-- What find answers. -/
def findC (l : List Fl) (p a ap b bp : Nat) : Int × Bool :=
  if 0 ≤ idxC (fun f => f.at p a ap b bp) l then (idxC (fun f => f.at p a ap b bp) l, false) else (idxC (fun f => f.at p b bp a ap) l, decide (0 ≤ idxC (fun f => f.at p b bp a ap) l))
theorem find_none {l : List Fl} {p a ap b bp : Nat} (h : noHit l p a ap b bp) : findC l p a ap b bp = (-1, false) := by
  have h1 : idxC (fun f => f.at p a ap b bp) l = -1 := (idxC_neg _ _).2 fun f hf => by have := h f hf; unfold Fl.hit at this; rw [Bool.or_eq_false_iff] at this; exact this.1
  have h2 : idxC (fun f => f.at p b bp a ap) l = -1 := (idxC_neg _ _).2 fun f hf => by have := h f hf; unfold Fl.hit at this; rw [Bool.or_eq_false_iff] at this; exact this.2
  unfold findC
  rw [h1, h2]
  rfl
theorem find_neg {l : List Fl} {p a ap b bp : Nat} : (findC l p a ap b bp).1 < 0 ↔ noHit l p a ap b bp := by
  have g1 := idxC_ge (fun f => f.at p a ap b bp) l
  have g2 := idxC_ge (fun f => f.at p b bp a ap) l
  constructor
  · intro h f hf
    unfold findC at h
    split at h
    · simp at h; omega
    · rename_i h0
      simp at h
      have e1 := (idxC_neg _ _).1 (show idxC (fun f => f.at p a ap b bp) l = -1 by omega) f hf
      have e2 := (idxC_neg _ _).1 (show idxC (fun f => f.at p b bp a ap) l = -1 by omega) f hf
      unfold Fl.hit
      rw [Bool.or_eq_false_iff]
      exact ⟨e1, e2⟩
  · intro h
    rw [find_none h]
    decide
theorem noHit_at {l : List Fl} {p a ap b bp : Nat} (h : noHit l p a ap b bp) : (∀ g ∈ l, g.at p a ap b bp = false) ∧ ∀ g ∈ l, g.at p b bp a ap = false :=
  ⟨fun g hg => by have := h g hg; unfold Fl.hit at this; rw [Bool.or_eq_false_iff] at this; exact this.1, fun g hg => by have := h g hg; unfold Fl.hit at this; rw [Bool.or_eq_false_iff] at this; exact this.2⟩
theorem idxC_last (q : Fl → Bool) (l : List Fl) (x : Fl) (hx : q x = true) (h : ∀ g ∈ l, q g = false) : idxC q (l ++ [x]) = l.length :=
  idxC_hit q (l ++ [x]) l.length (by simp) (by simpa using hx) (fun j hj => by rw [List.getElem_append_left hj]; exact h _ (List.getElem_mem hj))
theorem find_new {l : List Fl} {f : Fl} (now : Nat) (h : noHit l f.proto f.sip f.sport f.dip f.dport) : findC (l ++ [openF f now]) f.proto f.sip f.sport f.dip f.dport = ((l.length : Int), false) := by
  have h1 := idxC_last (fun g => g.at f.proto f.sip f.sport f.dip f.dport) l (openF f now) ((at_iff _ _ _ _ _ _).2 rfl) (noHit_at h).1
  unfold findC
  rw [h1, if_pos (by omega)]
theorem find_turned {l : List Fl} {f : Fl} (now : Nat) (h : noHit l f.proto f.sip f.sport f.dip f.dport) (hne : f.sip ≠ f.dip) : findC (l ++ [openF f now]) f.proto f.dip f.dport f.sip f.sport = ((l.length : Int), true) := by
  have h1 := idxC_last (fun g => g.at f.proto f.sip f.sport f.dip f.dport) l (openF f now) ((at_iff _ _ _ _ _ _).2 rfl) (noHit_at h).1
  have h2 : idxC (fun g => g.at f.proto f.dip f.dport f.sip f.sport) (l ++ [openF f now]) = -1 := (idxC_neg _ _).2 fun g hg => by
    rcases List.mem_append.1 hg with hg | hg
    · exact (noHit_at h).2 g hg
    · rw [List.mem_singleton.1 hg, at_false]
      intro e
      injection e with _ e
      injection e with e
      exact hne e
  unfold findC
  rw [h2, if_neg (show ¬ (0 : Int) ≤ -1 by decide), h1]
  simp
theorem noHit_filter {l : List Fl} {p a ap b bp : Nat} (h : noHit l p a ap b bp) (q : Fl → Bool) : noHit (l.filter q) p a ap b bp := fun g hg => h g (List.mem_filter.1 hg).1
/-- The time of a flow that was opened comes, and not before. -/
theorem left_none {l : List Fl} {f : Fl} (now : Nat) (h : noHit l f.proto f.sip f.sport f.dip f.dport) : noHit ((l ++ [openF f now]).filter fun g => !decide ((g.til : Int) ≤ (now : Int) + (waitC f.proto 1 : Nat))) f.proto f.sip f.sport f.dip f.dport := by
  rw [List.filter_append]
  intro g hg
  rcases List.mem_append.1 hg with hg | hg
  · exact h g (List.mem_filter.1 hg).1
  · obtain ⟨h1, h2⟩ := List.mem_filter.1 hg
    rw [List.mem_singleton.1 h1] at h2
    exfalso
    simp [openF] at h2
theorem early_new {l : List Fl} {f : Fl} (now : Nat) (h : noHit l f.proto f.sip f.sport f.dip f.dport) : ∃ k : Nat, findC ((l ++ [openF f now]).filter fun g => !decide ((g.til : Int) ≤ (now : Int) + (waitC f.proto 1 : Nat) - 1)) f.proto f.sip f.sport f.dip f.dport = ((k : Int), false) := by
  have e : (l ++ [openF f now]).filter (fun g => !decide ((g.til : Int) ≤ (now : Int) + (waitC f.proto 1 : Nat) - 1)) = l.filter (fun g => !decide ((g.til : Int) ≤ (now : Int) + (waitC f.proto 1 : Nat) - 1)) ++ [openF f now] := by
    rw [List.filter_append]
    congr 1
    rw [List.filter_cons_of_pos]
    · rfl
    · show (!decide (((now + waitC f.proto 1 : Nat) : Int) ≤ (now : Int) + (waitC f.proto 1 : Nat) - 1)) = true
      rw [decide_eq_false (by omega)]
      rfl
  rw [e]
  exact ⟨_, find_new now (noHit_filter h _)⟩
end Go.Proofs.Ytdenjmdngmmodaa
