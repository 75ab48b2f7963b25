/- The gateway's tests: guests, spec's, whole. -/
import Derived.Test.YthlebalbiokjpaaGreatKhGl
import Derived.Test.YthlebalbiokjpaaGreatKhGm
namespace Go.Proofs.YthlebalbiokjpaaGreat
open Go.RowKit
set_option linter.unusedVariables false
set_option maxRecDepth 100000

theorem allN_iff {n : Nat} {p : Nat → Bool} : allN n p = true ↔ ∀ i, i < n → p i = true := by simp [allN]
theorem anyN_no {n : Nat} {q : Nat → Bool} : anyN n q = false ↔ ∀ i, i < n → q i = false := by rw [anyN_all]; simp only [Bool.not_eq_false']; rw [allN_iff]; simp
theorem twice_no {l : List XSession} {k : Nat} (hk : k < l.length) : twiceM l k = false ↔ ∀ i, i < k → clashM (gS l i) (gS l k) = false := by
  unfold twiceM
  rw [anyN_no, List.length_take, Nat.min_eq_left (Nat.le_of_lt hk)]
  have e : ∀ i, i < k → (l.take k).getD i (elDef .session) = gS l i := fun i hi => by
    unfold gS
    rw [List.getD_eq_getElem?_getD, List.getD_eq_getElem?_getD, List.getElem?_take, if_pos hi]
  exact ⟨fun h i hi => by rw [← e i hi]; exact h i hi, fun h i hi => by rw [e i hi]; exact h i hi⟩
theorem sessI_iff {c : XConfig} {g : XGuests} {k : Nat} (hk : k < g.sessions.length) (hn : g.sessions.length ≤ 3) : sessI c g k = true ↔ sessionOK c g (gS g.sessions k) = true ∧ (∀ i, i < k → clashM (gS g.sessions i) (gS g.sessions k) = false) ∧ (k > 0 → (gS g.sessions (k - 1)).id < (gS g.sessions k).id) := by
  rw [← twice_no hk]
  unfold sessI
  cases sessionOK c g (gS g.sessions k) <;> cases twiceM g.sessions k <;> simp only [cond_true, cond_false, Bool.false_eq_true, false_and, and_false, true_and, Bool.true_eq_false]
  by_cases h : k > 0
  · rw [show decide ((k : Int) > 0) = true from by simp; omega, wr_in (by omega) (by omega), show ((k : Int) - 1).toNat = k - 1 from by omega]
    simp only [cond_true]
    constructor
    · intro h1 _
      have h2 := of_decide_eq_false (by simpa using h1 : decide ((gS g.sessions (k - 1)).id ≥ (gS g.sessions k).id) = false)
      omega
    · intro h1
      have h2 := h1 h
      rw [show decide ((gS g.sessions (k - 1)).id ≥ (gS g.sessions k).id) = false from decide_eq_false (by omega)]; rfl
  · rw [show decide ((k : Int) > 0) = false from by simp; omega]
    simp only [cond_false, true_iff]
    intro h1
    exact absurd h1 h
theorem pair_iff {y x : XSession} : pairM y x = true ↔ y.id < x.id ∧ clashM y x = false := by
  unfold pairM
  by_cases h : y.id ≥ x.id
  · rw [decide_eq_true h]
    simp only [cond_true, Bool.false_eq_true, false_iff]
    intro h1
    omega
  · rw [decide_eq_false h]
    simp only [cond_false, Bool.not_eq_true']
    exact ⟨fun h1 => ⟨by omega, h1⟩, fun h1 => h1.2⟩
theorem sessS_iff {c : XConfig} {g : XGuests} {k : Nat} : sessS c g k = true ↔ sessionOK c g (gS g.sessions k) = true ∧ ∀ i, i < k → (gS g.sessions i).id < (gS g.sessions k).id ∧ clashM (gS g.sessions i) (gS g.sessions k) = false := by
  unfold sessS
  rw [Bool.and_eq_true, allN_iff]
  exact and_congr_right fun _ => forall_congr' fun i => forall_congr' fun _ => pair_iff
theorem sess_eq {c : XConfig} {g : XGuests} (hn : g.sessions.length ≤ 3) : allN g.sessions.length (sessS c g) = allN g.sessions.length (sessI c g) := by
  rw [Bool.eq_iff_iff, allN_iff, allN_iff]
  constructor
  · intro h k hk
    obtain ⟨h1, h2⟩ := sessS_iff.1 (h k hk)
    exact (sessI_iff hk hn).2 ⟨h1, fun i hi => (h2 i hi).2, fun h0 => (h2 (k - 1) (by omega)).1⟩
  · intro h k hk
    obtain ⟨h1, h2, h3⟩ := (sessI_iff hk hn).1 (h k hk)
    refine sessS_iff.2 ⟨h1, fun i hi => ⟨?_, h2 i hi⟩⟩
    have step : ∀ j, 0 < j → j < g.sessions.length → (gS g.sessions (j - 1)).id < (gS g.sessions j).id := fun j h0 hj => ((sessI_iff hj hn).1 (h j hj)).2.2 h0
    have key : ∀ d i, i + d + 1 < g.sessions.length → (gS g.sessions i).id < (gS g.sessions (i + d + 1)).id := fun d => by
      induction d with
      | zero => exact fun i hi => step (i + 1) (by omega) hi
      | succ d ih => exact fun i hi => Int.lt_trans (ih i (by omega)) (step (i + (d + 1) + 1) (by omega) hi)
    have := key (k - i - 1) i (by omega)
    rwa [show i + (k - i - 1) + 1 = k from by omega] at this
def gsT (c : XConfig) (g : XGuests) : Bool := bif (w_ c.lanBits 0 32 && decide (g.sessions.length ≤ 3)) then (bif (allF (fun i => sessS c g i) g.sessions.length 0) then (bif (decide (g.fails.length ≤ 20)) then (bif (allF (fun i => failsM g.fails i) g.fails.length 0) then (bif (decide (g.records.length ≤ 60)) then (bif (allF (fun i => recsM g i) g.records.length 0) then true else false) else false) else false) else false) else false) else false
def gsB (c : XConfig) (g : XGuests) : Bool := bif (w_ c.lanBits 0 32 && decide (g.sessions.length ≤ 3)) then (bif (allF (fun i => sessS c g i) g.sessions.length 0) then (bif (decide (g.fails.length ≤ 20)) then (bif (allF (fun i => failsM g.fails i) g.fails.length 0) then (bif (decide (g.records.length ≤ 60)) then false else true) else false) else true) else false) else true
def gsF (c : XConfig) (g : XGuests) : Bool := configM c && (bif (small c.roles && small g.users) then (usersL c g.users && (bif decide ((g.sessions.length : Int) > 3) then false else bif decide ((g.fails.length : Int) > 20) then false else bif decide ((g.records.length : Int) > 60) then false else (w_ g.next 1 10000 && (gsT c g)))) else false)
def gsD (c : XConfig) (g : XGuests) : Bool := configM c && (bif (small c.roles && small g.users) then (usersL c g.users && (bif decide ((g.sessions.length : Int) > 3) then false else bif decide ((g.fails.length : Int) > 20) then false else bif decide ((g.records.length : Int) > 60) then false else (w_ g.next 1 10000 && (gsB c g)))) else true)
theorem gs_lens {c : XConfig} {g : XGuests} (h0 : configM c = true) (h2 : decide ((g.sessions.length : Int) > 3) = false) (h3 : decide ((g.fails.length : Int) > 20) = false) (h4 : decide ((g.records.length : Int) > 60) = false) : (w_ c.lanBits 0 32 && decide (g.sessions.length ≤ 3)) = true ∧ (decide (g.fails.length ≤ 20)) = true ∧ (decide (g.records.length ≤ 60)) = true := by
  rw [(config_bits h0).1, le_m (m := 3) h2, le_m (m := 20) h3, le_m (m := 60) h4]
  exact ⟨rfl, rfl, rfl⟩
theorem gsD_no {c : XConfig} {g : XGuests} (hq : small g.users = true) : gsD c g = false := by
  unfold gsD
  cases h0 : configM c <;> try rfl
  rw [(config_bits h0).2, hq]
  cases usersL c g.users <;> cases h2 : decide ((g.sessions.length : Int) > 3) <;> cases h3 : decide ((g.fails.length : Int) > 20) <;> cases h4 : decide ((g.records.length : Int) > 60) <;> cases w_ g.next 1 10000 <;> try rfl
  obtain ⟨e1, e2, e3⟩ := gs_lens h0 h2 h3 h4
  unfold gsB
  rw [e1, e2, e3]
  cases (allF (fun i => sessS c g i) g.sessions.length 0) <;> cases (allF (fun i => failsM g.fails i) g.fails.length 0) <;> rfl
theorem gsF_eq {c : XConfig} {g : XGuests} (hq : small g.users = true) : gsF c g = guestsI c g := by
  unfold gsF guestsI
  cases h0 : configM c <;> try rfl
  rw [(config_bits h0).2, hq]
  unfold usersL
  cases h1 : decide ((g.users.length : Int) > 6)
  · rw [show decide ((g.users.length : Int) ≤ 6) = true from by simp at h1 ⊢; omega]
    cases h2 : decide ((g.sessions.length : Int) > 3) <;> cases h3 : decide ((g.fails.length : Int) > 20) <;> cases h4 : decide ((g.records.length : Int) > 60) <;> cases w_ g.next 1 10000 <;> cases allN g.users.length (usersM c g.users) <;> try rfl
    obtain ⟨e1, e2, e3⟩ := gs_lens h0 h2 h3 h4
    unfold gsT
    rw [e1, e2, e3, allF_zero, allF_zero, allF_zero, show allN g.sessions.length (fun i => sessS c g i) = allN g.sessions.length (sessI c g) from sess_eq (by simp at h2; omega)]
    show _ = (allN g.sessions.length (sessI c g) && (allN g.fails.length (failsM g.fails) && allN g.records.length (recsM g)))
    cases allN g.sessions.length (sessI c g) <;> cases allN g.fails.length (failsM g.fails) <;> cases allN g.records.length (recsM g) <;> rfl
  · rw [show decide ((g.users.length : Int) ≤ 6) = false from by simp at h1 ⊢; omega, Bool.and_false]; rfl
def c_sGuestsOK : Entry := ent2 (cA0 .config) (cA0 .guests) fun c g => (.when (small g.users), .b (guestsI c g))
theorem o_sGuestsOK : ∀ (c : Cd.ty ((cA0 .config))) (g : Cd.ty ((cA0 .guests))), (small g.users) = true → OkC Tryz.prog 43 [(cA0 .config).enc c, (cA0 .guests).enc g] (.b (guestsI c g)) := fun c g hq =>
  have hs : Sf (fnT Tryz.prog G24 (Ls [S_GsA c g, S_GsI c g 0, S_GsF c g, S_GsR c g]) Tryz.f43 (bd Tryz.f43) [(cA0 .config).enc c, (cA0 .guests).enc g]) := Sf.obls (b := gsD c g) (by kernel_rfl) (gsD_no hq) (l := [I_GsA c g (0 : Nat) = I_GsA c g (0 : Nat), I_GsF c g (0 : Nat) = I_GsF c g (0 : Nat), I_GsR c g (0 : Nat) = I_GsR c g (0 : Nat)]) (by kernel_rfl) (by simp)
  (show (gsF c g) = (guestsI c g) from gsF_eq hq) ▸ (OkC.b (fn_okL G24_ok hmx Tryz.func43 (bd_eq (by kernel_rfl)) _ _ (.cons (z_GsA c g) (.cons (z_GsI c g 0) (.cons (z_GsF c g) (.cons (z_GsR c g) (.nil _))))) hs) hs (by kernel_rfl) (by kernel_rfl) : OkC Tryz.prog 43 [(cA0 .config).enc c, (cA0 .guests).enc g] (.b (gsF c g)))
theorem e_sGuestsOK : EOk Tryz.prog 43 c_sGuestsOK := ent2_ok Tryz.call43 fun c g hq => o_sGuestsOK c g hq
def G25 : Ctx := G24.add [(51, c_GuestsOK), (43, c_sGuestsOK)]
theorem G25_ok : COk Tryz.prog G25 := G24_ok.add (CsOk.cons e_GuestsOK (CsOk.cons e_sGuestsOK (CsOk.nil)))
end Go.Proofs.YthlebalbiokjpaaGreat
