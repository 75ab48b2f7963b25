/- The gateway's tests: guests, impl's, whole. -/
import Derived.Test.YthlebalbiokjpaaGreatKh16
namespace Go.Proofs.YthlebalbiokjpaaGreat
open Go.RowKit
set_option linter.unusedVariables false
set_option maxRecDepth 100000

def recsM (g : XGuests) (i : Nat) : Bool := recordOK g (g.records.getD i (elDef .record))
theorem recs_any (g : XGuests) : anyN g.records.length (fun i => !(recordOK g (g.records.getD i (elDef .record)))) = !(allN g.records.length (recsM g)) := any_not (p := recsM g)
def guestsI (c : XConfig) (g : XGuests) : Bool :=
  configM c && (bif decide ((g.users.length : Int) > 6) then false else bif decide ((g.sessions.length : Int) > 3) then false else bif decide ((g.fails.length : Int) > 20) then false else bif decide ((g.records.length : Int) > 60) then false else
    (w_ g.next 1 10000 && (allN g.users.length (usersM c g.users) && (allN g.sessions.length (sessI c g) && (allN g.fails.length (failsM g.fails) && allN g.records.length (recsM g))))))
theorem config_bits {c : XConfig} (h : configM c = true) : w_ c.lanBits 0 32 = true ∧ small c.roles = true := by
  unfold configM at h
  simp only [Bool.and_eq_true] at h
  refine ⟨netOK_bits h.1, ?_⟩
  have h2 := h.2.2.2.2
  cases h3 : hasM (lanM c) c.resolver <;> rw [h3] at h2 <;> simp only [cond_true, cond_false, Bool.and_eq_true] at h2
  · cases h4 : decide ((c.garden.length : Int) > 8) <;> rw [h4] at h2 <;> simp only [cond_true, cond_false, Bool.and_eq_true] at h2
    · have := w_true.1 h2.2.2.1
      unfold small
      simp
      omega
    · exact absurd h2.2.2 (by decide)
  · exact absurd h2 (by decide)
theorem le_m {n : Nat} {m : Nat} (h : decide ((n : Int) > m) = false) : decide (n ≤ m) = true := by
  simp at h
  simpa using h
/-- What stands ahead of the loops. -/
def guHead (c : XConfig) (g : XGuests) (x : Bool) : Bool :=
  configM c && (bif decide ((g.users.length : Int) > 6) then false else bif decide ((g.sessions.length : Int) > 3) then false else bif decide ((g.fails.length : Int) > 20) then false else bif decide ((g.records.length : Int) > 60) then false else (w_ g.next 1 10000 && x))
theorem guHead_eq {c : XConfig} {g : XGuests} {x y : Bool} (h : configM c = true → g.users.length ≤ 6 → g.sessions.length ≤ 3 → g.fails.length ≤ 20 → g.records.length ≤ 60 → x = y) : guHead c g x = guHead c g y := by
  unfold guHead
  cases h0 : configM c <;> cases h1 : decide ((g.users.length : Int) > 6) <;> cases h2 : decide ((g.sessions.length : Int) > 3) <;> cases h3 : decide ((g.fails.length : Int) > 20) <;> cases h4 : decide ((g.records.length : Int) > 60) <;> try rfl
  simp at h1 h2 h3 h4
  rw [h h0 (by omega) (by omega) (by omega) (by omega)]
theorem guHead_false {c : XConfig} {g : XGuests} : guHead c g false = false := by
  unfold guHead
  cases configM c <;> cases decide ((g.users.length : Int) > 6) <;> cases decide ((g.sessions.length : Int) > 3) <;> cases decide ((g.fails.length : Int) > 20) <;> cases decide ((g.records.length : Int) > 60) <;> cases w_ g.next 1 10000 <;> rfl
def guT (c : XConfig) (g : XGuests) : Bool := bif (small c.roles && decide (g.users.length ≤ 6)) then (bif allF (fun i => usersM c g.users i) g.users.length 0 then (bif (w_ c.lanBits 0 32 && decide (g.sessions.length ≤ 3)) then (bif allF (fun i => sessI c g i) g.sessions.length 0 then (bif decide (g.fails.length ≤ 20) then (bif allF (fun i => failsM g.fails i) g.fails.length 0 then (bif small g.records then !(anyN g.records.length (fun i => !(recordOK g (g.records.getD i (elDef .record))))) else false) else false) else false) else false) else false) else false) else false
def guB (c : XConfig) (g : XGuests) : Bool := bif (small c.roles && decide (g.users.length ≤ 6)) then (bif allF (fun i => usersM c g.users i) g.users.length 0 then (bif (w_ c.lanBits 0 32 && decide (g.sessions.length ≤ 3)) then (bif allF (fun i => sessI c g i) g.sessions.length 0 then (bif decide (g.fails.length ≤ 20) then (bif allF (fun i => failsM g.fails i) g.fails.length 0 then (bif small g.records then false else true) else false) else true) else false) else true) else false) else true
theorem gu_lens {c : XConfig} {g : XGuests} (h0 : configM c = true) (h1 : g.users.length ≤ 6) (h2 : g.sessions.length ≤ 3) (h3 : g.fails.length ≤ 20) (h4 : g.records.length ≤ 60) :
    (small c.roles && decide (g.users.length ≤ 6)) = true ∧ (w_ c.lanBits 0 32 && decide (g.sessions.length ≤ 3)) = true ∧ decide (g.fails.length ≤ 20) = true ∧ small g.records = true := by
  obtain ⟨a, b⟩ := config_bits h0
  rw [a, b]
  unfold small
  simp [h1, h2, h3]
  omega
theorem guB_no {c : XConfig} {g : XGuests} : guHead c g (guB c g) = false := by
  rw [guHead_eq (y := false), guHead_false]
  intro h0 h1 h2 h3 h4
  obtain ⟨a1, a2, a3, a4⟩ := gu_lens h0 h1 h2 h3 h4
  unfold guB
  rw [a1, a2, a3, a4]
  cases allF (fun i => usersM c g.users i) g.users.length 0 <;> cases allF (fun i => sessI c g i) g.sessions.length 0 <;> cases allF (fun i => failsM g.fails i) g.fails.length 0 <;> rfl
theorem guT_eq {c : XConfig} {g : XGuests} : guHead c g (guT c g) = guestsI c g := by
  show _ = guHead c g _
  refine guHead_eq fun h0 h1 h2 h3 h4 => ?_
  obtain ⟨a1, a2, a3, a4⟩ := gu_lens h0 h1 h2 h3 h4
  unfold guT
  rw [a1, a2, a3, a4, recs_any, allF_zero, allF_zero, allF_zero, Bool.not_not]
  cases h1 : allN g.users.length (fun i => usersM c g.users i) <;> cases h2 : allN g.sessions.length (fun i => sessI c g i) <;> cases h3 : allN g.fails.length (fun i => failsM g.fails i) <;> simp_all
def c_GuestsOK : Entry := ent2 (cA0 .config) (cA0 .guests) fun c g => (.yes, .b (guestsI c g))
theorem o_GuestsOK : ∀ (c : Cd.ty ((cA0 .config))) (g : Cd.ty ((cA0 .guests))), OkC Tryz.prog 51 [(cA0 .config).enc c, (cA0 .guests).enc g] (.b (guestsI c g)) := fun c g =>
  have hs : Sf (fnT Tryz.prog G24 (Ls [S_GuA c g, S_GuB c g, S_GuC c g]) Tryz.f51 (bd Tryz.f51) [(cA0 .config).enc c, (cA0 .guests).enc g]) := Sf.obls (b := guHead c g (guB c g)) (by kernel_rfl) (guB_no) (l := [I_GuA c g (0 : Nat) = I_GuA c g (0 : Nat), I_GuB c g (0 : Nat) = I_GuB c g (0 : Nat), I_GuC c g (0 : Nat) = I_GuC c g (0 : Nat)]) (by kernel_rfl) (by simp)
  (show (guHead c g (guT c g)) = (guestsI c g) from guT_eq) ▸ (OkC.b (fn_okL G24_ok hmx Tryz.func51 (bd_eq (by kernel_rfl)) _ _ (.cons (z_GuA c g) (.cons (z_GuB c g) (.cons (z_GuC c g) (.nil _)))) hs) hs (by kernel_rfl) (by kernel_rfl) : OkC Tryz.prog 51 [(cA0 .config).enc c, (cA0 .guests).enc g] (.b (guHead c g (guT c g))))
theorem e_GuestsOK : EOk Tryz.prog 51 c_GuestsOK := ent2_ok Tryz.call51 fun c g hq => o_GuestsOK c g
end Go.Proofs.YthlebalbiokjpaaGreat
