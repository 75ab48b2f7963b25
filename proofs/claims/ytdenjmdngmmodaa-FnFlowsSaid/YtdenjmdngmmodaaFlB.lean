/- Flows: what slices.IndexFunc finds, and find. -/
import Derived.Test.YtdenjmdngmmodaaFl
namespace Go.Proofs.Ytdenjmdngmmodaa
open Go.RowKit
set_option linter.unusedVariables false
set_option linter.unusedSimpArgs false
set_option maxRecDepth 200000
set_option maxHeartbeats 1000000

/-- The place of the first flow that meets q, or -1. -/
def idxC (q : Fl → Bool) : List Fl → Int
  | [] => -1
  | f :: l => if q f then 0 else (if idxC q l < 0 then -1 else idxC q l + 1)
theorem idxC_ge (q : Fl → Bool) (l : List Fl) : -1 ≤ idxC q l := by
  induction l with
  | nil => simp [idxC]
  | cons f l ih => unfold idxC; split; omega; split <;> omega
theorem idxC_neg (q : Fl → Bool) (l : List Fl) : idxC q l = -1 ↔ ∀ f ∈ l, q f = false := by
  induction l with
  | nil => simp [idxC]
  | cons f l ih =>
    have := idxC_ge q l
    unfold idxC
    split
    · rename_i h
      simp [h]
    · rename_i h
      split
      · have h1 : idxC q l = -1 := by omega
        simp only [true_iff]
        intro g hg
        rcases List.mem_cons.1 hg with rfl | hg
        · simpa using h
        · exact ih.1 h1 g hg
      · constructor
        · intro e; omega
        · intro hall
          have := ih.2 (fun g hg => hall g (List.mem_cons_of_mem _ hg))
          omega
theorem idxC_hit (q : Fl → Bool) (l : List Fl) (k : Nat) (hk : k < l.length) (hq : q l[k] = true) (hb : ∀ j (h : j < k), q (l[j]'(by omega)) = false) : idxC q l = k := by
  induction l generalizing k with
  | nil => simp at hk
  | cons f l ih =>
    cases k with
    | zero =>
      have : q f = true := hq
      simp [idxC, this]
    | succ k =>
      have h0 : q f = false := hb 0 (by omega)
      have := ih k (by simpa using hk) (by simpa using hq) (fun j hj => by simpa using hb (j + 1) (by omega))
      unfold idxC
      rw [h0, this]
      simp
      omega
/-- What is asked of a function value: it answers q, whatever has been laid since. -/
def PredF (g : FuncId) (lb : Array Value) (q : Fl → Bool) (w : World) : Prop :=
  ∀ (W : World) (f : Fl), LeB w W → Calls Try.prog g (#[.agg f.cells] ++ lb) W fun e w' => e = .returned (.bool (q f)) ∧ LeB W w'
theorem IndexFunc_ok (g : FuncId) (lb : Array Value) (q : Fl → Bool) (A : Option Addr) (c : Nat) (l : List Fl) (hl : l.length ≤ 1000000) (hc : l.length ≤ c) (w : World) (hr : Rd w A (rowC flc l)) (hp : PredF g lb q w)
    (eg : ∀ args w, (callFunc g args).run Try.prog w = .ok (.enter g args) w) :
    Calls Try.prog 128 #[.slice A l.length c, .func (.func g) #[] lb] w fun e w' => e = .returned (.int .i64 (idxC q l)) ∧ LeB w w' := by
  obtain ⟨r, hR⟩ : ∃ r, idxC q l = r := ⟨_, rfl⟩
  rw [hR]
  have HK := Lib.hid (And.intro hR hr)
  have hlI : (l.length : Int) ≤ 1000000 := by omega
  have hcI : (l.length : Int) ≤ c := by omega
  clear hR
  go_enter Try.func128, Try.ntmps128
  go_wp2_with fail
  go_loopw [8] (fun i wr => ∃ k : Nat, i = .int .i64 k ∧ k ≤ l.length ∧ LeB w wr ∧ ∀ j (h : j < l.length), j < k → q l[j] = false) (fun i _ => (l.length - (intOf i).toNat))
  case atStart => exact ⟨0, rfl, Nat.zero_le _, Below.refl _ _, fun j h h0 => absurd h0 (Nat.not_lt_zero _)⟩
  case round =>
    obtain ⟨k, rfl, hk, hB, hno⟩ := hrel
    have HR := Lib.hid (And.intro hB hno)
    clear hB hno
    by_cases hlt : k < l.length
    · have hltI : (k : Int) < l.length := by omega
      obtain ⟨ad, rfl, q1⟩ := FlAt.of (hr.below HR.out.1 (Nat.le_refl _)) k hlt
      obtain ⟨f, hf⟩ : ∃ f, l[k] = f := ⟨_, rfl⟩
      rw [hf] at q1
      have HF := Lib.hid hf
      clear hf
      have hcall := hp wr f HR.out.1
      obtain ⟨c0, c1, c2, c3, c4, c5, c6, c7, c8⟩ := q1
      cases hq : q f with
      | true =>
        rw [hq] at hcall
        go_wp2_with fail
        refine hcall.mono ?_
        rintro e w1 ⟨rfl, hB1⟩
        clear c0 c1 c2 c3 c4 c5 c6 c7 c8 hcall
        have HB := Lib.hid (LeB.tr HR.out.1 hB1)
        clear hB1
        go_wp2_with fail
        go_ret
        refine ⟨?_, HB.out⟩
        rw [← HK.out.1, idxC_hit q l k hlt (by rw [HF.out]; exact hq) (fun j hj => HR.out.2 j (by omega) hj)]
        rfl
      | false =>
        rw [hq] at hcall
        go_wp2_with fail
        refine hcall.mono ?_
        rintro e w1 ⟨rfl, hB1⟩
        clear c0 c1 c2 c3 c4 c5 c6 c7 c8 hcall
        have HB := Lib.hid (LeB.tr HR.out.1 hB1)
        clear hB1
        go_wp2_with fail
        go_roundw
        case rel =>
          refine ⟨k + 1, by go_num, by omega, HB.out, fun j h hj => ?_⟩
          by_cases hjk : j = k
          · subst hjk; rw [HF.out]; exact hq
          · exact HR.out.2 j h (by omega)
        case measure => simp [intOf]; omega
    · obtain rfl : k = l.length := by omega
      go_wp2_with fail
      go_ret
      refine ⟨?_, HR.out.1⟩
      have h1 : idxC q l = -1 := (idxC_neg q l).2 fun f hf => by
        obtain ⟨j, hj, rfl⟩ := List.getElem_of_mem hf
        exact HR.out.2 j hj hj
      rw [← HK.out.1, h1]
      rfl
end Go.Proofs.Ytdenjmdngmmodaa
