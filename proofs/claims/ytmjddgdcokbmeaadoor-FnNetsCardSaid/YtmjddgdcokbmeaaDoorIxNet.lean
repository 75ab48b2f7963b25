/- slices.IndexFunc of Nets. -/
import Derived.Test.YtmjddgdcokbmeaaDoorIx
import Derived.Test.YtmjddgdcokbmeaaDoorNt
namespace Go.Proofs.YtmjddgdcokbmeaaDoor
open Go.RowKit
set_option linter.unusedVariables false
set_option linter.unusedSimpArgs false
set_option maxRecDepth 200000
set_option maxHeartbeats 1000000

/-- What is asked of a function value: it answers q, whatever has been laid since. -/
def PredNet (g : FuncId) (lb : Array Value) (q : Nt → Bool) (w : World) : Prop :=
  ∀ (W : World) (f : Nt), f ∈ N6 → LeB w W → Calls Tryd.prog g (#[.agg f.cells] ++ lb) W fun e w' => e = .returned (.bool (q f)) ∧ LeB W w'
theorem IndexFuncNet_ok (g : FuncId) (lb : Array Value) (q : Nt → Bool) (A : Option Addr) (c : Nat) (l : List Nt) (hl : l.length ≤ 1000000000000) (hc : l.length ≤ c) (w : World) (hr : Rd w A (rowC Nt.row l)) (hp : PredNet g lb q w) (hn : ∀ x ∈ l, x ∈ N6)
    (eg : ∀ args w, (callFunc g args).run Tryd.prog w = .ok (.enter g args) w) :
    Calls Tryd.prog 98 #[.slice A l.length c, .func (.func g) #[] lb] w fun e w' => e = .returned (.int .i64 (idxG q l)) ∧ LeB w w' := by
  obtain ⟨r, hR⟩ : ∃ r, idxG q l = r := ⟨_, rfl⟩
  rw [hR]
  have HK := Lib.hid (And.intro hR hr)
  have HN := Lib.hid hn
  clear hn
  have hlI : (l.length : Int) ≤ 1000000000000 := by omega
  have hcI : (l.length : Int) ≤ c := by omega
  clear hR
  go_enter Tryd.func98, Tryd.ntmps98
  go_wp2_with fail
  go_loopw [8] (fun i wr => ∃ k : Nat, i = .int .i64 k ∧ k ≤ l.length ∧ LeB w wr ∧ ∀ j (h : j < l.length), j < k → q l[j] = false) (fun i _ => (l.length - (intOf i).toNat))
  case atStart => exact ⟨0, rfl, Nat.zero_le _, Below.refl _ _, fun j h h0 => absurd h0 (Nat.not_lt_zero _)⟩
  case round =>
    obtain ⟨k, rfl, hk, hB, hno⟩ := hrel
    have HR := Lib.hid (And.intro hB hno)
    clear hB hno
    by_cases hlt : k < l.length
    · have hltI : (k : Int) < l.length := by omega
      obtain ⟨ad, rfl, q1⟩ := Nt.At.of (hr.below HR.out.1 (Nat.le_refl _)) k hlt
      obtain ⟨f, hf⟩ : ∃ f, l[k] = f := ⟨_, rfl⟩
      rw [hf] at q1
      have HF := Lib.hid hf
      clear hf
      have hcall := hp wr f (by rw [← HF.out]; exact HN.out _ (List.getElem_mem hlt)) HR.out.1
      obtain ⟨c0, c1⟩ := q1
      cases hq : q f with
      | true =>
        rw [hq] at hcall
        go_wp2_with fail
        refine hcall.mono ?_
        rintro e w1 ⟨rfl, hB1⟩
        clear c0 c1 hcall
        have HB := Lib.hid (LeB.tr HR.out.1 hB1)
        clear hB1
        go_wp2_with fail
        go_ret
        refine ⟨?_, HB.out⟩
        rw [← HK.out.1, idxG_hit q l k hlt (by rw [HF.out]; exact hq) (fun j hj => HR.out.2 j (by omega) hj)]
        rfl
      | false =>
        rw [hq] at hcall
        go_wp2_with fail
        refine hcall.mono ?_
        rintro e w1 ⟨rfl, hB1⟩
        clear c0 c1 hcall
        have HB := Lib.hid (LeB.tr HR.out.1 hB1)
        clear hB1
        go_wp2_with fail
        go_roundw
        case rel =>
          refine ⟨k + 1, by go_num, by omega, HB.out, fun j h hj => ?_⟩
          by_cases hjk : j = k
          · subst hjk; rw [HF.out]; exact hq
          · exact HR.out.2 j h (by omega)
        case measure => simp [intOf]; omega
    · obtain rfl : k = l.length := by omega
      go_wp2_with fail
      go_ret
      refine ⟨?_, HR.out.1⟩
      have h1 : idxG q l = -1 := (idxG_neg q l).2 fun f hf => by
        obtain ⟨j, hj, rfl⟩ := List.getElem_of_mem hf
        exact HR.out.2 j hj hj
      rw [← HK.out.1, h1]
      rfl
end Go.Proofs.YtmjddgdcokbmeaaDoor
