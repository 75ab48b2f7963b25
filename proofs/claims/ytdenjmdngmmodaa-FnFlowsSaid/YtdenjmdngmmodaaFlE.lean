/- Flows, the other hand's: what is kept, found, opened. -/
import Derived.Test.YtdenjmdngmmodaaFlC
import Derived.Test.YtdenjmdngmmodaaRlB
namespace Go.Proofs.Ytdenjmdngmmodaa
open Go.RowKit
set_option linter.unusedVariables false
set_option linter.unusedSimpArgs false
set_option maxRecDepth 200000
set_option maxHeartbeats 1000000

def keepQ (now own : Int) (f : Fl) : Bool := decide (now < (f.til : Int)) && decide ((f.own : Int) ≠ own)
theorem l09Find_ok (A : Option Addr) (c : Nat) (l : List Fl) (hl : l.length ≤ 100000) (hc : l.length ≤ c) (p a ap b bp : Nat) (w : World) (hr : Rd w A (rowC flc l)) :
    Calls Try.prog 97 #[.slice A l.length c, .int .i64 p, .int .i64 a, .int .i64 ap, .int .i64 b, .int .i64 bp] w fun e w' => ∃ (k : Int) (t : Bool), e = .returned (.tuple #[.int .i64 k, .bool t]) ∧ (k < 0 ↔ noHit l p a ap b bp) ∧ LeB w w' := by
  have hlI : (l.length : Int) ≤ 100000 := by omega
  have hcI : (l.length : Int) ≤ c := by omega
  have HK := Lib.hid hr
  clear hr
  go_enter Try.func97, Try.ntmps97
  go_wp2_with fail
  go_loopw [14] (fun i wr => ∃ k : Nat, i = .int .i64 k ∧ k ≤ l.length ∧ LeB w wr ∧ ∀ j (h : j < l.length), j < k → (l[j]).hit p a ap b bp = false) (fun i _ => (l.length - (intOf i).toNat))
  case atStart => exact ⟨0, rfl, Nat.zero_le _, Below.refl _ _, fun j h h0 => absurd h0 (Nat.not_lt_zero _)⟩
  case round =>
    obtain ⟨k, rfl, hk, hB, hno⟩ := hrel
    have HR := Lib.hid (And.intro hB hno)
    clear hB hno
    by_cases hlt : k < l.length
    · have hltI : (k : Int) < l.length := by omega
      obtain ⟨ad, rfl, q1⟩ := FlAt.of (HK.out.below HR.out.1 (Nat.le_refl _)) k hlt
      obtain ⟨f, hf⟩ : ∃ f, l[k] = f := ⟨_, rfl⟩
      rw [hf] at q1
      have HF := Lib.hid hf
      clear hf
      obtain ⟨c0, c1, c2, c3, c4, c5, c6, c7, c8⟩ := q1
      go_wp2_with fail
      refine (l09Same_ok f wr p a ap b bp).mono ?_
      rintro e w1 ⟨rfl, hB1⟩
      have q2 := (FlAt.mk c0 c1 c2 c3 c4 c5 c6 c7 c8).below hB1
      have H1 := Lib.hid (LeB.tr HR.out.1 hB1)
      clear c0 c1 c2 c3 c4 c5 c6 c7 c8 hB1
      obtain ⟨c0, c1, c2, c3, c4, c5, c6, c7, c8⟩ := q2
      cases hq1 : f.at p a ap b bp with
      | true =>
        go_wp2_with fail
        refine bodyPost_ret (v := .tuple #[.int .i64 k, .bool false]) (by simp [results, go_sem]) rfl ⟨k, false, rfl, ?_, H1.out⟩
        refine ⟨fun h => by omega, fun h => ?_⟩
        have := h l[k] (List.getElem_mem hlt)
        rw [HF.out, Fl.hit, hq1] at this
        cases this
      | false =>
        go_wp2_with fail
        refine (l09Same_ok f w1 p b bp a ap).mono ?_
        rintro e w2 ⟨rfl, hB2⟩
        have H2 := Lib.hid (LeB.tr H1.out hB2)
        clear c0 c1 c2 c3 c4 c5 c6 c7 c8 hB2
        cases hq2 : f.at p b bp a ap with
        | true =>
          go_wp2_with fail
          refine bodyPost_ret (v := .tuple #[.int .i64 k, .bool true]) (by simp [results, go_sem]) rfl ⟨k, true, rfl, ?_, H2.out⟩
          refine ⟨fun h => by omega, fun h => ?_⟩
          have := h l[k] (List.getElem_mem hlt)
          rw [HF.out, Fl.hit, hq1, hq2] at this
          cases this
        | false =>
          go_wp2_with fail
          go_roundw
          case rel =>
            refine ⟨k + 1, by go_num, by omega, H2.out, fun j h hj => ?_⟩
            by_cases hjk : j = k
            · subst hjk; rw [HF.out, Fl.hit, hq1, hq2]; rfl
            · exact HR.out.2 j h (by omega)
          case measure => simp [intOf]; omega
    · obtain rfl : k = l.length := by omega
      go_wp2_with fail
      refine bodyPost_ret (v := .tuple #[.int .i64 (-1), .bool false]) (by simp [results, go_sem]) rfl ⟨-1, false, rfl, ?_, HR.out.1⟩
      simp only [Int.reduceNeg, Int.reduceLT, true_iff]
      intro f hf
      obtain ⟨j, hj, rfl⟩ := List.getElem_of_mem hf
      exact HR.out.2 j hj hj
theorem l09Keep_ok (A : Option Addr) (c : Nat) (l : List Fl) (hl : l.length ≤ 100000) (hc : l.length ≤ c) (now own : Int) (w : World) (hr : Rd w A (rowC flc l)) :
    Calls Try.prog 123 #[.slice A l.length c, .int .i64 now, .int .i64 own] w fun e w' => ∃ v, e = .returned v ∧ w'.ownsRow w.heap.size 73 9 v (l.filter (keepQ now own)).length (rowC flc (l.filter (keepQ now own))) ∧ LeB w w' := by
  have hlI : (l.length : Int) ≤ 100000 := by omega
  have hcI : (l.length : Int) ≤ c := by omega
  have HK := Lib.hid (And.intro hr hl)
  clear hr
  go_enter Try.func123, Try.ntmps123
  go_wp2_with fail
  have hown0 := own_none w
  have hB0 : LeB w (w.alloc (.cells #[] 73)) := (Below.refl _ _).alloc (Nat.le_refl _) _
  go_loopw [7, 8] (fun v i wr => ∃ k : Nat, i = .int .i64 k ∧ k ≤ l.length ∧ wr.ownsRow w.heap.size 73 9 v ((l.take k).filter (keepQ now own)).length (rowC flc ((l.take k).filter (keepQ now own))) ∧ LeB w wr) (fun _ i _ => (l.length - (intOf i).toNat))
  case atStart => exact ⟨0, rfl, Nat.zero_le _, hown0, hB0⟩
  case round =>
    obtain ⟨k, rfl, hk, hown, hB⟩ := hrel
    have HR := Lib.hid (And.intro hown hB)
    clear hown hB hown0 hB0
    by_cases hlt : k < l.length
    · have hltI : (k : Int) < l.length := by omega
      obtain ⟨ad, hA, q1⟩ := FlAt.of (HK.out.1.below HR.out.2 (Nat.le_refl _)) k hlt
      subst hA
      have htk := List.take_succ_eq_append_getElem hlt
      obtain ⟨f, hf⟩ : ∃ f, l[k] = f := ⟨_, rfl⟩
      rw [hf] at q1 htk
      have HF := Lib.hid htk
      clear hf htk
      obtain ⟨c0, c1, c2, c3, c4, c5, c6, c7, c8⟩ := q1
      by_cases hq : keepQ now own f = true
      · have hq2 := hq
        simp [keepQ] at hq2
        obtain ⟨i1, i2⟩ := hq2
        have i3 : ((f.own : Int) == own) = false := by simp; omega
        have HQ := Lib.hid hq
        clear hq i2
        go_wp2_with (at_builtin; refine Hid.out ?_)
        refine Lib.hid ?_
        clear c0 c1 c2 c3 c4 c5 c6 c7 c8 i1 i3
        have hB2 : LeB wr (wr.alloc (.cells f.cells 73)) := (Below.refl _ _).alloc (Nat.le_refl _) _
        have hrd : Rd (wr.alloc (.cells f.cells 73)) (some ⟨wr.heap.size, 0, none⟩) (rowC flc [f]) := by simpa [rowC, flc] using Rd.block (heap_alloc_new wr (.cells f.cells 73)) 0
        have hB3 : Below w.heap.size w (wr.alloc (.cells f.cells 73)) := LeB.tr HR.out.2 hB2
        have hown2 := own_belowR HR.out.1 hB2
        have hfl : ((l.take k).filter (keepQ now own)).length ≤ 100000 := by have := List.length_filter_le (keepQ now own) (l.take k); have := HK.out.2; have := List.length_take_le k l; omega
        obtain ⟨v3, w3, hrun, hown3, hg3⟩ := append_fl _ w.heap.size u7 _ hown2 (some ⟨wr.heap.size, 0, none⟩) 1 [f] hrd (by simp only [List.length_singleton]; omega) hB3.size
        have hB4 : Below w.heap.size w w3 := hB3.grown hg3 hB3.size (fun g hg => (hown2.lt g hg).1)
        refine wpList_append_run rfl _ _ _ _ rfl rfl rfl hrun ?_
        have hfin : (l.take k).filter (keepQ now own) ++ [f] = (l.take (k + 1)).filter (keepQ now own) := by rw [HF.out, List.filter_append, List.filter_cons_of_pos HQ.out]; rfl
        rw [hfin] at hown3
        have H3 := Lib.hid (And.intro hown3 hB4)
        clear hrun hrd hown2 hB2 hB3 hown3 hB4 hg3 hfin hfl
        go_wp2_with fail
        go_roundw
        case rel => exact ⟨k + 1, by go_num, by omega, H3.out.1, H3.out.2⟩
        case measure => simp [intOf]; omega
      · have hq2 : ¬ now < f.til ∨ (now < f.til ∧ (f.own : Int) = own) := by
          simp [keepQ] at hq
          omega
        have HQ := Lib.hid hq
        clear hq
        rcases hq2 with i1 | ⟨i1, i2⟩
        · have i3 : decide (now < (f.til : Int)) = false := by simp; omega
          clear i1
          go_wp2_with fail
          have hfin : (l.take k).filter (keepQ now own) = (l.take (k + 1)).filter (keepQ now own) := by rw [HF.out, List.filter_append, List.filter_cons_of_neg HQ.out]; simp
          have hown3 := HR.out.1
          rw [hfin] at hown3
          go_roundw
          case rel => exact ⟨k + 1, by go_num, by omega, hown3, HR.out.2⟩
          case measure => simp [intOf]; omega
        · go_wp2_with fail
          have hfin : (l.take k).filter (keepQ now own) = (l.take (k + 1)).filter (keepQ now own) := by rw [HF.out, List.filter_append, List.filter_cons_of_neg HQ.out]; simp
          have hown3 := HR.out.1
          rw [hfin] at hown3
          go_roundw
          case rel => exact ⟨k + 1, by go_num, by omega, hown3, HR.out.2⟩
          case measure => simp [intOf]; omega
    · obtain rfl : k = l.length := by omega
      go_wp2_with fail
      go_ret
      rw [List.take_length] at HR
      exact ⟨_, rfl, HR.out.1, HR.out.2⟩
end Go.Proofs.Ytdenjmdngmmodaa
