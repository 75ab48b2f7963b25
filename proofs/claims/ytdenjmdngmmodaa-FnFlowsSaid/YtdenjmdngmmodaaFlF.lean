/- Flows: lists that are right are told so; two lists of the same flows. -/
import Derived.Test.YtdenjmdngmmodaaFlC
namespace Go.Proofs.Ytdenjmdngmmodaa
open Go.RowKit
set_option linter.unusedVariables false
set_option linter.unusedSimpArgs false
set_option maxRecDepth 200000
set_option maxHeartbeats 1000000

theorem take_noHit {l : List Fl} (h : l.Pairwise apartF) (k : Nat) (hk : k < l.length) : noHit (l.take k) l[k].proto l[k].sip l[k].sport l[k].dip l[k].dport := by
  intro g hg
  obtain ⟨i, hi, rfl⟩ := List.getElem_of_mem hg
  have hik : i < k := by simp at hi; omega
  rw [List.getElem_take]
  exact List.pairwise_iff_getElem.1 h i k (by omega) hk hik
theorem rd_takeN {w : World} {A : Option Addr} {vs : List Value} (h : Rd w A vs) (n : Nat) : Rd w A (vs.take n) := by
  intro j u hu
  rw [List.getElem?_take] at hu
  split at hu
  · exact h j u hu
  · cases hu
theorem sameFlows_ok (l : List Fl) (v1 v2 : Value) (B1 B2 : Nat) (w : World) (h1 : FlL B1 l v1 w) (h2 : FlL B2 l v2 w) (hl : l.length ≤ 1000) :
    Calls Try.prog 35 #[v1, v2] w fun e w' => e = .returned (.bool true) ∧ ∃ n, w' = w.drewN n := by
  obtain ⟨A1, c1, rfl, hc1, hr1, -⟩ := h1
  obtain ⟨A2, c2, rfl, hc2, hr2, -⟩ := h2
  have hlI : (l.length : Int) ≤ 1000 := by omega
  have hc1I : (l.length : Int) ≤ c1 := by omega
  have hc2I : (l.length : Int) ≤ c2 := by omega
  go_enter Try.func35, Try.ntmps35
  go_wp2_with fail
  go_loopw [5] (fun i wr => ∃ k n : Nat, i = .int .i64 k ∧ k ≤ l.length ∧ wr = w.drewN n) (fun i _ => (l.length - (intOf i).toNat))
  case atStart => exact ⟨0, 0, rfl, Nat.zero_le _, rfl⟩
  case round =>
    obtain ⟨k, n, rfl, hk, rfl⟩ := hrel
    by_cases hlt : k < l.length
    · have hltI : (k : Int) < l.length := by omega
      obtain ⟨ad1, rfl, q1⟩ := FlAt.of hr1 k hlt
      obtain ⟨ad2, rfl, q2⟩ := FlAt.of hr2 k hlt
      obtain ⟨g, hg⟩ : ∃ g, l[k] = g := ⟨_, rfl⟩
      rw [hg] at q1 q2
      clear hg
      obtain ⟨c0, c1', c2', c3, c4, c5, c6, c7, c8⟩ := q1
      obtain ⟨d0, d1, d2, d3, d4, d5, d6, d7, d8⟩ := q2
      go_wp2_with fail
      go_quiet (fail)
      go_wp2_with fail
      go_roundw
      case rel => exact ⟨k + 1, n + nq, by go_num, by omega, rfl⟩
      case measure => simp [intOf]; omega
    · obtain rfl : k = l.length := by omega
      go_wp2_with fail
      go_ret
      exact ⟨rfl, n, rfl⟩
theorem FlowsOK_true (A : Option Addr) (c : Nat) (l : List Fl) (hok : FlsOK l) (hc : l.length ≤ c) (w : World) (hr : Rd w A (rowC flc l)) :
    Calls Try.prog 36 #[.slice A l.length c] w fun e w' => e = .returned (.bool true) ∧ LeB w w' := by
  have hlI : (l.length : Int) ≤ 8 := by have := hok.len; omega
  have hl8 : decide ((8 : Int) < l.length) = false := by simp; have := hok.len; omega
  have hcI : (l.length : Int) ≤ c := by omega
  have HK := Lib.hid (And.intro hok (And.intro hr hc))
  clear hok hr
  go_enter Try.func36, Try.ntmps36
  go_wp2_with fail
  go_loopw [12] (fun i wr => ∃ k : Nat, i = .int .i64 k ∧ k ≤ l.length ∧ LeB w wr) (fun i _ => (l.length - (intOf i).toNat))
  case atStart => exact ⟨0, rfl, Nat.zero_le _, Below.refl _ _⟩
  case round =>
    obtain ⟨k, rfl, hk, hB⟩ := hrel
    have HR := Lib.hid hB
    clear hB
    by_cases hlt : k < l.length
    · have hltI : (k : Int) < l.length := by omega
      have hkcI : (k : Int) ≤ c := by omega
      have hno := take_noHit HK.out.1.ap k hlt
      obtain ⟨ad, hA, q1⟩ := FlAt.of (HK.out.2.1.below HR.out (Nat.le_refl _)) k hlt
      subst hA
      obtain ⟨f, hf⟩ : ∃ f, l[k] = f := ⟨_, rfl⟩
      have hfo : FlOK f := by rw [← hf]; exact HK.out.1.ok _ (List.getElem_mem hlt)
      rw [hf] at q1 hno
      have e1 : decide ((1 : Int) ≤ f.st ∧ (f.st : Int) ≤ 3) = true := by have := hfo.st1; have := hfo.st3; simp; omega
      have e2 : decide ((0 : Int) ≤ f.til ∧ (f.til : Int) ≤ 100100) = true := by have := hfo.til; simp; omega
      have HF := Lib.hid (And.intro hfo (And.intro q1 hno))
      clear hfo hf hno
      obtain ⟨c0, c1, c2, c3, c4, c5, c6, c7, c8⟩ := q1
      go_wp2_with fail
      refine (endsOK_ok f HF.out.1 _ wr HF.out.2.1).mono ?_
      rintro e w1 ⟨rfl, rfl⟩
      go_wp2_with fail
      refine (within_ok _ _ _ _).mono ?_
      rintro e w1 ⟨rfl, rfl⟩
      rw [e1]
      go_wp2_with fail
      refine (within_ok _ _ _ _).mono ?_
      rintro e w1 ⟨rfl, rfl⟩
      rw [e2]
      go_wp2_with fail
      have hcell : ∀ W, Below wr.heap.size wr W → W.cell? (ad.add (k * 9)) = some (.int .i64 f.proto) ∧ W.cell? ⟨(ad.add (k * 9)).block, (ad.add (k * 9)).off + 2, none⟩ = some (.int .i64 f.sip) ∧ W.cell? ⟨(ad.add (k * 9)).block, (ad.add (k * 9)).off + 3, none⟩ = some (.int .i64 f.sport) ∧ W.cell? ⟨(ad.add (k * 9)).block, (ad.add (k * 9)).off + 4, none⟩ = some (.int .i64 f.dip) ∧ W.cell? ⟨(ad.add (k * 9)).block, (ad.add (k * 9)).off + 5, none⟩ = some (.int .i64 f.dport) := fun W hW => ⟨(HF.out.2.1.below hW).c0, (HF.out.2.1.below hW).c2, (HF.out.2.1.below hW).c3, (HF.out.2.1.below hW).c4, (HF.out.2.1.below hW).c5⟩
      clear c0 c1 c2 c3 c4 c5 c6 c7 c8
      refine wp_region_lex 29 (by kernel_rfl) (by kernel_rfl) (JB wr) LeB (qphiF [(23, .tuple #[.int .i64 (-1), .bool false])]) qphiF_st JB.mono ?_ ?_
      · exact (Below.refl _ _).drew
      simp only [List.take_succ_cons, List.take_zero, List.drop_succ_cons, List.drop_zero, pairs, List.zipIdx_cons, List.zipIdx_nil, List.map_cons, List.map_nil, Nat.zero_add, Nat.reduceAdd]
      (repeat (first | (refine lex_pure rfl rfl (fun K hK => ?_); go_simp; refine hK _ ?_; clear hK K; try simp (disch := omega) only [IntWalk.i64_in, IntWalk.u8_in, Int.add_sub_cancel, Int.tmod_eq_emod_of_nonneg, Int.tdiv_eq_ediv_of_nonneg]) | (refine lex_load rfl rfl _ (fun m W hJ hF => (by have cc := hcell W hJ; go_simp; rfl)) ?_; try simp (disch := omega) only [IntWalk.i64_in, IntWalk.u8_in, Int.add_sub_cancel, Int.tmod_eq_emod_of_nonneg, Int.tdiv_eq_ediv_of_nonneg]) | (refine lex_sadd rfl rfl rfl rfl rfl (by first | omega | (simp only [ByteArray.size_append]; omega)) ?_; go_simp)))
      refine lex_eff' (sp := fun _ v _ => v = .tuple #[.int .i64 (-1), .bool false]) rfl rfl (by intro _ _ _ _ h; exact h) (fun m W hJ hF => ?_) (fun v x hh => ?_) rfl
      · refine gives_call Try.call91 ((find_ok (some ad) k c (l.take k) (by rw [List.length_take]; omega) (by omega) (by omega) f.proto f.sip f.sport f.dip f.dport (-1, false) (find_none HF.out.2.2) W (by rw [rowC_take flc_len l k (by omega)]; exact rd_takeN (HK.out.2.1.below (LeB.tr HR.out hJ) (Nat.le_refl _)) (k * 9))).mono ?_)
        rintro e w' ⟨rfl, h4⟩
        exact ⟨_, rfl, hJ.step h4, h4, rfl⟩
      obtain ⟨_, _, -, rfl, -⟩ := hh
      (repeat (first | (refine lex_pure rfl rfl (fun K hK => ?_); go_simp; refine hK _ ?_; clear hK K; try simp (disch := omega) only [IntWalk.i64_in, IntWalk.u8_in, Int.add_sub_cancel, Int.tmod_eq_emod_of_nonneg, Int.tdiv_eq_ediv_of_nonneg]) | (refine lex_load rfl rfl _ (fun m W hJ hF => (by have cc := hcell W hJ; go_simp; rfl)) ?_; try simp (disch := omega) only [IntWalk.i64_in, IntWalk.u8_in, Int.add_sub_cancel, Int.tmod_eq_emod_of_nonneg, Int.tdiv_eq_ediv_of_nonneg]) | (refine lex_sadd rfl rfl rfl rfl rfl (by first | omega | (simp only [ByteArray.size_append]; omega)) ?_; go_simp)))
      refine lex_nil (fun m W hJ hF => ?_)
      have H2 := Lib.hid (LeB.tr HR.out hJ)
      clear hF hJ hcell
      go_wp2_with fail
      go_roundw
      case rel => exact ⟨k + 1, by go_num, by omega, H2.out⟩
      case measure => simp [intOf]; omega
    · obtain rfl : k = l.length := by omega
      go_wp2_with fail
      go_ret
      exact ⟨rfl, HR.out⟩
end Go.Proofs.Ytdenjmdngmmodaa
