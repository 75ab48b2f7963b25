/- Flows, the other hand's: one passes. -/
import Derived.Test.YtdenjmdngmmodaaFlG
import Derived.Test.YtdenjmdngmmodaaFlF
namespace Go.Proofs.Ytdenjmdngmmodaa
open Go.RowKit
set_option linter.unusedVariables false
set_option linter.unusedSimpArgs false
set_option maxRecDepth 200000
set_option maxHeartbeats 40000000

/-- A list of its own, in a block of its own from w0 on. -/
structure OwnAt (w0 w : World) (g c : Nat) (l : List Fl) : Prop where
  ex : ∃ cur, w.heap[g]? = some (.cells cur 73 (0, 0)) ∧ cur.size = c * 9 ∧ Heads flc l cur
  hg : w0.heap.size ≤ g
  hc : l.length ≤ c
  hm : c ≤ maxLen
  bl : LeB w0 w
theorem OwnAt.of {w0 w : World} {c : Nat} {A : Option Addr} {l : List Fl} (h : w.ownsRow w0.heap.size 73 9 (.slice A l.length c) l.length (rowC flc l)) (hl : l ≠ []) (hB : LeB w0 w) : ∃ g, A = some ⟨g, 0, none⟩ ∧ OwnAt w0 w g c l := by
  obtain ⟨g, cur, rfl, hgB, hb, hc, hm, hs, hh⟩ := own_heads h hl
  exact ⟨g, rfl, ⟨cur, hb, hs, hh⟩, hgB, hc, hm, hB⟩
theorem OwnAt.own {w0 w : World} {g c : Nat} {l : List Fl} (h : OwnAt w0 w g c l) : w.ownsRow w0.heap.size 73 9 (.slice (some ⟨g, 0, none⟩) l.length c) l.length (rowC flc l) := by
  obtain ⟨cur, hb, hs, hh⟩ := h.ex
  exact heads_own flc_len h.hg hb h.hc h.hm hs hh
theorem OwnAt.ownS {w0 w : World} {g c k : Nat} {l : List Fl} {x : Fl} (h : OwnAt w0 w g c (l.set k x)) : w.ownsRow w0.heap.size 73 9 (.slice (some ⟨g, 0, none⟩) l.length c) (l.set k x).length (rowC flc (l.set k x)) := by
  have := h.own
  rw [List.length_set] at this ⊢
  exact this
theorem OwnAt.rd {w0 w : World} {g c : Nat} {l : List Fl} (h : OwnAt w0 w g c l) : Rd w (some ⟨g, 0, none⟩) (rowC flc l) := by
  obtain ⟨cur, hb, hs, hh⟩ := h.ex
  exact hh.rd hb
theorem OwnAt.below {w0 w w' : World} {g c : Nat} {l : List Fl} (h : OwnAt w0 w g c l) (hB : LeB w w') : OwnAt w0 w' g c l := by
  obtain ⟨cur, hb, hs, hh⟩ := h.ex
  exact ⟨⟨cur, (hB.block _ (Array.getElem?_eq_some_iff.1 hb).1).trans hb, hs, hh⟩, h.hg, h.hc, h.hm, LeB.tr h.bl hB⟩
theorem OwnAt.at_ {w0 w : World} {g c : Nat} {l : List Fl} (h : OwnAt w0 w g c l) (k : Nat) (hk : k < l.length) : FlAt w ⟨g, k * 9, none⟩ l[k] := by
  obtain ⟨ad, e, q⟩ := FlAt.of h.rd k hk
  cases e
  rwa [show (⟨g, 0, none⟩ : Addr).add (k * 9) = ⟨g, k * 9, none⟩ from by rw [Addr.add_lit, Nat.zero_add]] at q
theorem OwnAt.free {w0 w : World} {g c : Nat} {l : List Fl} (h : OwnAt w0 w g c l) (j : Nat) : w.frozen? ⟨g, j, none⟩ = false := by
  obtain ⟨cur, hb, hs, hh⟩ := h.ex
  exact blk_free hb j
theorem OwnAt.put {w0 w : World} {g c : Nat} {l : List Fl} (h : OwnAt w0 w g c l) (k : Nat) (hk : k < l.length) (x : Fl) (j : Nat) (hj : j < 9) (u : Value) (hx : (flc l[k]).set j u = flc x) : ∃ W, w.setCell ⟨g, k * 9 + j, none⟩ u = W ∧ OwnAt w0 W g c (l.set k x) := by
  obtain ⟨cur, hb, hs, hh⟩ := h.ex
  exact ⟨_, rfl, ⟨_, blk_set hb _ _, by simpa using hs, hh.put flc_len k hk x j hj u hx⟩, h.hg, by simpa using h.hc, h.hm, h.bl.setCell (by exact h.hg) _⟩
theorem set_self (l : List Fl) (k : Nat) (hk : k < l.length) (f : Fl) (hf : l[k] = f) : l.set k f = l := by rw [← hf]; exact List.set_getElem_self _
theorem bits_and4 (flags : Nat) (h : flags < 32) : (bits .and .i64 (flags : Int) 4 = 0 ∧ Nat.land flags 4 = 0) ∨ (bits .and .i64 (flags : Int) 4 = 4 ∧ Nat.land flags 4 = 4) := bits_andF flags h 4 (by simp)
theorem bits_and1 (flags : Nat) (h : flags < 32) : (bits .and .i64 (flags : Int) 1 = 0 ∧ Nat.land flags 1 = 0) ∨ (bits .and .i64 (flags : Int) 1 = 1 ∧ Nat.land flags 1 = 1) := bits_andF flags h 1 (by simp)
def psφ (B : Nat) (l : List Fl) : Nat → Option Spec
  | 0 => some (NewNone B)
  | 4 => some (OwnFl B l)
  | _ => none
theorem psφ_st {B : Nat} {l : List Fl} : ∀ j sp x v w w', psφ B l j = some sp → LeB w w' → sp x v w → sp x v w' := by
  intro j sp x v w w' hj hL h
  unfold psφ at hj
  split at hj
  · cases hj; exact NewNone.st hL h
  · cases hj; exact OwnFl.st hL h
  · cases hj
theorem pass_eq {l : List Fl} {k : Nat} {f : Fl} {back : Bool} {flags now s wt : Nat} (h4 : ¬ (f.proto = 6 ∧ Nat.land flags 4 ≠ 0)) (hs : passSt f back flags = s) (hw : waitC f.proto s = wt) : passC l k f back flags now = l.set k { f with st := s, til := now + wt } := by
  unfold passC passF
  rw [if_neg h4, hs, hw]
theorem rd_dropN {α : Type} {f : α → List Value} {n : Nat} (hf : ∀ x, (f x).length = n) {w : World} {ad : Addr} {l : List α} (h : Rd w (some ad) (rowC f l)) {c : Nat} (hc : l.length ≤ c) (k : Nat) (hk : k ≤ l.length) : Rd w (if c = k then some ad else some (ad.add (k * n))) (rowC f (l.drop k)) := by
  split
  · rw [List.drop_of_length_le (by omega)]
    exact fun j u hu => by simp [rowC] at hu
  · intro j u hu
    rw [rowC_drop hf l k hk, List.getElem?_drop] at hu
    obtain ⟨ad', e, hc⟩ := h (k * n + j) u hu
    cases e
    exact ⟨_, rfl, by rw [addr_add]; exact hc⟩
theorem l09Pass_ok (A : Option Addr) (c : Nat) (l : List Fl) (hl : l.length ≤ 100000) (hc : l.length ≤ c) (k : Nat) (hk : k < l.length) (back : Bool) (flags now : Nat) (hfl : flags < 32) (hn : now ≤ 100000) (f : Fl) (hf : l[k] = f) (w : World) (hr : Rd w A (rowC flc l)) :
    Calls Try.prog 89 #[.slice A l.length c, .int .i64 k, .bool back, .int .i64 flags, .int .i64 now] w fun e w' => ∃ v, e = .returned v ∧ w'.ownsRow w.heap.size 73 9 v (passC l k f back flags now).length (rowC flc (passC l k f back flags now)) ∧ LeB w w' := by
  have HK := Lib.hid (And.intro hr (And.intro hl (And.intro hf (And.intro (bits_and4 flags hfl) (bits_and1 flags hfl)))))
  have hkI : (k : Int) < l.length := by omega
  have hk1I : (k : Int) + 1 ≤ l.length := by omega
  have hcI : (l.length : Int) ≤ c := by omega
  have hnI : (now : Int) ≤ 100000 := by omega
  clear hr
  go_enter Try.func89, Try.ntmps89
  go_wp2_with (at_builtin; refine Hid.out ?_)
  refine Lib.hid ?_
  have hB0 : LeB w (w.alloc (.cells #[] 73)) := (Below.refl _ _).alloc (Nat.le_refl _) _
  obtain ⟨v1, w1, hrun, hown, hB1⟩ := append_new _ w.heap.size w.heap.size (heap_alloc_new w _) (Nat.le_refl _) A c l (HK.out.1.below hB0 (Nat.le_refl _)) HK.out.2.1
  refine wpList_append_run rfl _ _ _ _ rfl rfl rfl hrun ?_
  obtain ⟨A1, c1, rfl, hc1, -, -⟩ := own_slice hown
  obtain ⟨g, rfl, hO⟩ := OwnAt.of hown (by intro e; rw [e] at hk; simp at hk) (LeB.tr hB0 hB1)
  have hc1I : (l.length : Int) ≤ c1 := by omega
  have H1 := Lib.hid hO
  clear hB0 hrun hown hB1 hO
  have q := H1.out.at_ k hk
  rw [HK.out.2.2.1] at q
  have q0 := q.c0
  have q6 := q.c6
  have f6 := H1.out.free (k * 9 + 6)
  clear q
  have hst : (f.st = 1 ∧ back = true) ∨ back = false ∨ (back = true ∧ ((f.st : Int) == 1) = false ∧ f.st ≠ 1) := by
    by_cases h1 : f.st = 1
    · cases back
      · exact .inr (.inl rfl)
      · exact .inl ⟨h1, rfl⟩
    · cases back
      · exact .inr (.inl rfl)
      · exact .inr (.inr ⟨rfl, by simp; omega, h1⟩)
  rcases hst with ⟨h1, rfl⟩ | rfl | ⟨rfl, h1I, h1⟩
  have h1I : (f.st : Int) = 1 := by omega
  have hs1 := Lib.hid (show (if f.st = 1 ∧ true = true then 2 else f.st) = 2 from if_pos ⟨h1, rfl⟩)
  clear h1
  go_upto_region 5 with (fail)
  obtain ⟨x, hx, X⟩ := H1.out.put k hk { f with st := 2 } 6 (by omega) (.int .i64 2) (by rw [HK.out.2.2.1]; rfl)
  rw [hx]
  obtain ⟨s1, hse⟩ : ∃ s1, s1 = 2 := ⟨_, rfl⟩
  rw [← hse] at X
  have HX := Lib.hid (And.intro X (hs1.out.trans hse.symm))
  clear X hx hs1 hse h1I q0 q6 f6
  rotate_left
  have hs1 := Lib.hid (show (if f.st = 1 ∧ false = true then 2 else f.st) = f.st from if_neg (fun h => by cases h.2))
  go_upto_region 5 with (fail)
  obtain ⟨x, hx⟩ : ∃ x, x = w1 := ⟨_, rfl⟩
  obtain ⟨s1, hse⟩ : ∃ s1, s1 = f.st := ⟨_, rfl⟩
  have X := H1.out
  rw [← set_self l k hk { f with st := s1 } (by rw [hse]; exact HK.out.2.2.1)] at X
  rw [← hx] at X ⊢
  have HX := Lib.hid (And.intro X (hs1.out.trans hse.symm))
  clear X hx hs1 hse q0 q6 f6
  rotate_left
  have hs1 := Lib.hid (show (if f.st = 1 ∧ true = true then 2 else f.st) = f.st from if_neg (fun h => h1 h.1))
  clear h1
  go_upto_region 5 with (fail)
  obtain ⟨x, hx⟩ : ∃ x, x = w1 := ⟨_, rfl⟩
  obtain ⟨s1, hse⟩ : ∃ s1, s1 = f.st := ⟨_, rfl⟩
  have X := H1.out
  rw [← set_self l k hk { f with st := s1 } (by rw [hse]; exact HK.out.2.2.1)] at X
  rw [← hx] at X ⊢
  have HX := Lib.hid (And.intro X (hs1.out.trans hse.symm))
  clear X hx hs1 hse h1I q0 q6 f6
  rotate_left
  all_goals
    have HKM1 := Lib.hid (show k < (l.set k { f with st := s1 }).length by rw [List.length_set]; exact hk)
    have q := HX.out.1.at_ k HKM1.out
    rw [List.getElem_set_self] at q
    have q0 : x.cell? ⟨g, k * 9, none⟩ = some (.int .i64 f.proto) := q.c0
    have q6 : x.cell? ⟨g, k * 9 + 6, none⟩ = some (.int .i64 s1) := q.c6
    have f6 := HX.out.1.free (k * 9 + 6)
    clear q
    by_cases hp : f.proto = 6
    · have hpI : (f.proto : Int) = 6 := by omega
      have HP := Lib.hid hp
      clear hp
      rcases HK.out.2.2.2.1 with ⟨b4, n4⟩ | ⟨b4, n4⟩
      · have N4 := Lib.hid n4
        clear n4
        rcases HK.out.2.2.2.2 with ⟨b1, n1⟩ | ⟨b1, n1⟩
        · have N1 := Lib.hid n1
          clear n1
          go_upto_region 10 with (fail)
          clear q0 q6 f6 b4 b1
          have HKM := Lib.hid (show k < (l.set k { f with st := s1 }).length by rw [List.length_set]; exact hk)
          have HGM := Lib.hid (show ∀ h, (l.set k { f with st := s1 })[k]'h = { f with st := s1 } from fun h => List.getElem_set_self h)
          have hcell : ∀ W, LeB x W → W.cell? ⟨g, k * 9, none⟩ = some (.int .i64 f.proto) ∧ W.cell? ⟨g, k * 9 + 6, none⟩ = some (.int .i64 s1) := fun W hW => by
            have q := ((HX.out.1.below hW).at_ k HKM.out)
            rw [HGM.out] at q
            exact ⟨q.c0, q.c6⟩
          obtain ⟨wt, hwt⟩ : ∃ y, waitC f.proto s1 = y := ⟨_, rfl⟩
          have hwl : wt ≤ 30 := by rw [← hwt]; exact waitC_le _ _
          have HW := Lib.hid hwt
          clear hwt
          refine wp_region_lex 12 (by kernel_rfl) (by kernel_rfl) (JB x) LeB (qphiF [(10, .int .i64 wt)]) qphiF_st JB.mono ?_ ?_
          · exact (Below.refl _ _).drew
          simp only [List.take_succ_cons, List.take_zero, List.drop_succ_cons, List.drop_zero, pairs, List.zipIdx_cons, List.zipIdx_nil, List.map_cons, List.map_nil, Nat.zero_add, Nat.reduceAdd]
          (repeat (first | (refine lex_pure rfl rfl (fun K hK => ?_); go_simp; refine hK _ ?_; clear hK K; try simp (disch := omega) only [IntWalk.i64_in, IntWalk.u8_in, Int.add_sub_cancel, Int.tmod_eq_emod_of_nonneg, Int.tdiv_eq_ediv_of_nonneg]) | (refine lex_load rfl rfl _ (fun m W hJ hF => (by have cc := hcell W hJ; go_simp; rfl)) ?_; try simp (disch := omega) only [IntWalk.i64_in, IntWalk.u8_in, Int.add_sub_cancel, Int.tmod_eq_emod_of_nonneg, Int.tdiv_eq_ediv_of_nonneg]) | (refine lex_sadd rfl rfl rfl rfl rfl (by first | omega | (simp only [ByteArray.size_append]; omega)) ?_; go_simp)))
          refine lex_eff' (sp := fun _ v _ => v = .int .i64 wt) rfl rfl (by intro _ _ _ _ h; exact h) (fun m W hJ hF => ?_) (fun v x hh => ?_) rfl
          · refine gives_call Try.call127 ((l09Wait_ok 6 s1 W).mono ?_)
            rintro e w' ⟨rfl, rfl⟩
            rw [show waitC 6 s1 = wt by rw [← HP.out]; exact HW.out]
            exact ⟨_, rfl, hJ, LeB.of (Below.refl _ _), rfl⟩
          obtain ⟨_, _, -, rfl, -⟩ := hh
          (repeat (first | (refine lex_pure rfl rfl (fun K hK => ?_); go_simp; refine hK _ ?_; clear hK K; try simp (disch := omega) only [IntWalk.i64_in, IntWalk.u8_in, Int.add_sub_cancel, Int.tmod_eq_emod_of_nonneg, Int.tdiv_eq_ediv_of_nonneg]) | (refine lex_load rfl rfl _ (fun m W hJ hF => (by have cc := hcell W hJ; go_simp; rfl)) ?_; try simp (disch := omega) only [IntWalk.i64_in, IntWalk.u8_in, Int.add_sub_cancel, Int.tmod_eq_emod_of_nonneg, Int.tdiv_eq_ediv_of_nonneg]) | (refine lex_sadd rfl rfl rfl rfl rfl (by first | omega | (simp only [ByteArray.size_append]; omega)) ?_; go_simp)))
          refine lex_nil (fun m W hJ hF => ?_)
          have HO := Lib.hid (HX.out.1.below hJ)
          have f7 := HO.out.free (k * 9 + 7)
          have q7 : W.cell? ⟨g, k * 9 + 7, none⟩ = some (.int .i64 f.til) := by
            have q := HO.out.at_ k HKM.out
            rw [HGM.out] at q
            exact q.c7
          clear hF hJ hcell
          obtain ⟨W2, hW2, X2⟩ := HO.out.put k HKM.out { f with st := s1, til := now + wt } 7 (by omega) (.int .i64 ((now : Int) + wt)) (by rw [HGM.out]; rfl)
          rw [List.set_set] at X2
          have hfin := Lib.hid X2
          have HW2 := Lib.hid hW2
          clear X2 hW2 HKM HGM
          go_wp2_with fail
          rw [HW2.out]
          go_ret
          rw [pass_eq (back := _) (flags := flags) (fun h => h.2 N4.out) (s := s1) (by unfold passSt; rw [if_neg (fun h => h.2 N1.out)]; simpa using HX.out.2) HW.out]
          exact ⟨_, rfl, hfin.out.ownS, hfin.out.bl⟩
        · have N1 := Lib.hid n1
          clear n1
          go_upto_region 10 with (fail)
          obtain ⟨y, hy, Y⟩ := HX.out.1.put k HKM1.out { f with st := 3 } 6 (by omega) (.int .i64 3) (by rw [List.getElem_set_self]; rfl)
          rw [List.set_set] at Y
          rw [hy]
          have HY := Lib.hid (And.intro Y trivial)
          clear Y hy q0 q6 f6 b4 b1
          have HKM := Lib.hid (show k < (l.set k { f with st := 3 }).length by rw [List.length_set]; exact hk)
          have HGM := Lib.hid (show ∀ h, (l.set k { f with st := 3 })[k]'h = { f with st := 3 } from fun h => List.getElem_set_self h)
          have hcell : ∀ W, LeB y W → W.cell? ⟨g, k * 9, none⟩ = some (.int .i64 f.proto) ∧ W.cell? ⟨g, k * 9 + 6, none⟩ = some (.int .i64 3) := fun W hW => by
            have q := ((HY.out.1.below hW).at_ k HKM.out)
            rw [HGM.out] at q
            exact ⟨q.c0, q.c6⟩
          obtain ⟨wt, hwt⟩ : ∃ y, waitC f.proto 3 = y := ⟨_, rfl⟩
          have hwl : wt ≤ 30 := by rw [← hwt]; exact waitC_le _ _
          have HW := Lib.hid hwt
          clear hwt
          refine wp_region_lex 12 (by kernel_rfl) (by kernel_rfl) (JB y) LeB (qphiF [(10, .int .i64 wt)]) qphiF_st JB.mono ?_ ?_
          · exact (Below.refl _ _).drew
          simp only [List.take_succ_cons, List.take_zero, List.drop_succ_cons, List.drop_zero, pairs, List.zipIdx_cons, List.zipIdx_nil, List.map_cons, List.map_nil, Nat.zero_add, Nat.reduceAdd]
          (repeat (first | (refine lex_pure rfl rfl (fun K hK => ?_); go_simp; refine hK _ ?_; clear hK K; try simp (disch := omega) only [IntWalk.i64_in, IntWalk.u8_in, Int.add_sub_cancel, Int.tmod_eq_emod_of_nonneg, Int.tdiv_eq_ediv_of_nonneg]) | (refine lex_load rfl rfl _ (fun m W hJ hF => (by have cc := hcell W hJ; go_simp; rfl)) ?_; try simp (disch := omega) only [IntWalk.i64_in, IntWalk.u8_in, Int.add_sub_cancel, Int.tmod_eq_emod_of_nonneg, Int.tdiv_eq_ediv_of_nonneg]) | (refine lex_sadd rfl rfl rfl rfl rfl (by first | omega | (simp only [ByteArray.size_append]; omega)) ?_; go_simp)))
          refine lex_eff' (sp := fun _ v _ => v = .int .i64 wt) rfl rfl (by intro _ _ _ _ h; exact h) (fun m W hJ hF => ?_) (fun v x hh => ?_) rfl
          · refine gives_call Try.call127 ((l09Wait_ok 6 3 W).mono ?_)
            rintro e w' ⟨rfl, rfl⟩
            rw [show waitC 6 3 = wt by rw [← HP.out]; exact HW.out]
            exact ⟨_, rfl, hJ, LeB.of (Below.refl _ _), rfl⟩
          obtain ⟨_, _, -, rfl, -⟩ := hh
          (repeat (first | (refine lex_pure rfl rfl (fun K hK => ?_); go_simp; refine hK _ ?_; clear hK K; try simp (disch := omega) only [IntWalk.i64_in, IntWalk.u8_in, Int.add_sub_cancel, Int.tmod_eq_emod_of_nonneg, Int.tdiv_eq_ediv_of_nonneg]) | (refine lex_load rfl rfl _ (fun m W hJ hF => (by have cc := hcell W hJ; go_simp; rfl)) ?_; try simp (disch := omega) only [IntWalk.i64_in, IntWalk.u8_in, Int.add_sub_cancel, Int.tmod_eq_emod_of_nonneg, Int.tdiv_eq_ediv_of_nonneg]) | (refine lex_sadd rfl rfl rfl rfl rfl (by first | omega | (simp only [ByteArray.size_append]; omega)) ?_; go_simp)))
          refine lex_nil (fun m W hJ hF => ?_)
          have HO := Lib.hid (HY.out.1.below hJ)
          have f7 := HO.out.free (k * 9 + 7)
          have q7 : W.cell? ⟨g, k * 9 + 7, none⟩ = some (.int .i64 f.til) := by
            have q := HO.out.at_ k HKM.out
            rw [HGM.out] at q
            exact q.c7
          clear hF hJ hcell
          obtain ⟨W2, hW2, X2⟩ := HO.out.put k HKM.out { f with st := 3, til := now + wt } 7 (by omega) (.int .i64 ((now : Int) + wt)) (by rw [HGM.out]; rfl)
          rw [List.set_set] at X2
          have hfin := Lib.hid X2
          have HW2 := Lib.hid hW2
          clear X2 hW2 HKM HGM
          go_wp2_with fail
          rw [HW2.out]
          go_ret
          rw [pass_eq (back := _) (flags := flags) (fun h => h.2 N4.out) (s := 3) (by unfold passSt; rw [if_pos ⟨HP.out, by rw [N1.out]; decide⟩]) HW.out]
          exact ⟨_, rfl, hfin.out.ownS, hfin.out.bl⟩
      · have N4 := Lib.hid n4
        clear n4
        go_upto_region 7 with (fail)
        obtain ⟨ad, hA, -⟩ := FlAt.of HK.out.1 k hk
        subst hA
        have htk : (l.take k).length = k := by rw [List.length_take]; omega
        have HT := Lib.hid htk
        have hkcI : (k : Int) ≤ c := by omega
        have hk0I : (0 : Int) ≤ (k : Int) + 1 := by omega
        clear htk q0 q6 f6 b4
        refine wp_region_lex 9 (by kernel_rfl) (by kernel_rfl) (JB x) LeB (psφ w.heap.size (l.take k)) psφ_st JB.mono ?_ ?_
        · exact (Below.refl _ _).drew
        simp only [List.take_succ_cons, List.take_zero, List.drop_succ_cons, List.drop_zero, pairs, List.zipIdx_cons, List.zipIdx_nil, List.map_cons, List.map_nil, Nat.zero_add, Nat.reduceAdd]
        refine lex_eff' (sp := NewNone w.heap.size) rfl rfl (by intro _ _ _ _ h; exact h) (fun m W hJ hF => ?_) (fun v x hh => ?_) rfl
        · have hb : Below W.heap.size W (W.alloc (.cells #[] 73)) := (Below.refl _ _).alloc (Nat.le_refl _) _
          exact gives_value (v := .slice (some ⟨W.heap.size, 0, none⟩) 0 0) (by go_simp) ⟨hJ.step hb, hb, W.heap.size, rfl, (LeB.tr HX.out.1.bl hJ).size, heap_alloc_new _ _⟩
        obtain ⟨_, _, -, ⟨b0, rfl, -, -⟩, -⟩ := hh
        (repeat (refine lex_pure rfl rfl (fun K hK => ?_); go_simp; refine hK _ ?_; clear hK K; try simp (disch := omega) only [IntWalk.i64_in, IntWalk.u8_in, Int.add_sub_cancel, Int.tmod_eq_emod_of_nonneg, Int.tdiv_eq_ediv_of_nonneg]))
        refine lex_eff' (sp := OwnFl w.heap.size (l.take k)) rfl rfl (by intro _ _ _ _ h; exact h) (fun m W hJ hF => ?_) (fun v x hh => ?_) rfl
        · obtain ⟨b', hb', hbB, hbh⟩ := hF 0 (by kernel_rfl) _ _ _ (by simp [upd]; exact ⟨rfl, rfl⟩) rfl
          cases hb'
          obtain ⟨v', w', hrun, hown, hB'⟩ := append_new W w.heap.size b0 hbh hbB (some ad) c (l.take k) (by rw [rowC_take flc_len l k (by omega)]; exact rd_takeN (HK.out.1.below (LeB.tr HX.out.1.bl hJ) (Nat.le_refl _)) (k * 9)) (by rw [HT.out]; omega)
          rw [HT.out] at hrun
          exact gives_append _ _ _ _ rfl rfl rfl hrun ⟨hJ.step hB', hB', hown⟩
        (repeat (refine lex_pure rfl rfl (fun K hK => ?_); go_simp; refine hK _ ?_; clear hK K; try simp (disch := omega) only [IntWalk.i64_in, IntWalk.u8_in, Int.add_sub_cancel, Int.tmod_eq_emod_of_nonneg, Int.tdiv_eq_ediv_of_nonneg]))
        refine lex_nil (fun m W hJ hF => ?_)
        have hown := hF 4 rfl _ _ _ (by simp [upd]; exact ⟨rfl, rfl⟩) rfl
        have L1 := LeB.tr HX.out.1.bl hJ
        have hrd := rd_dropN flc_len (HK.out.1.below L1 (Nat.le_refl _)) hc (k + 1) (by omega)
        obtain ⟨v3, w3, hrun, hown3, hg3⟩ := append_fl W w.heap.size _ (l.take k) hown _ (c - (k + 1)) (l.drop (k + 1)) hrd (by rw [HT.out, List.length_drop]; have := HK.out.2.1; omega) L1.size
        rw [List.length_drop] at hrun
        have hB4 : Below w.heap.size w w3 := L1.grown hg3 L1.size (fun g hg => (hown.lt g hg).1)
        refine wpList_append_run rfl _ _ _ _ rfl rfl rfl hrun ?_
        have e : ∀ b, l.take k ++ l.drop (k + 1) = passC l k f b flags now := fun b => (List.eraseIdx_eq_take_drop_succ l k).symm.trans (if_pos ⟨HP.out, by rw [N4.out]; decide⟩).symm
        have H3 := Lib.hid (And.intro hown3 (And.intro hB4 e))
        clear hrun hown hrd hown3 hB4 hg3 L1 hF hJ e
        go_wp2_with fail
        all_goals
          go_ret
          rw [← H3.out.2.2]
          exact ⟨_, rfl, H3.out.1, H3.out.2.1⟩
    · have hpI : ((f.proto : Int) == 6) = false := by simp; omega
      have HP := Lib.hid hp
      clear hp
      go_upto_region 10 with (fail)
      clear q0 q6 f6
      have HKM := Lib.hid (show k < (l.set k { f with st := s1 }).length by rw [List.length_set]; exact hk)
      have HGM := Lib.hid (show ∀ h, (l.set k { f with st := s1 })[k]'h = { f with st := s1 } from fun h => List.getElem_set_self h)
      have hcell : ∀ W, LeB x W → W.cell? ⟨g, k * 9, none⟩ = some (.int .i64 f.proto) ∧ W.cell? ⟨g, k * 9 + 6, none⟩ = some (.int .i64 s1) := fun W hW => by
        have q := ((HX.out.1.below hW).at_ k HKM.out)
        rw [HGM.out] at q
        exact ⟨q.c0, q.c6⟩
      obtain ⟨wt, hwt⟩ : ∃ y, waitC f.proto s1 = y := ⟨_, rfl⟩
      have hwl : wt ≤ 30 := by rw [← hwt]; exact waitC_le _ _
      have HW := Lib.hid hwt
      clear hwt
      refine wp_region_lex 12 (by kernel_rfl) (by kernel_rfl) (JB x) LeB (qphiF [(10, .int .i64 wt)]) qphiF_st JB.mono ?_ ?_
      · exact (Below.refl _ _).drew
      simp only [List.take_succ_cons, List.take_zero, List.drop_succ_cons, List.drop_zero, pairs, List.zipIdx_cons, List.zipIdx_nil, List.map_cons, List.map_nil, Nat.zero_add, Nat.reduceAdd]
      (repeat (first | (refine lex_pure rfl rfl (fun K hK => ?_); go_simp; refine hK _ ?_; clear hK K; try simp (disch := omega) only [IntWalk.i64_in, IntWalk.u8_in, Int.add_sub_cancel, Int.tmod_eq_emod_of_nonneg, Int.tdiv_eq_ediv_of_nonneg]) | (refine lex_load rfl rfl _ (fun m W hJ hF => (by have cc := hcell W hJ; go_simp; rfl)) ?_; try simp (disch := omega) only [IntWalk.i64_in, IntWalk.u8_in, Int.add_sub_cancel, Int.tmod_eq_emod_of_nonneg, Int.tdiv_eq_ediv_of_nonneg]) | (refine lex_sadd rfl rfl rfl rfl rfl (by first | omega | (simp only [ByteArray.size_append]; omega)) ?_; go_simp)))
      refine lex_eff' (sp := fun _ v _ => v = .int .i64 wt) rfl rfl (by intro _ _ _ _ h; exact h) (fun m W hJ hF => ?_) (fun v x hh => ?_) rfl
      · refine gives_call Try.call127 ((l09Wait_ok f.proto s1 W).mono ?_)
        rintro e w' ⟨rfl, rfl⟩
        rw [HW.out]
        exact ⟨_, rfl, hJ, LeB.of (Below.refl _ _), rfl⟩
      obtain ⟨_, _, -, rfl, -⟩ := hh
      (repeat (first | (refine lex_pure rfl rfl (fun K hK => ?_); go_simp; refine hK _ ?_; clear hK K; try simp (disch := omega) only [IntWalk.i64_in, IntWalk.u8_in, Int.add_sub_cancel, Int.tmod_eq_emod_of_nonneg, Int.tdiv_eq_ediv_of_nonneg]) | (refine lex_load rfl rfl _ (fun m W hJ hF => (by have cc := hcell W hJ; go_simp; rfl)) ?_; try simp (disch := omega) only [IntWalk.i64_in, IntWalk.u8_in, Int.add_sub_cancel, Int.tmod_eq_emod_of_nonneg, Int.tdiv_eq_ediv_of_nonneg]) | (refine lex_sadd rfl rfl rfl rfl rfl (by first | omega | (simp only [ByteArray.size_append]; omega)) ?_; go_simp)))
      refine lex_nil (fun m W hJ hF => ?_)
      have HO := Lib.hid (HX.out.1.below hJ)
      have f7 := HO.out.free (k * 9 + 7)
      have q7 : W.cell? ⟨g, k * 9 + 7, none⟩ = some (.int .i64 f.til) := by
        have q := HO.out.at_ k HKM.out
        rw [HGM.out] at q
        exact q.c7
      clear hF hJ hcell
      obtain ⟨W2, hW2, X2⟩ := HO.out.put k HKM.out { f with st := s1, til := now + wt } 7 (by omega) (.int .i64 ((now : Int) + wt)) (by rw [HGM.out]; rfl)
      rw [List.set_set] at X2
      have hfin := Lib.hid X2
      have HW2 := Lib.hid hW2
      clear X2 hW2 HKM HGM
      go_wp2_with fail
      rw [HW2.out]
      go_ret
      rw [pass_eq (back := _) (flags := flags) (fun h => HP.out h.1) (s := s1) (by unfold passSt; rw [if_neg (fun h => HP.out h.1)]; simpa using HX.out.2) HW.out]
      exact ⟨_, rfl, hfin.out.ownS, hfin.out.bl⟩
end Go.Proofs.Ytdenjmdngmmodaa
