/- The law of flows that are opened. -/
import Derived.Test.YtdenjmdngmmodaaFlQ
namespace Go.Proofs.Ytdenjmdngmmodaa
open Go.RowKit
set_option linter.unusedVariables false
set_option linter.unusedSimpArgs false
set_option maxRecDepth 200000
set_option maxHeartbeats 4000000

theorem openC_OK {l : List Fl} (h : FlsOK l) {f : Fl} (hf : FlOK f) (now : Nat) (hn : now ≤ 100000) : FlsOK (openC l f now).2 := by
  unfold openC
  split
  · rename_i h0
    split
    · exact h
    · rename_i h8
      exact open_OK h hf now hn (by have := h.len; omega) (find_neg.1 h0)
  · exact h
theorem openC_cases (l : List Fl) (f : Fl) (now : Nat) : openC l f now = (9, l) ∨ openC l f now = (7, l) ∨ (noHit l f.proto f.sip f.sport f.dip f.dport ∧ openC l f now = (0, l ++ [openF f now])) := by
  unfold openC
  split
  · rename_i h0
    split
    · exact .inr (.inl rfl)
    · exact .inr (.inr ⟨find_neg.1 h0, rfl⟩)
  · exact .inl rfl
theorem openC_twice {l : List Fl} {f : Fl} (now : Nat) (h : noHit l f.proto f.sip f.sport f.dip f.dport) : openC (l ++ [openF f now]) f now = (9, l ++ [openF f now]) := by
  unfold openC
  rw [find_new now h, if_neg (by omega)]
theorem sameFlows_rd (l : List Fl) (A1 A2 : Option Addr) (c1 c2 : Nat) (hc1 : l.length ≤ c1) (hc2 : l.length ≤ c2) (w : World) (hr1 : Rd w A1 (rowC flc l)) (hr2 : Rd w A2 (rowC flc l)) (hl : l.length ≤ 1000) :
    Calls Try.prog 35 #[.slice A1 l.length c1, .slice A2 l.length c2] w fun e w' => e = .returned (.bool true) ∧ ∃ n, w' = w.drewN n := by
  have hlI : (l.length : Int) ≤ 1000 := by omega
  have hc1I : (l.length : Int) ≤ c1 := by omega
  have hc2I : (l.length : Int) ≤ c2 := by omega
  go_enter Try.func35, Try.ntmps35
  go_wp2_with fail
  go_loopw [5] (fun i wr => ∃ k n : Nat, i = .int .i64 k ∧ k ≤ l.length ∧ wr = w.drewN n) (fun i _ => (l.length - (intOf i).toNat))
  case atStart => exact ⟨0, 0, rfl, Nat.zero_le _, rfl⟩
  case round =>
    obtain ⟨k, n, rfl, hk, rfl⟩ := hrel
    by_cases hlt : k < l.length
    · have hltI : (k : Int) < l.length := by omega
      obtain ⟨ad1, rfl, q1⟩ := FlAt.of hr1 k hlt
      obtain ⟨ad2, rfl, q2⟩ := FlAt.of hr2 k hlt
      obtain ⟨g, hg⟩ : ∃ g, l[k] = g := ⟨_, rfl⟩
      rw [hg] at q1 q2
      clear hg
      obtain ⟨c0, c1', c2', c3, c4, c5, c6, c7, c8⟩ := q1
      obtain ⟨d0, d1, d2, d3, d4, d5, d6, d7, d8⟩ := q2
      go_wp2_with fail
      go_quiet (fail)
      go_wp2_with fail
      go_roundw
      case rel => exact ⟨k + 1, n + nq, by go_num, by omega, rfl⟩
      case measure => simp [intOf]; omega
    · obtain rfl : k = l.length := by omega
      go_wp2_with fail
      go_ret
      exact ⟨rfl, n, rfl⟩
theorem FlowFind_hit (A : Option Addr) (c : Nat) (l : List Fl) (hok : FlsOK l) (hc : l.length ≤ c) (p a ap b bp : Nat) (hp : p < 256) (ha : a < 4294967296) (hap : ap < 65536) (hb : b < 4294967296) (hbp : bp < 65536) (k : Nat) (t : Bool) (hR : findC l p a ap b bp = ((k : Int), t)) (w : World) (hr : Rd w A (rowC flc l)) :
    Calls Try.prog 41 #[.slice A l.length c, .int .i64 p, .int .i64 a, .int .i64 ap, .int .i64 b, .int .i64 bp] w fun e w' => e = .returned (.tuple #[.int .i64 k, .bool t, .int .i64 0]) ∧ LeB w w' :=
  (FlowFind_ok A c l hok hc p a ap b bp hp ha hap hb hbp _ hR w hr).mono fun e w' ⟨h1, h2⟩ => ⟨by rw [h1]; dsimp only; rw [if_neg (by omega)], h2⟩
theorem FlowFind_miss (A : Option Addr) (c : Nat) (l : List Fl) (hok : FlsOK l) (hc : l.length ≤ c) (p a ap b bp : Nat) (hp : p < 256) (ha : a < 4294967296) (hap : ap < 65536) (hb : b < 4294967296) (hbp : bp < 65536) (hR : noHit l p a ap b bp) (w : World) (hr : Rd w A (rowC flc l)) :
    Calls Try.prog 41 #[.slice A l.length c, .int .i64 p, .int .i64 a, .int .i64 ap, .int .i64 b, .int .i64 bp] w fun e w' => e = .returned (.tuple #[.int .i64 0, .bool false, .int .i64 5]) ∧ LeB w w' :=
  (FlowFind_ok A c l hok hc p a ap b bp hp ha hap hb hbp _ (find_none hR) w hr).mono fun e w' ⟨h1, h2⟩ => ⟨by rw [h1]; rfl, h2⟩
/-- What stays from one call to the next. -/
structure FfR (w x : World) (b1 b3 : Nat) (A1 : Option Addr) (l : List Fl) (c1 now : Nat) (f : Fl) (v5 : Value) (M : List Fl) : Prop where
  bl : LeB w x
  ln : x.heap[b1]? = some (.cells #[.slice A1 l.length c1, .int .i64 now] 66 (0, 0))
  fl : x.heap[b3]? = some (.cells f.cells 73 (0, 0))
  rd : Rd x A1 (rowC flc l)
  own : ∃ B, x.ownsRow B 73 9 v5 M.length (rowC flc M)
theorem FfR.below {w x y : World} {b1 b3 : Nat} {A1 : Option Addr} {l : List Fl} {c1 now : Nat} {f : Fl} {v5 : Value} {M : List Fl} (h : FfR w x b1 b3 A1 l c1 now f v5 M) (hB : LeB x y) : FfR w y b1 b3 A1 l c1 now f v5 M := by
  obtain ⟨B, ho⟩ := h.own
  exact ⟨LeB.tr h.bl hB, (hB.block _ (Array.getElem?_eq_some_iff.1 h.ln).1).trans h.ln, (hB.block _ (Array.getElem?_eq_some_iff.1 h.fl).1).trans h.fl, h.rd.below hB (Nat.le_refl _), B, own_belowR ho hB⟩
theorem FfR.row {w x : World} {b1 b3 : Nat} {A1 A5 : Option Addr} {l : List Fl} {c1 c5 now : Nat} {f : Fl} {M : List Fl} (h : FfR w x b1 b3 A1 l c1 now f (.slice A5 M.length c5) M) : Rd x A5 (rowC flc M) := by
  obtain ⟨B, ho⟩ := h.own
  exact Rd.of_own ho
theorem FnFlows_ok (A : Option Addr) (c : Nat) (bs : List UInt8) (A2 : Option Addr) (c2 : Nat) (bs2 : List UInt8) (hc : bs.length ≤ c) (hc2 : bs2.length ≤ c2) (w : World) (hr : Rd w A (bs.map bV)) (hr2 : Rd w A2 (bs2.map bV)) :
    Calls Try.prog 7 #[.slice A bs.length c, .slice A2 bs2.length c2] w fun e w' => e = .returned (.bool true) ∧ Below w.heap.size w w' := by
  by_cases h1 : 1048576 < bs.length
  · have g1 : (1048576 : Int) < bs.length := by omega
    go_enter Try.func7, Try.ntmps7
    go_wp2
    go_ret
    exact ⟨rfl, Below.refl _ _⟩
  have g1 : decide ((1048576 : Int) < bs.length) = false := decide_eq_false (by omega)
  by_cases h2 : 1048576 < bs2.length
  · have g2 : (1048576 : Int) < bs2.length := by omega
    go_enter Try.func7, Try.ntmps7
    go_wp2
    go_ret
    exact ⟨rfl, Below.refl _ _⟩
  have g2 : decide ((1048576 : Int) < bs2.length) = false := decide_eq_false (by omega)
  have hb2 : bs2.length ≤ 1048576 := by omega
  go_enter Try.func7, Try.ntmps7
  go_wp2_with fail
  refine (LanesOf_ok A c bs (by omega) w hr).mono ?_
  rintro e w1 ⟨v, l, now, rfl, hok, hnow, hown, hB1⟩
  obtain ⟨A1, c1, rfl, hc1, hrd, -⟩ := own_slice hown
  have HI := Lib.hid (And.intro hb2 (And.intro hr2 (And.intro hok (And.intro hnow (And.intro hrd (And.intro hB1 (And.intro hc1 hc2)))))))
  clear g1 g2 h1 h2 hr hr2 hok hnow hown hrd hB1 hb2
  go_upto_region 4 with (fail)
  generalize hw0 : World.alloc w1 (.cells #[.slice A1 l.length c1, .int .i64 now] 66) = w2
  have hblk : w2.heap[World.heap w1 |>.size]? = some (.cells #[.slice A1 l.length c1, .int .i64 now] 66 (0, 0)) := by rw [← hw0]; exact heap_alloc_new _ _
  have hlt : (World.heap w1).size < w2.heap.size := (Array.getElem?_eq_some_iff.1 hblk).1
  have hB0 : Below (World.heap w1).size w1 w2 := by rw [← hw0]; exact (Below.refl _ _).alloc (Nat.le_refl _) _
  clear hw0
  have HL := Lib.hid (And.intro hblk (And.intro hlt (And.intro (LeB.tr HI.out.2.2.2.2.2.1 hB0) (HI.out.2.2.2.2.1.below hB0 (Nat.le_refl _)))))
  clear hblk hlt hB0
  go_wp2_with fail
  refine (FlowOf_ok A2 c2 bs2 (by have := HI.out.1; omega) w2 (HI.out.2.1.below HL.out.2.2.1 (Nat.le_refl _))).mono ?_
  rintro e w3 ⟨v, rfl, ⟨f, rfl, hfo, hne⟩, hB3⟩
  have H3 := Lib.hid (And.intro (LeB.tr HL.out.2.2.1 hB3) (And.intro ((hB3.block _ HL.out.2.1).trans HL.out.1) (And.intro (HL.out.2.2.2.below hB3 (Nat.le_refl _)) (And.intro hfo hne))))
  clear hB3 hfo hne
  go_upto_region 5 with (fail)
  generalize hw0 : World.alloc w3 (.cells f.cells 73) = w4
  have hblk : w4.heap[World.heap w3 |>.size]? = some (.cells f.cells 73 (0, 0)) := by rw [← hw0]; exact heap_alloc_new _ _
  have hlt : (World.heap w3).size < w4.heap.size := (Array.getElem?_eq_some_iff.1 hblk).1
  have hB0 : Below (World.heap w3).size w3 w4 := by rw [← hw0]; exact (Below.refl _ _).alloc (Nat.le_refl _) _
  clear hw0
  have H4 := Lib.hid (And.intro (LeB.tr H3.out.1 hB0) (And.intro ((hB0.block _ (Array.getElem?_eq_some_iff.1 H3.out.2.1).1).trans H3.out.2.1) (And.intro (H3.out.2.2.1.below hB0 (Nat.le_refl _)) (And.intro hblk hlt))))
  have d0 : w4.cell? ⟨w1.heap.size, 0, none⟩ = some (.slice A1 l.length c1) := blk_cell H4.out.2.1 0
  have d1 : w4.cell? ⟨w1.heap.size, 1, none⟩ = some (.int .i64 now) := blk_cell H4.out.2.1 1
  have q0 := blk_cell hblk 0
  have q1 := blk_cell hblk 1
  have q2 := blk_cell hblk 2
  have q3 := blk_cell hblk 3
  have q4 := blk_cell hblk 4
  have q5 := blk_cell hblk 5
  have q6 := blk_cell hblk 6
  have q7 := blk_cell hblk 7
  have q8 := blk_cell hblk 8
  simp at q0 q1 q2 q3 q4 q5 q6 q7 q8
  clear hblk hlt hB0
  obtain ⟨r, hR⟩ : ∃ r, openC l f now = r := ⟨_, rfl⟩
  have hRok : FlsOK r.2 := by rw [← hR]; exact openC_OK HI.out.2.2.1 H3.out.2.2.2.1 now (by have := HI.out.2.2.2.1; omega)
  have hRc := openC_cases l f now
  rw [hR] at hRc
  obtain ⟨code, M⟩ := r
  have HR := Lib.hid (And.intro hR (And.intro hRok hRc))
  clear hR hRok hRc
  go_wp2_with fail
  refine (FlowOpen_ok A1 c1 l HI.out.2.2.1 HI.out.2.2.2.2.2.2.1 f H3.out.2.2.2.1 now (by have := HI.out.2.2.2.1; omega) (code, M) HR.out.1 w4 H4.out.2.2.1).mono ?_
  rintro e w5 ⟨v5, rfl, hown5, hB5⟩
  dsimp only at hown5
  dsimp only
  obtain ⟨A5, c5, rfl, hc5, -, -⟩ := own_slice hown5
  have H5 := Lib.hid (And.intro (LeB.tr H4.out.1 hB5) (And.intro ((hB5.block _ (Array.getElem?_eq_some_iff.1 H4.out.2.1).1).trans H4.out.2.1) (And.intro (H4.out.2.2.1.below hB5 (Nat.le_refl _)) (And.intro ((hB5.block _ H4.out.2.2.2.2).trans H4.out.2.2.2.1) (And.intro hown5 hc5)))))
  clear d0 d1 q0 q1 q2 q3 q4 q5 q6 q7 q8 hB5 hown5 hc5
  have d0 : w5.cell? ⟨w1.heap.size, 0, none⟩ = some (.slice A1 l.length c1) := blk_cell H5.out.2.1 0
  have d1 : w5.cell? ⟨w1.heap.size, 1, none⟩ = some (.int .i64 now) := blk_cell H5.out.2.1 1
  have q0 := blk_cell H5.out.2.2.2.1 0
  have q1 := blk_cell H5.out.2.2.2.1 1
  have q2 := blk_cell H5.out.2.2.2.1 2
  have q3 := blk_cell H5.out.2.2.2.1 3
  have q4 := blk_cell H5.out.2.2.2.1 4
  have q5 := blk_cell H5.out.2.2.2.1 5
  have q6 := blk_cell H5.out.2.2.2.1 6
  have q7 := blk_cell H5.out.2.2.2.1 7
  have q8 := blk_cell H5.out.2.2.2.1 8
  simp at q0 q1 q2 q3 q4 q5 q6 q7 q8
  go_wp2_with fail
  refine (sFlowOpen_ok A1 c1 l HI.out.2.2.1 HI.out.2.2.2.2.2.2.1 f H3.out.2.2.2.1 now (by have := HI.out.2.2.2.1; omega) (code, M) HR.out.1 w5 H5.out.2.2.1).mono ?_
  rintro e w6 ⟨v6, rfl, hown6, hB6⟩
  dsimp only at hown6
  dsimp only
  have H6 := Lib.hid (And.intro (LeB.tr H5.out.1 hB6) (And.intro ((hB6.block _ (Array.getElem?_eq_some_iff.1 H5.out.2.1).1).trans H5.out.2.1) (And.intro (H5.out.2.2.1.below hB6 (Nat.le_refl _)) (And.intro ((hB6.block _ (Array.getElem?_eq_some_iff.1 H5.out.2.2.2.1).1).trans H5.out.2.2.2.1) (And.intro (own_belowR H5.out.2.2.2.2.1 hB6) hown6)))))
  clear d0 d1 q0 q1 q2 q3 q4 q5 q6 q7 q8 hB6 hown6
  go_wp2_with fail
  refine (sameFlows_ok M _ v6 _ _ w6 (RL.own H6.out.2.2.2.2.1) (RL.own H6.out.2.2.2.2.2) (by have h : M.length ≤ 8 := HR.out.2.1.len; omega)).mono ?_
  rintro e w8 ⟨rfl, nq, rfl⟩
  go_wp2_with fail
  refine (FlowsOK_true A5 c5 M HR.out.2.1 H5.out.2.2.2.2.2 (w6.drewN nq) (Rd.of_own H6.out.2.2.2.2.1)).mono ?_
  rintro e w9 ⟨rfl, hB9⟩
  have L9 : LeB w6 w9 := LeB.tr (below_drewN (Below.refl _ _) nq) hB9
  have H9 := Lib.hid (And.intro (LeB.tr H6.out.1 L9) (And.intro ((L9.block _ (Array.getElem?_eq_some_iff.1 H6.out.2.1).1).trans H6.out.2.1) (And.intro (H6.out.2.2.1.below L9 (Nat.le_refl _)) (And.intro ((L9.block _ (Array.getElem?_eq_some_iff.1 H6.out.2.2.2.1).1).trans H6.out.2.2.2.1) (own_belowR H6.out.2.2.2.2.1 L9)))))
  clear hB9 L9
  have d0 : w9.cell? ⟨w1.heap.size, 0, none⟩ = some (.slice A1 l.length c1) := blk_cell H9.out.2.1 0
  have d1 : w9.cell? ⟨w1.heap.size, 1, none⟩ = some (.int .i64 now) := blk_cell H9.out.2.1 1
  have q0 := blk_cell H9.out.2.2.2.1 0
  have q1 := blk_cell H9.out.2.2.2.1 1
  have q2 := blk_cell H9.out.2.2.2.1 2
  have q3 := blk_cell H9.out.2.2.2.1 3
  have q4 := blk_cell H9.out.2.2.2.1 4
  have q5 := blk_cell H9.out.2.2.2.1 5
  have q6 := blk_cell H9.out.2.2.2.1 6
  have q7 := blk_cell H9.out.2.2.2.1 7
  have q8 := blk_cell H9.out.2.2.2.1 8
  simp at q0 q1 q2 q3 q4 q5 q6 q7 q8
  go_upto_region 9 with (fail)
  rcases HR.out.2.2 with e | e | ⟨hno, e⟩
  · injection e with e1 e2
    subst e1 e2
    go_wp2_with fail
    refine (sameFlows_rd M A5 A1 c5 c1 H5.out.2.2.2.2.2 HI.out.2.2.2.2.2.2.1 w9 (Rd.of_own H9.out.2.2.2.2) H9.out.2.2.1 (by have h : M.length ≤ 8 := HR.out.2.1.len; omega)).mono ?_
    rintro e w10 ⟨rfl, n2, rfl⟩
    go_wp2_with fail
    go_ret
    exact ⟨rfl, below_drewN H9.out.1 n2⟩
  · injection e with e1 e2
    subst e1 e2
    go_wp2_with fail
    refine (sameFlows_rd M A5 A1 c5 c1 H5.out.2.2.2.2.2 HI.out.2.2.2.2.2.2.1 w9 (Rd.of_own H9.out.2.2.2.2) H9.out.2.2.1 (by have h : M.length ≤ 8 := HR.out.2.1.len; omega)).mono ?_
    rintro e w10 ⟨rfl, n2, rfl⟩
    go_wp2_with fail
    go_ret
    exact ⟨rfl, below_drewN H9.out.1 n2⟩
  · injection e with e1 e2
    subst e1
    have HN := Lib.hid (And.intro hno e2)
    have hFf : FfR w w9 w1.heap.size w3.heap.size A1 l c1 now f (.slice A5 M.length c5) M := ⟨H9.out.1, H9.out.2.1, H9.out.2.2.2.1, H9.out.2.2.1, _, H9.out.2.2.2.2⟩
    have G0 := Lib.hid hFf
    have hfo := H3.out.2.2.2.1
    have HP := Lib.hid (And.intro hfo (And.intro (show FlsOK M from HR.out.2.1) H5.out.2.2.2.2.2))
    have hn22 : (now : Int) ≤ 22 := by have := HI.out.2.2.2.1; omega
    have hM8 : M.length ≤ 8 := HR.out.2.1.len
    clear hno e2 hFf hfo
    go_wp2_with fail
    refine (FlowFind_hit A5 c5 M HP.out.2.1 HP.out.2.2 f.proto f.sip f.sport f.dip f.dport HP.out.1.proto HP.out.1.sip HP.out.1.sport HP.out.1.dip HP.out.1.dport l.length false (by rw [HN.out.2]; exact find_new now HN.out.1) w9 G0.out.row).mono ?_
    rintro e wb ⟨rfl, hB⟩
    have G1 := Lib.hid (G0.out.below hB)
    clear hB
    clear d0 d1 q0 q1 q2 q3 q4 q5 q6 q7 q8
    have d0 : wb.cell? ⟨w1.heap.size, 0, none⟩ = some (.slice A1 l.length c1) := blk_cell G1.out.ln 0
    have d1 : wb.cell? ⟨w1.heap.size, 1, none⟩ = some (.int .i64 now) := blk_cell G1.out.ln 1
    have q0 := blk_cell G1.out.fl 0
    have q1 := blk_cell G1.out.fl 1
    have q2 := blk_cell G1.out.fl 2
    have q3 := blk_cell G1.out.fl 3
    have q4 := blk_cell G1.out.fl 4
    have q5 := blk_cell G1.out.fl 5
    have q6 := blk_cell G1.out.fl 6
    have q7 := blk_cell G1.out.fl 7
    have q8 := blk_cell G1.out.fl 8
    simp at q0 q1 q2 q3 q4 q5 q6 q7 q8
    go_wp2_with fail
    refine (FlowFind_hit A5 c5 M HP.out.2.1 HP.out.2.2 f.proto f.dip f.dport f.sip f.sport HP.out.1.proto HP.out.1.dip HP.out.1.dport HP.out.1.sip HP.out.1.sport l.length true (by rw [HN.out.2]; exact find_turned now HN.out.1 H3.out.2.2.2.2) wb G1.out.row).mono ?_
    rintro e wc ⟨rfl, hB⟩
    have G2 := Lib.hid (G1.out.below hB)
    clear hB
    clear d0 d1 q0 q1 q2 q3 q4 q5 q6 q7 q8
    have d0 : wc.cell? ⟨w1.heap.size, 0, none⟩ = some (.slice A1 l.length c1) := blk_cell G2.out.ln 0
    have d1 : wc.cell? ⟨w1.heap.size, 1, none⟩ = some (.int .i64 now) := blk_cell G2.out.ln 1
    have q0 := blk_cell G2.out.fl 0
    have q1 := blk_cell G2.out.fl 1
    have q2 := blk_cell G2.out.fl 2
    have q3 := blk_cell G2.out.fl 3
    have q4 := blk_cell G2.out.fl 4
    have q5 := blk_cell G2.out.fl 5
    have q6 := blk_cell G2.out.fl 6
    have q7 := blk_cell G2.out.fl 7
    have q8 := blk_cell G2.out.fl 8
    simp at q0 q1 q2 q3 q4 q5 q6 q7 q8
    go_wp2_with fail
    refine (FlowOpen_ok A5 c5 M HP.out.2.1 HP.out.2.2 f HP.out.1 now (by omega) (9, M) (by rw [HN.out.2]; exact openC_twice now HN.out.1) wc G2.out.row).mono ?_
    rintro e wd ⟨v17, rfl, -, hB⟩
    have G3 := Lib.hid (G2.out.below hB)
    clear hB
    clear d0 d1 q0 q1 q2 q3 q4 q5 q6 q7 q8
    have d0 : wd.cell? ⟨w1.heap.size, 0, none⟩ = some (.slice A1 l.length c1) := blk_cell G3.out.ln 0
    have d1 : wd.cell? ⟨w1.heap.size, 1, none⟩ = some (.int .i64 now) := blk_cell G3.out.ln 1
    have q0 := blk_cell G3.out.fl 0
    have q1 := blk_cell G3.out.fl 1
    have q2 := blk_cell G3.out.fl 2
    have q3 := blk_cell G3.out.fl 3
    have q4 := blk_cell G3.out.fl 4
    have q5 := blk_cell G3.out.fl 5
    have q6 := blk_cell G3.out.fl 6
    have q7 := blk_cell G3.out.fl 7
    have q8 := blk_cell G3.out.fl 8
    simp at q0 q1 q2 q3 q4 q5 q6 q7 q8
    go_wp2_with fail
    refine (FlowWait_ok f.proto 1 HP.out.1.proto (by omega) (by omega) wd).mono ?_
    rintro e wd' ⟨rfl, rfl⟩
    obtain ⟨wt, hwt⟩ : ∃ x, waitC f.proto 1 = x := ⟨_, rfl⟩
    have hwl : wt ≤ 30 := by rw [← hwt]; exact waitC_le _ _
    rw [hwt]
    have HW := Lib.hid hwt
    have hwlI : (wt : Int) ≤ 30 := by omega
    clear hwt
    go_wp2_with fail
    refine (FlowsExpire_ok A5 c5 M HP.out.2.1 HP.out.2.2 ((now : Int) + wt) wd G3.out.row).mono ?_
    rintro e we ⟨v21, rfl, hownL, hB⟩
    obtain ⟨AL, cL, rfl, hcL, -, -⟩ := own_slice hownL
    have G4 := Lib.hid (G3.out.below hB)
    obtain ⟨L, hL⟩ : ∃ L, (M.filter fun g => !decide ((g.til : Int) ≤ (now : Int) + wt)) = L := ⟨_, rfl⟩
    rw [hL] at hownL hcL ⊢
    have HL1 := Lib.hid (And.intro hL (And.intro hcL (Rd.of_own hownL)))
    clear hB hL hcL hownL
    clear d0 d1 q0 q1 q2 q3 q4 q5 q6 q7 q8
    have d0 : we.cell? ⟨w1.heap.size, 0, none⟩ = some (.slice A1 l.length c1) := blk_cell G4.out.ln 0
    have d1 : we.cell? ⟨w1.heap.size, 1, none⟩ = some (.int .i64 now) := blk_cell G4.out.ln 1
    have q0 := blk_cell G4.out.fl 0
    have q1 := blk_cell G4.out.fl 1
    have q2 := blk_cell G4.out.fl 2
    have q3 := blk_cell G4.out.fl 3
    have q4 := blk_cell G4.out.fl 4
    have q5 := blk_cell G4.out.fl 5
    have q6 := blk_cell G4.out.fl 6
    have q7 := blk_cell G4.out.fl 7
    have q8 := blk_cell G4.out.fl 8
    simp at q0 q1 q2 q3 q4 q5 q6 q7 q8
    go_wp2_with fail
    refine (FlowsExpire_ok A5 c5 M HP.out.2.1 HP.out.2.2 ((now : Int) + wt - 1) we G4.out.row).mono ?_
    rintro e wf ⟨v23, rfl, hownE, hB⟩
    obtain ⟨AE, cE, rfl, hcE, -, -⟩ := own_slice hownE
    have G5 := Lib.hid (G4.out.below hB)
    obtain ⟨E, hE⟩ : ∃ E, (M.filter fun g => !decide ((g.til : Int) ≤ (now : Int) + wt - 1)) = E := ⟨_, rfl⟩
    rw [hE] at hownE hcE ⊢
    have HE1 := Lib.hid (And.intro hE (And.intro hcE (And.intro (Rd.of_own hownE) (HL1.out.2.2.below hB (Nat.le_refl _)))))
    clear hB hE hcE hownE
    clear d0 d1 q0 q1 q2 q3 q4 q5 q6 q7 q8
    have d0 : wf.cell? ⟨w1.heap.size, 0, none⟩ = some (.slice A1 l.length c1) := blk_cell G5.out.ln 0
    have d1 : wf.cell? ⟨w1.heap.size, 1, none⟩ = some (.int .i64 now) := blk_cell G5.out.ln 1
    have q0 := blk_cell G5.out.fl 0
    have q1 := blk_cell G5.out.fl 1
    have q2 := blk_cell G5.out.fl 2
    have q3 := blk_cell G5.out.fl 3
    have q4 := blk_cell G5.out.fl 4
    have q5 := blk_cell G5.out.fl 5
    have q6 := blk_cell G5.out.fl 6
    have q7 := blk_cell G5.out.fl 7
    have q8 := blk_cell G5.out.fl 8
    simp at q0 q1 q2 q3 q4 q5 q6 q7 q8
    go_wp2_with fail
    refine (FlowsDrop_ok A5 c5 M HP.out.2.1 HP.out.2.2 f.own HP.out.1.own wf G5.out.row).mono ?_
    rintro e wg ⟨v25, rfl, hownG, hB⟩
    obtain ⟨AG, cG, rfl, hcG, -, -⟩ := own_slice hownG
    have G6 := Lib.hid (G5.out.below hB)
    obtain ⟨Gn, hG⟩ : ∃ E, (M.filter fun g => !((g.own : Int) == (f.own : Int))) = E := ⟨_, rfl⟩
    rw [hG] at hownG hcG ⊢
    have HG1 := Lib.hid (And.intro hG (And.intro hcG (And.intro (Rd.of_own hownG) (And.intro (HE1.out.2.2.1.below hB (Nat.le_refl _)) (HE1.out.2.2.2.below hB (Nat.le_refl _))))))
    clear hB hG hcG hownG
    clear d0 d1 q0 q1 q2 q3 q4 q5 q6 q7 q8
    have d0 : wg.cell? ⟨w1.heap.size, 0, none⟩ = some (.slice A1 l.length c1) := blk_cell G6.out.ln 0
    have d1 : wg.cell? ⟨w1.heap.size, 1, none⟩ = some (.int .i64 now) := blk_cell G6.out.ln 1
    have q0 := blk_cell G6.out.fl 0
    have q1 := blk_cell G6.out.fl 1
    have q2 := blk_cell G6.out.fl 2
    have q3 := blk_cell G6.out.fl 3
    have q4 := blk_cell G6.out.fl 4
    have q5 := blk_cell G6.out.fl 5
    have q6 := blk_cell G6.out.fl 6
    have q7 := blk_cell G6.out.fl 7
    have q8 := blk_cell G6.out.fl 8
    simp at q0 q1 q2 q3 q4 q5 q6 q7 q8
    go_upto_region 20 with (fail)
    have HLok : FlsOK L := by rw [← HL1.out.1]; exact filter_OK HP.out.2.1 _
    have HEok : FlsOK E := by rw [← HE1.out.1]; exact filter_OK HP.out.2.1 _
    have HO := Lib.hid (And.intro HLok HEok)
    clear HLok HEok
    go_wp2_with fail
    refine (FlowFind_miss AL cL L HO.out.1 HL1.out.2.1 f.proto f.sip f.sport f.dip f.dport HP.out.1.proto HP.out.1.sip HP.out.1.sport HP.out.1.dip HP.out.1.dport (by rw [← HL1.out.1, HN.out.2, ← HW.out]; exact left_none now HN.out.1) wg HG1.out.2.2.2.2).mono ?_
    rintro e wh ⟨rfl, hB⟩
    have G7 := Lib.hid (G6.out.below hB)
    have HG2 := Lib.hid (And.intro (HG1.out.2.2.1.below hB (Nat.le_refl _)) (HG1.out.2.2.2.1.below hB (Nat.le_refl _)))
    clear hB
    clear d0 d1 q0 q1 q2 q3 q4 q5 q6 q7 q8
    have d0 : wh.cell? ⟨w1.heap.size, 0, none⟩ = some (.slice A1 l.length c1) := blk_cell G7.out.ln 0
    have d1 : wh.cell? ⟨w1.heap.size, 1, none⟩ = some (.int .i64 now) := blk_cell G7.out.ln 1
    have q0 := blk_cell G7.out.fl 0
    have q1 := blk_cell G7.out.fl 1
    have q2 := blk_cell G7.out.fl 2
    have q3 := blk_cell G7.out.fl 3
    have q4 := blk_cell G7.out.fl 4
    have q5 := blk_cell G7.out.fl 5
    have q6 := blk_cell G7.out.fl 6
    have q7 := blk_cell G7.out.fl 7
    have q8 := blk_cell G7.out.fl 8
    simp at q0 q1 q2 q3 q4 q5 q6 q7 q8
    go_wp2_with fail
    obtain ⟨k5, hk5⟩ : ∃ k : Nat, findC E f.proto f.sip f.sport f.dip f.dport = ((k : Int), false) := by rw [← HE1.out.1, HN.out.2, ← HW.out]; exact early_new now HN.out.1
    have HK5 := Lib.hid hk5
    clear hk5
    refine (FlowFind_hit AE cE E HO.out.2 HE1.out.2.1 f.proto f.sip f.sport f.dip f.dport HP.out.1.proto HP.out.1.sip HP.out.1.sport HP.out.1.dip HP.out.1.dport k5 false HK5.out wh HG2.out.2).mono ?_
    rintro e wi ⟨rfl, hB⟩
    have G8 := Lib.hid (G7.out.below hB)
    have HG3 := Lib.hid (HG2.out.1.below hB (Nat.le_refl _))
    clear hB
    clear d0 d1 q0 q1 q2 q3 q4 q5 q6 q7 q8
    have hGlen : Gn.length ≤ 8 := by rw [← HG1.out.1]; have := List.length_filter_le (fun g : Fl => !((g.own : Int) == (f.own : Int))) M; omega
    have hGI : (Gn.length : Int) ≤ 8 := by omega
    have hGcI : (Gn.length : Int) ≤ cG := by have := HG1.out.2.1; omega
    clear hGlen
    go_wp2_with fail
    go_loopw [33] (fun i wr => ∃ k n : Nat, i = .int .i64 k ∧ k ≤ Gn.length ∧ wr = wi.drewN n) (fun i _ => (Gn.length - (intOf i).toNat))
    case atStart => exact ⟨0, 0, rfl, Nat.zero_le _, rfl⟩
    case round =>
      obtain ⟨k, n, rfl, hk, rfl⟩ := hrel
      by_cases hlt : k < Gn.length
      · have hltI : (k : Int) < Gn.length := by omega
        obtain ⟨ad1, rfl, q1⟩ := FlAt.of HG3.out k hlt
        obtain ⟨g, hg⟩ : ∃ g, Gn[k] = g := ⟨_, rfl⟩
        have hgo : ((g.own : Int) == (f.own : Int)) = false := by
          have h : g ∈ Gn := by rw [← hg]; exact List.getElem_mem hlt
          rw [← HG1.out.1] at h
          have h2 := (List.mem_filter.1 h).2
          simpa using h2
        have hgo2 : ¬ g.own = f.own := by simp at hgo; omega
        rw [hg] at q1
        clear hg
        have p8 : wi.cell? ⟨w3.heap.size, 8, none⟩ = some (.int .i64 f.own) := blk_cell G8.out.fl 8
        have c8 := q1.c8
        clear q1
        go_wp2_with fail
        go_quiet (fail)
        go_wp2_with fail
        go_roundw
        case rel => exact ⟨k + 1, n + nq, by go_num, by omega, rfl⟩
        case measure => simp [intOf]; omega
      · obtain rfl : k = Gn.length := by omega
        go_wp2_with fail
        go_ret
        exact ⟨rfl, below_drewN G8.out.bl n⟩
end Go.Proofs.Ytdenjmdngmmodaa
