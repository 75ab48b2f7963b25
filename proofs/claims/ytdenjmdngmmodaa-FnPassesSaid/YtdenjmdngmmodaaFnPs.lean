/- The law of flows that let pass. -/
import Derived.Test.YtdenjmdngmmodaaFlK
namespace Go.Proofs.Ytdenjmdngmmodaa
open Go.RowKit
set_option linter.unusedVariables false
set_option linter.unusedSimpArgs false
set_option maxRecDepth 200000
set_option maxHeartbeats 4000000

theorem passSt_back (f : Fl) (flags : Nat) : passSt f true flags ≠ 1 := by
  unfold passSt
  split
  · omega
  · split
    · omega
    · rename_i h; intro e; exact h ⟨e, rfl⟩
theorem FnPasses_ok (A : Option Addr) (c : Nat) (bs : List UInt8) (A2 : Option Addr) (c2 : Nat) (bs2 : List UInt8) (hc : bs.length ≤ c) (hc2 : bs2.length ≤ c2) (w : World) (hr : Rd w A (bs.map bV)) (hr2 : Rd w A2 (bs2.map bV)) :
    Calls Try.prog 6 #[.slice A bs.length c, .slice A2 bs2.length c2] w fun e w' => e = .returned (.bool true) ∧ Below w.heap.size w w' := by
  by_cases h1 : 1048576 < bs.length
  · have g1 : (1048576 : Int) < bs.length := by omega
    go_enter Try.func6, Try.ntmps6
    go_wp2
    go_ret
    exact ⟨rfl, Below.refl _ _⟩
  have g1 : decide ((1048576 : Int) < bs.length) = false := decide_eq_false (by omega)
  by_cases h2 : 1048576 < bs2.length
  · have g2 : (1048576 : Int) < bs2.length := by omega
    go_enter Try.func6, Try.ntmps6
    go_wp2
    go_ret
    exact ⟨rfl, Below.refl _ _⟩
  have g2 : decide ((1048576 : Int) < bs2.length) = false := decide_eq_false (by omega)
  have hb2 : bs2.length ≤ 1048576 := by omega
  go_enter Try.func6, Try.ntmps6
  go_wp2_with fail
  refine (LanesOf_ok A c bs (by omega) w hr).mono ?_
  rintro e w1 ⟨v, l, now, rfl, hok, hnow, hown, hB1⟩
  obtain ⟨A1, c1, rfl, hc1, hrd, -⟩ := own_slice hown
  have HI := Lib.hid (And.intro hb2 (And.intro hr2 (And.intro hok (And.intro hnow (And.intro hrd (And.intro hB1 (And.intro hc1 hc2)))))))
  clear g1 g2 h1 h2 hr hr2 hok hnow hown hrd hB1 hb2
  go_upto_region 4 with (fail)
  generalize hw0 : World.alloc w1 (.cells #[.slice A1 l.length c1, .int .i64 now] 66) = w2
  have hblk : w2.heap[World.heap w1 |>.size]? = some (.cells #[.slice A1 l.length c1, .int .i64 now] 66 (0, 0)) := by rw [← hw0]; exact heap_alloc_new _ _
  have hlt : (World.heap w1).size < w2.heap.size := (Array.getElem?_eq_some_iff.1 hblk).1
  have hB0 : Below (World.heap w1).size w1 w2 := by rw [← hw0]; exact (Below.refl _ _).alloc (Nat.le_refl _) _
  clear hw0
  have HL := Lib.hid (And.intro hblk (And.intro hlt (And.intro (LeB.tr HI.out.2.2.2.2.2.1 hB0) (HI.out.2.2.2.2.1.below hB0 (Nat.le_refl _)))))
  have d0 : w2.cell? ⟨w1.heap.size, 0, none⟩ = some (.slice A1 l.length c1) := blk_cell hblk 0
  have d1 : w2.cell? ⟨w1.heap.size, 1, none⟩ = some (.int .i64 now) := blk_cell hblk 1
  clear hblk hlt hB0
  by_cases hl0 : l.length = 0
  · obtain rfl := List.length_eq_zero_iff.1 hl0
    clear hl0 hc1 hc hc2
    go_wp2_with fail
    refine (FlowPass_none A1 c1 now w2 HL.out.2.2.2).mono ?_
    rintro e w3 ⟨rfl, hB3⟩
    have H3 := Lib.hid (LeB.tr HL.out.2.2.1 hB3)
    clear d0 d1 hB3
    go_wp2_with fail
    go_ret
    exact ⟨rfl, H3.out⟩
  · have hl8 : l.length ≤ 8 := HI.out.2.2.1.len
    have hl0I : ((l.length : Int) == 0) = false := by simp only [beq_eq_false_iff_ne]; omega
    go_wp2_with fail
    have HC2 := Lib.hid (And.intro hc2 (And.intro hl8 hl0))
    refine (at_ok2 A2 c2 bs2 (by have := HI.out.1; omega) hc2 0 l.length (by omega) (by omega) w2 (HI.out.2.1.below HL.out.2.2.1 (Nat.le_refl _))).mono ?_
    rintro e w3 ⟨k, rfl, hk, hB3⟩
    have hkl : k < l.length := by omega
    have hb3 := fun {b : Nat} {o : Obj} (h : w2.heap[b]? = some o) => (hB3.block b (Array.getElem?_eq_some_iff.1 h).1).trans h
    have H3 := Lib.hid (And.intro (LeB.tr HL.out.2.2.1 hB3) (And.intro (hb3 HL.out.1) (And.intro hkl (HL.out.2.2.2.below hB3 (Nat.le_refl _)))))
    clear d0 d1 hB3 hb3 hk hl0 hl0I hc hc1 hc2 hl8
    go_wp2_with fail
    refine (at_ok2 A2 c2 bs2 (by have := HI.out.1; omega) HC2.out.1 1 2 (by omega) (by omega) w3 (HI.out.2.1.below H3.out.1 (Nat.le_refl _))).mono ?_
    rintro e w4 ⟨rb, rfl, hrb, hB4⟩
    have hb4 := (hB4.block _ (Array.getElem?_eq_some_iff.1 H3.out.2.1).1).trans H3.out.2.1
    have H4 := Lib.hid (And.intro (LeB.tr H3.out.1 hB4) (And.intro hb4 (H3.out.2.2.2.below hB4 (Nat.le_refl _))))
    clear hB4 hb4 hrb
    go_wp2_with fail
    refine (at_ok2 A2 c2 bs2 (by have := HI.out.1; omega) HC2.out.1 2 32 (by omega) (by omega) w4 (HI.out.2.1.below H4.out.1 (Nat.le_refl _))).mono ?_
    rintro e w5 ⟨flags, rfl, hfl, hB5⟩
    have hflags : flags < 32 := by omega
    have hb5 := (hB5.block _ (Array.getElem?_eq_some_iff.1 H4.out.2.1).1).trans H4.out.2.1
    have H5 := Lib.hid (And.intro (LeB.tr H4.out.1 hB5) (And.intro hb5 (And.intro hflags (And.intro (bits_and4 flags hflags) (And.intro (bits_and1 flags hflags) (H4.out.2.2.below hB5 (Nat.le_refl _)))))))
    clear hB5 hb5 hflags hfl
    obtain ⟨back, hback⟩ : ∃ b, ((rb : Int) == 1) = b := ⟨_, rfl⟩
    rw [hback]
    clear hback
    have d0 : w5.cell? ⟨w1.heap.size, 0, none⟩ = some (.slice A1 l.length c1) := blk_cell H5.out.2.1 0
    have d1 : w5.cell? ⟨w1.heap.size, 1, none⟩ = some (.int .i64 now) := blk_cell H5.out.2.1 1
    go_wp2_with fail
    obtain ⟨f, hf⟩ : ∃ f, l[k]'H3.out.2.2.1 = f := ⟨_, rfl⟩
    obtain ⟨L, hL⟩ : ∃ L, passC l k f back flags now = L := ⟨_, rfl⟩
    have hLok : FlsOK L := by rw [← hL, ← hf]; exact pass_OK HI.out.2.2.1 k H3.out.2.2.1 back flags now (by have := HI.out.2.2.2.1; omega)
    have HF := Lib.hid (And.intro hf (And.intro hL hLok))
    clear hf hL hLok
    refine (FlowPass_ok A1 c1 l HI.out.2.2.1 HI.out.2.2.2.2.2.2.1 k H3.out.2.2.1 back flags now H5.out.2.2.1 (by have := HI.out.2.2.2.1; omega) f HF.out.1 w5 H5.out.2.2.2.2.2).mono ?_
    rw [HF.out.2.1]
    rintro e w6 ⟨v6, rfl, hown6, hB6⟩
    obtain ⟨A6, c6, rfl, hc6, -, -⟩ := own_slice hown6
    have hb6 := (hB6.block _ (Array.getElem?_eq_some_iff.1 H5.out.2.1).1).trans H5.out.2.1
    have H6 := Lib.hid (And.intro (LeB.tr H5.out.1 hB6) (And.intro hb6 (And.intro (H5.out.2.2.2.2.2.below hB6 (Nat.le_refl _)) (And.intro hown6 hc6))))
    clear d0 d1 hB6 hb6 hown6 hc6
    have d0 : w6.cell? ⟨w1.heap.size, 0, none⟩ = some (.slice A1 l.length c1) := blk_cell H6.out.2.1 0
    have d1 : w6.cell? ⟨w1.heap.size, 1, none⟩ = some (.int .i64 now) := blk_cell H6.out.2.1 1
    go_wp2_with fail
    refine (sFlowPass_ok A1 c1 l HI.out.2.2.1 HI.out.2.2.2.2.2.2.1 k H3.out.2.2.1 back flags now H5.out.2.2.1 (by have := HI.out.2.2.2.1; omega) f HF.out.1 w6 H6.out.2.2.1).mono ?_
    rw [HF.out.2.1]
    rintro e w7 ⟨v7, rfl, hown7, hB7⟩
    have hb7 := (hB7.block _ (Array.getElem?_eq_some_iff.1 H6.out.2.1).1).trans H6.out.2.1
    have H7 := Lib.hid (And.intro (LeB.tr H6.out.1 hB7) (And.intro hb7 (And.intro (H6.out.2.2.1.below hB7 (Nat.le_refl _)) (And.intro (own_belowR H6.out.2.2.2.1 hB7) hown7))))
    clear d0 d1 hB7 hb7 hown7
    go_wp2_with fail
    refine (sameFlows_ok L _ v7 _ _ w7 (RL.own H7.out.2.2.2.1) (RL.own H7.out.2.2.2.2) (by have := HF.out.2.2.len; omega)).mono ?_
    rintro e w8 ⟨rfl, nq, rfl⟩
    go_wp2_with fail
    refine (FlowsOK_true A6 c6 L HF.out.2.2 H6.out.2.2.2.2 (w7.drewN nq) (Rd.of_own H7.out.2.2.2.1)).mono ?_
    rintro e w9 ⟨rfl, hB9⟩
    have L9 : LeB w7 w9 := LeB.tr (below_drewN (Below.refl _ _) nq) hB9
    have hb9 := (L9.block _ (Array.getElem?_eq_some_iff.1 H7.out.2.1).1).trans H7.out.2.1
    have H9 := Lib.hid (And.intro (LeB.tr H7.out.1 L9) (And.intro hb9 (And.intro (H7.out.2.2.1.below L9 (Nat.le_refl _)) ((Rd.of_own H7.out.2.2.2.1).below L9 (Nat.le_refl _)))))
    clear hB9 L9 hb9
    have d0 : w9.cell? ⟨w1.heap.size, 0, none⟩ = some (.slice A1 l.length c1) := blk_cell H9.out.2.1 0
    have d1 : w9.cell? ⟨w1.heap.size, 1, none⟩ = some (.int .i64 now) := blk_cell H9.out.2.1 1
    obtain ⟨ad, hA, q⟩ := FlAt.of H9.out.2.2.1 k H3.out.2.2.1
    subst hA
    rw [HF.out.1] at q
    have q0 := q.c0
    clear q
    have hkI : (k : Int) < l.length := by have := H3.out.2.2.1; omega
    have hlcI : (l.length : Int) ≤ c1 := by have := HI.out.2.2.2.2.2.2.1; omega
    go_upto_region 14 with (fail)
    obtain ⟨s, hs⟩ : ∃ s, passSt f back flags = s := ⟨_, rfl⟩
    have HS := Lib.hid hs
    have hsb : back = false ∨ (back = true ∧ ((s : Int) == 1) = false ∧ ¬ s = 1 ∧ ¬ (s : Int) = 1) := by
      cases back
      · exact .inl rfl
      · have h := passSt_back f flags
        rw [hs] at h
        exact .inr ⟨rfl, by simp only [beq_eq_false_iff_ne]; omega, h, by omega⟩
    clear hs
    by_cases hp : f.proto = 6
    · have hpI : (f.proto : Int) = 6 := by omega
      have HP := Lib.hid hp
      clear hp
      rcases H5.out.2.2.2.1 with ⟨b4, n4⟩ | ⟨b4, n4⟩
      · have HNE := Lib.hid (show ¬ (f.proto = 6 ∧ Nat.land flags 4 ≠ 0) from fun h => h.2 n4)
        clear n4
        rcases H5.out.2.2.2.2.1 with ⟨b1, n1⟩ | ⟨b1, n1⟩
        · clear n1
          rcases hsb with rfl | ⟨rfl, hs1, hs1a, hs1b⟩
          all_goals
            go_upto_region 17 with (fail)
            clear q0 d0 d1 hpI
            obtain ⟨wt, hwt⟩ : ∃ y, waitC f.proto s = y := ⟨_, rfl⟩
            have hL := HF.out.2.1.symm.trans (pass_eq (now := now) HNE.out HS.out hwt)
            have hkL : k < L.length := by rw [hL, List.length_set]; exact H3.out.2.2.1
            have hLk : L[k]'hkL = { f with st := s, til := now + wt } := by
              have h : ∀ (M : List Fl) (e : L = M) (h : k < M.length), L[k]'hkL = M[k] := fun M e h => by subst e; rfl
              rw [h _ hL (by rw [List.length_set]; exact H3.out.2.2.1), List.getElem_set_self]
            obtain ⟨ad6, hA6, q6⟩ := FlAt.of H9.out.2.2.2 k hkL
            subst hA6
            rw [hLk] at q6
            obtain ⟨x, hx⟩ : ∃ x, ({ f with st := s, til := now + wt } : Fl) = x := ⟨_, rfl⟩
            have hLI : ((L.length : Int) == (l.length : Int)) = true := by rw [hL, List.length_set]; exact beq_self_eq_true _
            have hkLI : (k : Int) < L.length := by omega
            have hLcI : (L.length : Int) ≤ c6 := by have := H6.out.2.2.2.2; omega
            have hfo := HI.out.2.2.1.ok f (by rw [← HF.out.1]; exact List.getElem_mem _)
            have hs13 : 1 ≤ s ∧ s ≤ 3 := by first | decide | (rw [← HS.out]; exact ⟨(passF_OK hfo _ flags now (by have := HI.out.2.2.2.1; omega)).st1, (passF_OK hfo _ flags now (by have := HI.out.2.2.2.1; omega)).st3⟩)
            have hwl : wt ≤ 30 := by rw [← hwt]; exact waitC_le _ _
            have hnl : now ≤ 22 := HI.out.2.2.2.1
            have HW := Lib.hid (And.intro hwt (And.intro hfo hs13))
            clear hwt hL hkL hLk hfo hs13 hx
            obtain ⟨c0, c1', c2', c3, c4, c5, c6', c7, c8⟩ := q6
            go_upto_region 18 with (fail)
            clear c0 c1' c2' c3 c4 c5 c6' c7 c8
            generalize hw0 : World.alloc w9 (.cells #[.int .i64 f.proto, .string f.mac, .int .i64 f.sip, .int .i64 f.sport, .int .i64 f.dip, .int .i64 f.dport, .int .i64 s, .int .i64 ((now : Int) + wt), .int .i64 f.own] 73) = w10
            have hblk : w10.heap[World.heap w9 |>.size]? = some (.cells #[.int .i64 f.proto, .string f.mac, .int .i64 f.sip, .int .i64 f.sport, .int .i64 f.dip, .int .i64 f.dport, .int .i64 s, .int .i64 ((now : Int) + wt), .int .i64 f.own] 73 (0, 0)) := by rw [← hw0]; exact heap_alloc_new _ _
            have hlt : (World.heap w9).size < w10.heap.size := (Array.getElem?_eq_some_iff.1 hblk).1
            have hB0 : Below (World.heap w9).size w9 w10 := by rw [← hw0]; exact (Below.refl _ _).alloc (Nat.le_refl _) _
            clear hw0
            have H10 := Lib.hid (And.intro (LeB.tr H9.out.1 hB0) ((hB0.block _ (Array.getElem?_eq_some_iff.1 H9.out.2.1).1).trans H9.out.2.1))
            have p0 := blk_cell hblk 0
            have p1 := blk_cell hblk 1
            have p2 := blk_cell hblk 2
            have p3 := blk_cell hblk 3
            have p4 := blk_cell hblk 4
            have p5 := blk_cell hblk 5
            have p6 := blk_cell hblk 6
            have p7 := blk_cell hblk 7
            have p8 := blk_cell hblk 8
            simp at p0 p1 p2 p3 p4 p5 p6 p7 p8
            have d0 : w10.cell? ⟨w1.heap.size, 0, none⟩ = some (.slice (some ad) l.length c1) := blk_cell H10.out.2 0
            have d1 : w10.cell? ⟨w1.heap.size, 1, none⟩ = some (.int .i64 now) := blk_cell H10.out.2 1
            clear hblk hlt hB0
            go_wp2_with fail
            refine (FlowWait_ok f.proto s HW.out.2.1.proto HW.out.2.2.1 HW.out.2.2.2 w10).mono ?_
            rintro e w11 ⟨rfl, rfl⟩
            rw [HW.out.1]
            go_wp2_with fail
            go_ret
            first | exact ⟨rfl, H10.out.1⟩ | (refine ⟨?_, H10.out.1⟩; show Ending.returned (Value.bool ((s : Int) != 1)) = _; rw [show ((s : Int) != 1) = true from by simp only [bne, hs1]; rfl])
        · have hs3 : s = 3 := by rw [← HS.out]; unfold passSt; rw [if_pos ⟨HP.out, by rw [n1]; decide⟩]
          subst hs3
          clear n1
          rcases hsb with rfl | ⟨rfl, -⟩
          all_goals
            go_upto_region 17 with (fail)
            clear q0 d0 d1 hpI
            obtain ⟨wt, hwt⟩ : ∃ y, waitC f.proto 3 = y := ⟨_, rfl⟩
            have hL := HF.out.2.1.symm.trans (pass_eq (now := now) HNE.out HS.out hwt)
            have hkL : k < L.length := by rw [hL, List.length_set]; exact H3.out.2.2.1
            have hLk : L[k]'hkL = { f with st := 3, til := now + wt } := by
              have h : ∀ (M : List Fl) (e : L = M) (h : k < M.length), L[k]'hkL = M[k] := fun M e h => by subst e; rfl
              rw [h _ hL (by rw [List.length_set]; exact H3.out.2.2.1), List.getElem_set_self]
            obtain ⟨ad6, hA6, q6⟩ := FlAt.of H9.out.2.2.2 k hkL
            subst hA6
            rw [hLk] at q6
            obtain ⟨x, hx⟩ : ∃ x, ({ f with st := 3, til := now + wt } : Fl) = x := ⟨_, rfl⟩
            have hLI : ((L.length : Int) == (l.length : Int)) = true := by rw [hL, List.length_set]; exact beq_self_eq_true _
            have hkLI : (k : Int) < L.length := by omega
            have hLcI : (L.length : Int) ≤ c6 := by have := H6.out.2.2.2.2; omega
            have hfo := HI.out.2.2.1.ok f (by rw [← HF.out.1]; exact List.getElem_mem _)
            have hs13 : 1 ≤ 3 ∧ 3 ≤ 3 := by first | decide | (rw [← HS.out]; exact ⟨(passF_OK hfo _ flags now (by have := HI.out.2.2.2.1; omega)).st1, (passF_OK hfo _ flags now (by have := HI.out.2.2.2.1; omega)).st3⟩)
            have hwl : wt ≤ 30 := by rw [← hwt]; exact waitC_le _ _
            have hnl : now ≤ 22 := HI.out.2.2.2.1
            have HW := Lib.hid (And.intro hwt (And.intro hfo hs13))
            clear hwt hL hkL hLk hfo hs13 hx
            obtain ⟨c0, c1', c2', c3, c4, c5, c6', c7, c8⟩ := q6
            go_upto_region 18 with (fail)
            clear c0 c1' c2' c3 c4 c5 c6' c7 c8
            generalize hw0 : World.alloc w9 (.cells #[.int .i64 f.proto, .string f.mac, .int .i64 f.sip, .int .i64 f.sport, .int .i64 f.dip, .int .i64 f.dport, .int .i64 3, .int .i64 ((now : Int) + wt), .int .i64 f.own] 73) = w10
            have hblk : w10.heap[World.heap w9 |>.size]? = some (.cells #[.int .i64 f.proto, .string f.mac, .int .i64 f.sip, .int .i64 f.sport, .int .i64 f.dip, .int .i64 f.dport, .int .i64 3, .int .i64 ((now : Int) + wt), .int .i64 f.own] 73 (0, 0)) := by rw [← hw0]; exact heap_alloc_new _ _
            have hlt : (World.heap w9).size < w10.heap.size := (Array.getElem?_eq_some_iff.1 hblk).1
            have hB0 : Below (World.heap w9).size w9 w10 := by rw [← hw0]; exact (Below.refl _ _).alloc (Nat.le_refl _) _
            clear hw0
            have H10 := Lib.hid (And.intro (LeB.tr H9.out.1 hB0) ((hB0.block _ (Array.getElem?_eq_some_iff.1 H9.out.2.1).1).trans H9.out.2.1))
            have p0 := blk_cell hblk 0
            have p1 := blk_cell hblk 1
            have p2 := blk_cell hblk 2
            have p3 := blk_cell hblk 3
            have p4 := blk_cell hblk 4
            have p5 := blk_cell hblk 5
            have p6 := blk_cell hblk 6
            have p7 := blk_cell hblk 7
            have p8 := blk_cell hblk 8
            simp at p0 p1 p2 p3 p4 p5 p6 p7 p8
            have d0 : w10.cell? ⟨w1.heap.size, 0, none⟩ = some (.slice (some ad) l.length c1) := blk_cell H10.out.2 0
            have d1 : w10.cell? ⟨w1.heap.size, 1, none⟩ = some (.int .i64 now) := blk_cell H10.out.2 1
            clear hblk hlt hB0
            go_wp2_with fail
            refine (FlowWait_ok f.proto 3 HW.out.2.1.proto HW.out.2.2.1 HW.out.2.2.2 w10).mono ?_
            rintro e w11 ⟨rfl, rfl⟩
            rw [HW.out.1]
            go_wp2_with fail
            go_ret
            first | exact ⟨rfl, H10.out.1⟩ | (refine ⟨?_, H10.out.1⟩; show Ending.returned (Value.bool ((s : Int) != 1)) = _; rw [show ((s : Int) != 1) = true from by simp only [bne, hs1]; rfl])
      · have N4 := Lib.hid n4
        clear n4
        have hLl : L.length = l.length - 1 := by rw [← HF.out.2.1]; unfold passC; rw [if_pos ⟨HP.out, by rw [N4.out]; decide⟩, List.length_eraseIdx, if_pos H3.out.2.2.1]
        have hLI : (L.length : Int) = (l.length : Int) - 1 := by have := H3.out.2.2.1; omega
        have hLB : ((L.length : Int) == (l.length : Int) - 1) = true := by rw [hLI]; exact beq_self_eq_true _
        clear hLl hLI hsb
        have hl8I : (l.length : Int) ≤ 8 := by have := HI.out.2.2.1.len; omega
        go_wp2_with fail
        go_ret
        exact ⟨rfl, H9.out.1⟩
    · have hpI : ((f.proto : Int) == 6) = false := by simp only [beq_eq_false_iff_ne]; omega
      have HP := Lib.hid hp
      have HNE := Lib.hid (show ¬ (f.proto = 6 ∧ Nat.land flags 4 ≠ 0) from fun h => hp h.1)
      clear hp
      rcases hsb with rfl | ⟨rfl, hs1, hs1a, hs1b⟩
      all_goals
        go_upto_region 17 with (fail)
        clear q0 d0 d1 hpI
        obtain ⟨wt, hwt⟩ : ∃ y, waitC f.proto s = y := ⟨_, rfl⟩
        have hL := HF.out.2.1.symm.trans (pass_eq (now := now) HNE.out HS.out hwt)
        have hkL : k < L.length := by rw [hL, List.length_set]; exact H3.out.2.2.1
        have hLk : L[k]'hkL = { f with st := s, til := now + wt } := by
          have h : ∀ (M : List Fl) (e : L = M) (h : k < M.length), L[k]'hkL = M[k] := fun M e h => by subst e; rfl
          rw [h _ hL (by rw [List.length_set]; exact H3.out.2.2.1), List.getElem_set_self]
        obtain ⟨ad6, hA6, q6⟩ := FlAt.of H9.out.2.2.2 k hkL
        subst hA6
        rw [hLk] at q6
        obtain ⟨x, hx⟩ : ∃ x, ({ f with st := s, til := now + wt } : Fl) = x := ⟨_, rfl⟩
        have hLI : ((L.length : Int) == (l.length : Int)) = true := by rw [hL, List.length_set]; exact beq_self_eq_true _
        have hkLI : (k : Int) < L.length := by omega
        have hLcI : (L.length : Int) ≤ c6 := by have := H6.out.2.2.2.2; omega
        have hfo := HI.out.2.2.1.ok f (by rw [← HF.out.1]; exact List.getElem_mem _)
        have hs13 : 1 ≤ s ∧ s ≤ 3 := by first | decide | (rw [← HS.out]; exact ⟨(passF_OK hfo _ flags now (by have := HI.out.2.2.2.1; omega)).st1, (passF_OK hfo _ flags now (by have := HI.out.2.2.2.1; omega)).st3⟩)
        have hwl : wt ≤ 30 := by rw [← hwt]; exact waitC_le _ _
        have hnl : now ≤ 22 := HI.out.2.2.2.1
        have HW := Lib.hid (And.intro hwt (And.intro hfo hs13))
        clear hwt hL hkL hLk hfo hs13 hx
        obtain ⟨c0, c1', c2', c3, c4, c5, c6', c7, c8⟩ := q6
        go_upto_region 18 with (fail)
        clear c0 c1' c2' c3 c4 c5 c6' c7 c8
        generalize hw0 : World.alloc w9 (.cells #[.int .i64 f.proto, .string f.mac, .int .i64 f.sip, .int .i64 f.sport, .int .i64 f.dip, .int .i64 f.dport, .int .i64 s, .int .i64 ((now : Int) + wt), .int .i64 f.own] 73) = w10
        have hblk : w10.heap[World.heap w9 |>.size]? = some (.cells #[.int .i64 f.proto, .string f.mac, .int .i64 f.sip, .int .i64 f.sport, .int .i64 f.dip, .int .i64 f.dport, .int .i64 s, .int .i64 ((now : Int) + wt), .int .i64 f.own] 73 (0, 0)) := by rw [← hw0]; exact heap_alloc_new _ _
        have hlt : (World.heap w9).size < w10.heap.size := (Array.getElem?_eq_some_iff.1 hblk).1
        have hB0 : Below (World.heap w9).size w9 w10 := by rw [← hw0]; exact (Below.refl _ _).alloc (Nat.le_refl _) _
        clear hw0
        have H10 := Lib.hid (And.intro (LeB.tr H9.out.1 hB0) ((hB0.block _ (Array.getElem?_eq_some_iff.1 H9.out.2.1).1).trans H9.out.2.1))
        have p0 := blk_cell hblk 0
        have p1 := blk_cell hblk 1
        have p2 := blk_cell hblk 2
        have p3 := blk_cell hblk 3
        have p4 := blk_cell hblk 4
        have p5 := blk_cell hblk 5
        have p6 := blk_cell hblk 6
        have p7 := blk_cell hblk 7
        have p8 := blk_cell hblk 8
        simp at p0 p1 p2 p3 p4 p5 p6 p7 p8
        have d0 : w10.cell? ⟨w1.heap.size, 0, none⟩ = some (.slice (some ad) l.length c1) := blk_cell H10.out.2 0
        have d1 : w10.cell? ⟨w1.heap.size, 1, none⟩ = some (.int .i64 now) := blk_cell H10.out.2 1
        clear hblk hlt hB0
        go_wp2_with fail
        refine (FlowWait_ok f.proto s HW.out.2.1.proto HW.out.2.2.1 HW.out.2.2.2 w10).mono ?_
        rintro e w11 ⟨rfl, rfl⟩
        rw [HW.out.1]
        go_wp2_with fail
        go_ret
        first | exact ⟨rfl, H10.out.1⟩ | (refine ⟨?_, H10.out.1⟩; show Ending.returned (Value.bool ((s : Int) != 1)) = _; rw [show ((s : Int) != 1) = true from by simp only [bne, hs1]; rfl])
end Go.Proofs.Ytdenjmdngmmodaa
