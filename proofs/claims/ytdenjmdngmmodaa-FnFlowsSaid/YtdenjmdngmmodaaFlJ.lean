/- Flows drawn: a list of them. -/
import Derived.Test.YtdenjmdngmmodaaFlD
import Derived.Test.YtdenjmdngmmodaaFlH
namespace Go.Proofs.Ytdenjmdngmmodaa
open Go.RowKit
set_option linter.unusedVariables false
set_option linter.unusedSimpArgs false
set_option maxRecDepth 200000
set_option maxHeartbeats 1000000

theorem l09Keep_OK {l : List Fl} (h : FlsOK l) (now own : Int) : FlsOK (l.filter (keepQ now own)) := filter_OK h _
/-- The loop of flows: a list that is right, in blocks of its own; the time; the source. -/
structure LnR (w0 w : World) (g : Nat) (N : Int) (v : Value) (l : List Fl) : Prop where
  own : w.ownsRow w0.heap.size 73 9 v l.length (rowC flc l)
  ok : FlsOK l
  src : Src w g N
  gr : w0.grownBy w (some g)
  gl : g < w0.heap.size
theorem own_grown {w w' : World} {B g : Nat} {e : TypeId} {size : Nat} {v : Value} {n : Nat} {xs : List Value} (h : w.ownsRow B e size v n xs) (hg : w.grownBy w' (some g)) (hB : g < B) : w'.ownsRow B e size v n xs :=
  h.kept hg (by
    cases hv : v.ownBlock with
    | none => exact Or.inl rfl
    | some b => exact Or.inr (by intro e; injection e with e; have := (h.lt b hv).1; omega))
theorem LnR.draw {w0 w W : World} {g : Nat} {N M : Int} {v : Value} {l : List Fl} (h : LnR w0 w g N v l) (hg : w.grownBy W (some g)) (hs : Src W g M) : LnR w0 W g M v l :=
  ⟨own_grown h.own hg h.gl, h.ok, hs, grown_trans h.gr hg, h.gl⟩
theorem LnR.next {w0 w W : World} {g : Nat} {N : Int} {v v' : Value} {l l' : List Fl} (h : LnR w0 w g N v l) (hB : LeB w W) (ho : W.ownsRow w.heap.size 73 9 v' l'.length (rowC flc l')) (hok : FlsOK l') : LnR w0 W g N v' l' :=
  ⟨own_base ho h.gr.size, hok, h.src.below hB h.src.lt, grown_trans h.gr (grownBy_of_below hB _), h.gl⟩
theorem LnR.sl {w0 w : World} {g : Nat} {N : Int} {v : Value} {l : List Fl} (h : LnR w0 w g N v l) : ∃ A c, v = .slice A l.length c ∧ l.length ≤ c ∧ Rd w A (rowC flc l) := by
  obtain ⟨A, c, h1, h2, h3, -⟩ := own_slice h.own
  exact ⟨A, c, h1, h2, h3⟩
/-- What flows gives: a list that is right, new; a time. -/
theorem flows_ok (g : Nat) (N : Int) (w : World) (hs : Src w g N) (hN : N ≤ 1000000) :
    Calls Try.prog 82 #[.pointer (some ⟨g, 0, none⟩)] w fun e w' => ∃ (v : Value) (l : List Fl) (now : Nat), e = .returned (.tuple #[v, .int .i64 now]) ∧ FlsOK l ∧ now ≤ 22 ∧ w'.ownsRow w.heap.size 73 9 v l.length (rowC flc l) ∧ w.grownBy w' (some g) := by
  have hgl := hs.lt
  have HK := Lib.hid (And.intro hs hgl)
  clear hs hgl
  go_enter Try.func82, Try.ntmps82
  go_wp2_with fail
  generalize hw0 : World.alloc w (.cells #[] 73) = wa
  have hblk : wa.heap[World.heap w |>.size]? = some (.cells #[] 73 (0, 0)) := by rw [← hw0]; exact heap_alloc_new _ _
  have hlt : (World.heap w).size < wa.heap.size := (Array.getElem?_eq_some_iff.1 hblk).1
  have hB0 : Below (World.heap w).size w wa := by rw [← hw0]; exact (Below.refl _ _).alloc (Nat.le_refl _) _
  clear hw0
  have hown0 : wa.ownsRow w.heap.size 73 9 (.slice (some ⟨w.heap.size, 0, none⟩) 0 0) ([] : List Fl).length (rowC flc []) := ⟨rfl, .inr ⟨w.heap.size, 0, #[], rfl, Nat.le_refl _, hblk, Nat.le_refl _, by simp [maxLen], rfl, rfl⟩⟩
  have HA : LnR w wa g N (.slice (some ⟨w.heap.size, 0, none⟩) 0 0) [] := ⟨hown0, ⟨by simp, by simp, List.Pairwise.nil⟩, HK.out.1.below hB0 HK.out.2, grownBy_of_below hB0 _, HK.out.2⟩
  clear hown0 hblk hlt hB0
  refine (next_ok g N 12 wa HA.src (by omega) (by omega)).mono ?_
  rintro e w1 ⟨v, rfl, ⟨m, rfl, hm0, hm1⟩, hs1, hg1⟩
  obtain ⟨r, rfl⟩ := Int.eq_ofNat_of_zero_le hm0
  have hr : r ≤ 11 := by omega
  have H1 := Lib.hid (HA.draw hg1 hs1)
  clear HA hs1 hg1 hm0 hm1
  go_wp2_with fail
  go_loopw [4, 5, 6] (fun v nv iv wr => ∃ (j now : Nat) (l : List Fl), iv = .int .i64 j ∧ j ≤ 11 ∧ nv = .int .i64 now ∧ now + 2 * j ≤ 22 ∧ LnR w wr g (N + 3 + 2000 * (11 - (j : Int))) v l) (fun _ _ iv _ => (intOf iv).toNat)
  case atStart => exact ⟨r, 0, [], rfl, hr, rfl, by omega, H1.out.draw (World.grownBy.refl _ _) (H1.out.src.more (by omega))⟩
  case round =>
    obtain ⟨j, now, l, rfl, hj, rfl, hnow, hR⟩ := hrel
    have HR := Lib.hid hR
    clear hR hr
    obtain ⟨A, c, rfl, hc, hrd⟩ := HR.out.sl
    have HD := Lib.hid (And.intro hc hrd)
    clear hc hrd
    rcases j with _ | j
    · go_wp2_with (at_builtin; refine Hid.out ?_)
      refine Lib.hid ?_
      have hB0 : LeB wr (wr.alloc (.cells #[] 73)) := (Below.refl _ _).alloc (Nat.le_refl _) _
      obtain ⟨v3, w3, hrun, hown3, hB3⟩ := append_new _ wr.heap.size wr.heap.size (heap_alloc_new wr _) (Nat.le_refl _) A c l (HD.out.2.below hB0 (Nat.le_refl _)) (by have := HR.out.ok.len; omega)
      refine wpList_append_run rfl _ _ _ _ rfl rfl rfl hrun ?_
      have H3 := Lib.hid (And.intro (own_base hown3 HR.out.gr.size) (grown_trans HR.out.gr (grownBy_of_below (LeB.tr hB0 hB3) (some g))))
      clear hB0 hrun hown3 hB3
      go_wp2_with fail
      refine bodyPost_ret (v := .tuple #[v3, .int .i64 now]) (by simp [results, go_sem]) rfl ⟨v3, l, now, rfl, HR.out.ok, by omega, H3.out.1, H3.out.2⟩
    · have hjI : (0 : Int) < (j : Int) + 1 := by omega
      go_wp2_with fail
      refine (next_ok g _ 4 wr HR.out.src (by omega) (by omega)).mono ?_
      rintro e w2 ⟨v, rfl, ⟨m, rfl, hm0, hm1⟩, hs2, hg2⟩
      obtain ⟨r4, rfl⟩ := Int.eq_ofNat_of_zero_le hm0
      have H2 := Lib.hid (HR.out.draw hg2 hs2)
      have hcase : r4 = 0 ∨ r4 = 1 ∨ (((r4 : Int) == 0) = false ∧ ((r4 : Int) == 1) = false) := by
        by_cases h0 : r4 = 0
        · exact .inl h0
        · by_cases h1 : r4 = 1
          · exact .inr (.inl h1)
          · exact .inr (.inr ⟨by simp; omega, by simp; omega⟩)
      clear hs2 hg2 hm0 hm1
      have hll : l.length ≤ 8 := H2.out.ok.len
      have hllI : (l.length : Int) ≤ 8 := by omega
      rcases hcase with rfl | rfl | ⟨h0, h1⟩
      · go_wp2_with fail
        refine (l09Keep_ok A c l (by omega) HD.out.1 now (-1) w2 (Rd.of_own H2.out.own)).mono ?_
        rintro e w3 ⟨v3, rfl, hown3, hB3⟩
        have H3 := Lib.hid (H2.out.next hB3 hown3 (l09Keep_OK H2.out.ok now (-1)))
        clear hown3 hB3 hll hllI
        go_wp2_with fail
        refine (next_ok g _ 3 w3 H3.out.src (by omega) (by omega)).mono ?_
        rintro e w9 ⟨v, rfl, ⟨m, rfl, hm0, hm1⟩, hs9, hg9⟩
        obtain ⟨d, rfl⟩ := Int.eq_ofNat_of_zero_le hm0
        have hd3 : d ≤ 2 := by omega
        have H9 := Lib.hid (H3.out.draw hg9 hs9)
        clear hs9 hg9 hm0 hm1
        have hnI : (now : Int) ≤ 1000 := by omega
        go_wp2_with fail
        go_roundw
        case rel => exact ⟨j, now + d, (l.filter (keepQ now (-1))), by go_num, by omega, by go_num, by omega, H9.out.draw (World.grownBy.refl _ _) (H9.out.src.more (by omega))⟩
        case measure => simp [intOf]
      · by_cases hl0 : l.length = 0
        · obtain rfl := List.length_eq_zero_iff.1 hl0
          clear hll hllI hl0
          go_wp2_with fail
          refine (next_ok g _ 3 w2 H2.out.src (by omega) (by omega)).mono ?_
          rintro e w9 ⟨v, rfl, ⟨m, rfl, hm0, hm1⟩, hs9, hg9⟩
          obtain ⟨d, rfl⟩ := Int.eq_ofNat_of_zero_le hm0
          have hd3 : d ≤ 2 := by omega
          have H9 := Lib.hid (H2.out.draw hg9 hs9)
          clear hs9 hg9 hm0 hm1
          have hnI : (now : Int) ≤ 1000 := by omega
          go_wp2_with fail
          go_roundw
          case rel => exact ⟨j, now + d, [], by go_num, by omega, by go_num, by omega, H9.out.draw (World.grownBy.refl _ _) (H9.out.src.more (by omega))⟩
          case measure => simp [intOf]
        · have hl0I : (0 : Int) < l.length := by omega
          clear hl0
          go_wp2_with fail
          refine (next_ok g _ l.length w2 H2.out.src (by omega) (by omega)).mono ?_
          rintro e w3 ⟨v, rfl, ⟨m, rfl, hm0, hm1⟩, hs3, hg3⟩
          obtain ⟨k, rfl⟩ := Int.eq_ofNat_of_zero_le hm0
          have hk : k < l.length := by omega
          have H3 := Lib.hid (H2.out.draw hg3 hs3)
          have HK3 := Lib.hid hk
          clear hs3 hg3 hm0 hm1 hk
          go_wp2_with fail
          refine (chance_ok g _ 2 w3 H3.out.src (by omega) (by omega) (by omega)).mono ?_
          rintro e w4 ⟨v, rfl, ⟨b, rfl⟩, hs4, hg4⟩
          have H4 := Lib.hid (H3.out.draw hg4 hs4)
          clear hs4 hg4
          go_wp2_with fail
          refine (next_ok g _ 32 w4 H4.out.src (by omega) (by omega)).mono ?_
          rintro e w5 ⟨v, rfl, ⟨m, rfl, hm0, hm1⟩, hs5, hg5⟩
          obtain ⟨fl, rfl⟩ := Int.eq_ofNat_of_zero_le hm0
          have hfl : fl < 32 := by omega
          have H5 := Lib.hid (H4.out.draw hg5 hs5)
          have HFL := Lib.hid hfl
          clear hs5 hg5 hm0 hm1 hfl
          go_wp2_with fail
          refine (l09Pass_ok A c l (by omega) HD.out.1 k HK3.out b fl now HFL.out (by omega) (l[k]'HK3.out) rfl w5 (Rd.of_own H5.out.own)).mono ?_
          rintro e w6 ⟨v6, rfl, hown6, hB6⟩
          have H6 := Lib.hid (H5.out.next hB6 hown6 (pass_OK H5.out.ok k HK3.out b fl now (by omega)))
          clear hown6 hB6 hll hllI hl0I
          obtain ⟨l6, hl6⟩ : ∃ x, passC l k (l[k]'HK3.out) b fl now = x := ⟨_, rfl⟩
          rw [hl6] at H6
          clear hl6
          go_wp2_with fail
          refine (next_ok g _ 3 w6 H6.out.src (by omega) (by omega)).mono ?_
          rintro e w9 ⟨v, rfl, ⟨m, rfl, hm0, hm1⟩, hs9, hg9⟩
          obtain ⟨d, rfl⟩ := Int.eq_ofNat_of_zero_le hm0
          have hd3 : d ≤ 2 := by omega
          have H9 := Lib.hid (H6.out.draw hg9 hs9)
          clear hs9 hg9 hm0 hm1
          have hnI : (now : Int) ≤ 1000 := by omega
          go_wp2_with fail
          go_roundw
          case rel => exact ⟨j, now + d, l6, by go_num, by omega, by go_num, by omega, H9.out.draw (World.grownBy.refl _ _) (H9.out.src.more (by omega))⟩
          case measure => simp [intOf]
      · go_wp2_with fail
        refine (flow_ok g _ w2 H2.out.src (by omega)).mono ?_
        rintro e w3 ⟨v, rfl, ⟨f, rfl, hfo, -⟩, hs3, hg3⟩
        have H3 := Lib.hid (H2.out.draw hg3 hs3)
        have HF := Lib.hid hfo
        clear hs3 hg3 hfo h0 h1
        go_upto_region 8 with (fail)
        generalize hw0 : World.alloc w3 (.cells f.cells 73) = w4
        have hblk : w4.heap[World.heap w3 |>.size]? = some (.cells f.cells 73 (0, 0)) := by rw [← hw0]; exact heap_alloc_new _ _
        have hlt : (World.heap w3).size < w4.heap.size := (Array.getElem?_eq_some_iff.1 hblk).1
        have hB0 : Below (World.heap w3).size w3 w4 := by rw [← hw0]; exact (Below.refl _ _).alloc (Nat.le_refl _) _
        clear hw0
        have H4 := Lib.hid (And.intro (H3.out.draw (grownBy_of_below hB0 _) (H3.out.src.below hB0 H3.out.src.lt)) (And.intro hblk hlt))
        have q0 := blk_cell hblk 0
        have q1 := blk_cell hblk 1
        have q2 := blk_cell hblk 2
        have q3 := blk_cell hblk 3
        have q4 := blk_cell hblk 4
        have q5 := blk_cell hblk 5
        have q6 := blk_cell hblk 6
        have q7 := blk_cell hblk 7
        have q8 := blk_cell hblk 8
        simp at q0 q1 q2 q3 q4 q5 q6 q7 q8
        clear hblk hlt hB0
        go_wp2_with fail
        refine (l09Find_ok A c l (by omega) HD.out.1 f.proto f.sip f.sport f.dip f.dport w4 (Rd.of_own H4.out.1.own)).mono ?_
        rintro e w5 ⟨k, t, rfl, hk, hB5⟩
        have hb5 := (hB5.block _ H4.out.2.2).trans H4.out.2.1
        have H5 := Lib.hid (And.intro (H4.out.1.draw (grownBy_of_below hB5 _) (H4.out.1.src.below hB5 H4.out.1.src.lt)) hb5)
        clear q0 q1 q2 q3 q4 q5 q6 q7 q8 hB5
        by_cases hk0 : k < 0
        · have hno := hk.1 hk0
          clear hk
          have q0 := blk_cell hb5 0
          have q1 := blk_cell hb5 1
          have q2 := blk_cell hb5 2
          have q3 := blk_cell hb5 3
          have q4 := blk_cell hb5 4
          have q5 := blk_cell hb5 5
          have q6 := blk_cell hb5 6
          have q7 := blk_cell hb5 7
          have q8 := blk_cell hb5 8
          simp at q0 q1 q2 q3 q4 q5 q6 q7 q8
          have HN := Lib.hid hno
          clear hno hb5
          go_wp2_with fail
          refine (l09Open_ok A c l (by omega) HD.out.1 f now (by omega) w5 (Rd.of_own H5.out.1.own)).mono ?_
          rintro e w6 ⟨hB6, h6⟩
          clear q0 q1 q2 q3 q4 q5 q6 q7 q8
          rcases h6 with ⟨h8, rfl⟩ | ⟨h8, v6, rfl, hown6⟩
          · have H6 := Lib.hid (H5.out.1.draw (grownBy_of_below hB6 _) (H5.out.1.src.below hB6 H5.out.1.src.lt))
            clear hB6 h8 hll hllI
            go_wp2_with fail
            refine (next_ok g _ 3 w6 H6.out.src (by omega) (by omega)).mono ?_
            rintro e w9 ⟨v, rfl, ⟨m, rfl, hm0, hm1⟩, hs9, hg9⟩
            obtain ⟨d, rfl⟩ := Int.eq_ofNat_of_zero_le hm0
            have hd3 : d ≤ 2 := by omega
            have H9 := Lib.hid (H6.out.draw hg9 hs9)
            clear hs9 hg9 hm0 hm1
            have hnI : (now : Int) ≤ 1000 := by omega
            go_wp2_with fail
            go_roundw
            case rel => exact ⟨j, now + d, l, by go_num, by omega, by go_num, by omega, H9.out.draw (World.grownBy.refl _ _) (H9.out.src.more (by omega))⟩
            case measure => simp [intOf]
          · have H6 := Lib.hid (H5.out.1.next hB6 hown6 (open_OK H5.out.1.ok HF.out now (by omega) (by omega) HN.out))
            clear hB6 h8 hown6 hll hllI
            go_wp2_with fail
            refine (next_ok g _ 3 w6 H6.out.src (by omega) (by omega)).mono ?_
            rintro e w9 ⟨v, rfl, ⟨m, rfl, hm0, hm1⟩, hs9, hg9⟩
            obtain ⟨d, rfl⟩ := Int.eq_ofNat_of_zero_le hm0
            have hd3 : d ≤ 2 := by omega
            have H9 := Lib.hid (H6.out.draw hg9 hs9)
            clear hs9 hg9 hm0 hm1
            have hnI : (now : Int) ≤ 1000 := by omega
            go_wp2_with fail
            go_roundw
            case rel => exact ⟨j, now + d, (l ++ [openF f now]), by go_num, by omega, by go_num, by omega, H9.out.draw (World.grownBy.refl _ _) (H9.out.src.more (by omega))⟩
            case measure => simp [intOf]
        · have hk0I : decide (k < 0) = false := by simp; omega
          clear hk0 hk hb5 hll hllI
          have H6 := Lib.hid H5.out.1
          go_wp2_with fail
          refine (next_ok g _ 3 w5 H6.out.src (by omega) (by omega)).mono ?_
          rintro e w9 ⟨v, rfl, ⟨m, rfl, hm0, hm1⟩, hs9, hg9⟩
          obtain ⟨d, rfl⟩ := Int.eq_ofNat_of_zero_le hm0
          have hd3 : d ≤ 2 := by omega
          have H9 := Lib.hid (H6.out.draw hg9 hs9)
          clear hs9 hg9 hm0 hm1
          have hnI : (now : Int) ≤ 1000 := by omega
          go_wp2_with fail
          go_roundw
          case rel => exact ⟨j, now + d, l, by go_num, by omega, by go_num, by omega, H9.out.draw (World.grownBy.refl _ _) (H9.out.src.more (by omega))⟩
          case measure => simp [intOf]
end Go.Proofs.Ytdenjmdngmmodaa
