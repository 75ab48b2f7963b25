/- Status: StatusText (impl's), as called. -/
import Derived.Test.YtokoijnpbdafgaaDoorStD
namespace Go.Proofs.YtokoijnpbdafgaaDoor
open Go.RowKit
set_option linter.unusedVariables false
set_option linter.unusedSimpArgs false
set_option maxRecDepth 200000
set_option maxHeartbeats 4000000

/-- What StatusText answers. -/
def stRes (g : ExGuests) (mac : ByteArray) (ip now : Int) : ByteArray × Int :=
  if 65536 < mac.size then (⟨#[]⟩, 2) else if 3 < g.sessions.length then (⟨#[]⟩, 1) else if g.sessions.all (shB g.users.length) = false then (⟨#[]⟩, 1) else if wB now 0 100000 = false then (⟨#[]⟩, 4) else (stT g mac ip now, 0)
theorem DigAt.below {f : FuncId} {w w' : World} (h : DigAt f w) (hb : LeB w w') : DigAt f w' := fun n hn W hW => h n hn W (LeB.tr hb hW)

theorem StatusText_ok (g : ExGuests) (A0 A1 A2 A3 : Option Addr) (c0 c1 c2 c3 : Nat) (hs : g.Small) (mac : ByteArray) (hmac : mac.size ≤ 1099511627776) (ip now : Int) (w : World) (hg : g.In w A0 A1 A2 A3 c0 c1 c2 c3) (hIt : DigAt 39 w) :
    Calls Tryd.prog 6 #[.agg (g.cells A0 A1 A2 A3 c0 c1 c2 c3), .string mac, .int .i64 ip, .int .i64 now] w fun e w' => e = .returned (.tuple #[.string (stRes g mac ip now).1, .int .i64 (stRes g mac ip now).2]) ∧ LeB w w' := by
  obtain ⟨r, hR⟩ : ∃ r, stRes g mac ip now = r := ⟨_, rfl⟩
  rw [hR]
  have HK := Lib.hid (And.intro hs (And.intro hg (And.intro hIt hR)))
  have hmI : (mac.size : Int) ≤ 1099511627776 := by omega
  have hsI : (g.sessions.length : Int) ≤ 1048576 := by have := hs.l1; omega
  have hc1I : (g.sessions.length : Int) ≤ c1 := by have := hg.l1; omega
  clear hR hs hg hIt
  by_cases h1 : 65536 < mac.size
  · have d1 : (65536 : Int) < mac.size := by omega
    have hr : r = (⟨#[]⟩, 2) := by rw [← HK.out.2.2.2]; unfold stRes; rw [if_pos h1]
    subst hr
    go_enter Tryd.func6, Tryd.ntmps6
    go_upto_region 1 with (fail)
    generalize hw0 : World.alloc w (.cells (g.cells A0 A1 A2 A3 c0 c1 c2 c3) 28) = wa
    have hblk : wa.heap[World.heap w |>.size]? = some (.cells (g.cells A0 A1 A2 A3 c0 c1 c2 c3) 28 (0, 0)) := by rw [← hw0]; exact heap_alloc_new _ _
    have hlt : (World.heap w).size < wa.heap.size := (Array.getElem?_eq_some_iff.1 hblk).1
    have hB0 : Below (World.heap w).size w wa := by rw [← hw0]; exact (Below.refl _ _).alloc (Nat.le_refl _) _
    clear hw0
    have HX := Lib.hid hB0
    clear hblk hlt hB0
    go_wp2_with fail
    refine bodyPost_ret (v := .tuple #[.string ⟨#[]⟩, .int .i64 2]) (by simp [results, go_sem]) rfl ⟨rfl, HX.out⟩
  have d1 : decide ((65536 : Int) < mac.size) = false := by simp; omega
  by_cases h2 : 3 < g.sessions.length
  · have d2 : (3 : Int) < g.sessions.length := by omega
    have hr : r = (⟨#[]⟩, 1) := by rw [← HK.out.2.2.2]; unfold stRes; rw [if_neg h1, if_pos h2]
    subst hr
    go_enter Tryd.func6, Tryd.ntmps6
    go_upto_region 1 with (fail)
    generalize hw0 : World.alloc w (.cells (g.cells A0 A1 A2 A3 c0 c1 c2 c3) 28) = wa
    have hblk : wa.heap[World.heap w |>.size]? = some (.cells (g.cells A0 A1 A2 A3 c0 c1 c2 c3) 28 (0, 0)) := by rw [← hw0]; exact heap_alloc_new _ _
    have hlt : (World.heap w).size < wa.heap.size := (Array.getElem?_eq_some_iff.1 hblk).1
    have hB0 : Below (World.heap w).size w wa := by rw [← hw0]; exact (Below.refl _ _).alloc (Nat.le_refl _) _
    clear hw0
    have q0 := blk_cell hblk 0
    have q1 := blk_cell hblk 1
    simp at q0 q1
    have HX := Lib.hid hB0
    clear hblk hlt hB0
    go_wp2_with fail
    refine bodyPost_ret (v := .tuple #[.string ⟨#[]⟩, .int .i64 1]) (by simp [results, go_sem]) rfl ⟨rfl, HX.out⟩
  have d2 : decide ((3 : Int) < g.sessions.length) = false := by simp; omega
  have HN := Lib.hid (And.intro h1 h2)
  clear h1 h2
  go_enter Tryd.func6, Tryd.ntmps6
  go_upto_region 1 with (fail)
  generalize hw0 : World.alloc w (.cells (g.cells A0 A1 A2 A3 c0 c1 c2 c3) 28) = wa
  have hblk : wa.heap[World.heap w |>.size]? = some (.cells (g.cells A0 A1 A2 A3 c0 c1 c2 c3) 28 (0, 0)) := by rw [← hw0]; exact heap_alloc_new _ _
  have hlt : (World.heap w).size < wa.heap.size := (Array.getElem?_eq_some_iff.1 hblk).1
  have hB0 : Below (World.heap w).size w wa := by rw [← hw0]; exact (Below.refl _ _).alloc (Nat.le_refl _) _
  clear hw0
  have q0 := blk_cell hblk 0
  have q1 := blk_cell hblk 1
  simp at q0 q1
  have HX := Lib.hid (And.intro hblk (And.intro hlt hB0))
  clear hblk hlt hB0
  go_wp2_with fail
  clear q0 q1
  go_loopw [24] (fun i wr => ∃ k : Nat, i = .int .i64 k ∧ k ≤ g.sessions.length ∧ LeB wa wr ∧ ∀ j (h : j < g.sessions.length), j < k → shB g.users.length g.sessions[j] = true) (fun i _ => (g.sessions.length - (intOf i).toNat))
  case atStart => exact ⟨0, rfl, Nat.zero_le _, Below.refl _ _, fun j h h0 => absurd h0 (Nat.not_lt_zero _)⟩
  case round =>
    obtain ⟨k, rfl, hk, hB, hno⟩ := hrel
    have HR := Lib.hid (And.intro hB hno)
    have hb := (hB.block _ HX.out.2.1).trans HX.out.1
    have HB := Lib.hid hb
    clear hB hno hb
    by_cases hltk : k < g.sessions.length
    · have hltI : (k : Int) < g.sessions.length := by omega
      obtain ⟨ad, rfl, qx⟩ := ExSession.At.of (HK.out.2.1.r1.below (LeB.tr HX.out.2.2 HR.out.1) (Nat.le_refl _)) k hltk
      obtain ⟨x, hx⟩ : ∃ x, g.sessions[k] = x := ⟨_, rfl⟩
      rw [hx] at qx
      have HE := Lib.hid hx
      clear hx
      obtain ⟨p0, p1, p2, p3, p4, p5, p6, p7, p8, p9⟩ := qx
      go_upto_region 8 with (fail)
      clear p0 p1 p2 p3 p4 p5 p6 p7 p8 p9
      generalize hw0 : World.alloc wr (.cells x.cells 33) = wb
      have hblk : wb.heap[World.heap wr |>.size]? = some (.cells x.cells 33 (0, 0)) := by rw [← hw0]; exact heap_alloc_new _ _
      have hlt : (World.heap wr).size < wb.heap.size := (Array.getElem?_eq_some_iff.1 hblk).1
      have hB0 : Below (World.heap wr).size wr wb := by rw [← hw0]; exact (Below.refl _ _).alloc (Nat.le_refl _) _
      clear hw0
      have hb2 := (hB0.block _ (Array.getElem?_eq_some_iff.1 HB.out).1).trans HB.out
      have p0 := blk_cell hblk 0
      have p1 := blk_cell hblk 1
      have p2 := blk_cell hblk 2
      have p3 := blk_cell hblk 3
      have p4 := blk_cell hblk 4
      have p5 := blk_cell hblk 5
      have p6 := blk_cell hblk 6
      have p7 := blk_cell hblk 7
      have p8 := blk_cell hblk 8
      have p9 := blk_cell hblk 9
      simp at p0 p1 p2 p3 p4 p5 p6 p7 p8 p9
      have HY := Lib.hid (LeB.tr HR.out.1 hB0)
      have z0 := blk_cell hb2 0
      simp at z0
      clear hblk hlt hB0 hb2
      obtain ⟨b, hbb⟩ : ∃ b, shB g.users.length x = b := ⟨_, rfl⟩
      have hcall := shownOK_ok x g.users.length (by have := HK.out.1.l0; omega) w.heap.size A0 c0 wb z0
      rw [hbb] at hcall
      have HS := Lib.hid hbb
      clear hbb
      go_wp2_with fail
      refine hcall.mono ?_
      rintro e w2 ⟨rfl, hB2⟩
      have H2 := Lib.hid (LeB.tr HY.out hB2)
      clear hB2 hcall z0 p0 p1 p2 p3 p4 p5 p6 p7 p8 p9
      cases b with
      | true =>
        go_wp2_with fail
        go_roundw
        case rel =>
          refine ⟨k + 1, by go_num, by omega, H2.out, fun j h hj => ?_⟩
          by_cases e : j = k
          · subst e; rw [HE.out]; exact HS.out
          · exact HR.out.2 j h (by omega)
        case measure => simp [intOf]; omega
      | false =>
        have hr : r = (⟨#[]⟩, 1) := by
          rw [← HK.out.2.2.2]
          unfold stRes
          rw [if_neg HN.out.1, if_neg HN.out.2, if_pos]
          rw [List.all_eq_false]
          exact ⟨_, List.getElem_mem hltk, by rw [HE.out, HS.out]; simp⟩
        have HRR := Lib.hid hr
        clear hr
        go_wp2_with fail
        refine bodyPost_ret (v := .tuple #[.string ⟨#[]⟩, .int .i64 1]) (by simp [results, go_sem]) rfl ⟨by rw [HRR.out], LeB.tr HX.out.2.2 H2.out⟩
    · obtain rfl : k = g.sessions.length := by omega
      have hall : ¬ g.sessions.all (shB g.users.length) = false := by
        simp only [Bool.not_eq_false, List.all_eq_true]
        intro x hx
        obtain ⟨j, hj, rfl⟩ := List.getElem_of_mem hx
        exact HR.out.2 j hj hj
      have HA := Lib.hid hall
      clear hall
      obtain ⟨b, hbb⟩ : ∃ b, wB now 0 100000 = b := ⟨_, rfl⟩
      have HS := Lib.hid hbb
      clear hbb
      go_wp2_with fail
      refine (isTime_b now b HS.out _).mono ?_
      rintro e w2 ⟨rfl, rfl⟩
      cases b with
      | false =>
        have hr : r = (⟨#[]⟩, 4) := by
          rw [← HK.out.2.2.2]
          unfold stRes
          rw [if_neg HN.out.1, if_neg HN.out.2, if_neg HA.out, if_pos HS.out]
        have HRR := Lib.hid hr
        clear hr
        go_wp2_with fail
        refine bodyPost_ret (v := .tuple #[.string ⟨#[]⟩, .int .i64 4]) (by simp [results, go_sem]) rfl ⟨by rw [HRR.out], LeB.tr HX.out.2.2 HR.out.1⟩
      | true =>
        have hr : r = (stT g mac ip now, 0) := by
          rw [← HK.out.2.2.2]
          unfold stRes
          rw [if_neg HN.out.1, if_neg HN.out.2, if_neg HA.out, if_neg (by rw [HS.out]; simp)]
        obtain ⟨t, ht⟩ : ∃ t, stT g mac ip now = t := ⟨_, rfl⟩
        rw [ht] at hr
        have HRR := Lib.hid hr
        have hnow := wB_true.1 HS.out
        have hL := LeB.tr HX.out.2.2 HR.out.1
        have hcall := statusText_ok g A0 A1 A2 A3 c0 c1 c2 c3 w.heap.size HK.out.1 (fun x hx => by have := HA.out; simp only [Bool.not_eq_false, List.all_eq_true] at this; exact this x hx) now hnow.1 hnow.2 mac ip wr (HK.out.2.1.below hL) HB.out (HK.out.2.2.1.below hL)
        rw [ht] at hcall
        clear ht hr hnow hL
        go_wp2_with fail
        refine hcall.mono ?_
        rintro e w2 ⟨rfl, hB2⟩
        have H2 := Lib.hid (LeB.tr (LeB.tr HX.out.2.2 HR.out.1) hB2)
        clear hB2 hcall
        go_wp2_with fail
        refine bodyPost_ret (v := .tuple #[.string t, .int .i64 0]) (by simp [results, go_sem]) rfl ⟨by rw [HRR.out], H2.out⟩
end Go.Proofs.YtokoijnpbdafgaaDoor
