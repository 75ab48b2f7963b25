/- Connections: what is acknowledged. -/
import Derived.Test.YtdenjmdngmmodaaCnE
namespace Go.Proofs.Ytdenjmdngmmodaa
open Go.RowKit
set_option linter.unusedVariables false
set_option linter.unusedSimpArgs false
set_option maxRecDepth 20000
set_option maxHeartbeats 600000

theorem grown_own {a w : World} {g : Nat} (h : a.grownBy w (some g)) (k : Nat) (u : Value) : a.grownBy (w.setCell ⟨g, k, none⟩ u) (some g) :=
  ⟨h.os, h.tape, h.output, by simpa [World.setCell] using h.size, fun i hi hne => (Below.heap_setCell w ⟨g, k, none⟩ u i (fun e => hne (by rw [e]))).trans (h.block i hi hne)⟩
theorem grown_drewN {a w : World} {row : Option Nat} (h : a.grownBy w row) (n : Nat) : a.grownBy (w.drewN n) row := ⟨h.os, h.tape, h.output, h.size, h.block⟩
theorem blk_drewN {w : World} {g : Nat} {b : Obj} (h : w.heap[g]? = some b) (n : Nat) : (w.drewN n).heap[g]? = some b := h

/-- Block g holds these cells, its own. -/
def acked (c : Cn) (ack : Nat) : Cn :=
  if 1 ≤ bhd ack c.una ∧ bhd ack c.una ≤ bhd c.nxt c.una then
    if c.st = 1 then { c with una := ack, st := 2 }
    else if c.out.size < bhd ack c.una then { c with una := ack, out := ⟨#[]⟩, st := 4, fin := false }
    else { c with una := ack, out := c.out.extract (bhd ack c.una) c.out.size }
  else c
theorem behind_is (a b n : Nat) (ha : a < 4294967296) (hb : b < 4294967296) (hn : bhd a b = n) (w : World) : Calls Try.prog 81 #[.int .i64 a, .int .i64 b] w fun e w' => e = .returned (.int .i64 n) ∧ w = w' := by
  subst hn
  exact behind_ok a b ha hb w
theorem acknowledge_ok (c : Cn) (g ack : Nat) (w : World) (hb : w.heap[g]? = some (.cells c.cells 48 (0, 0))) (ha : ack < 4294967296) (hu : c.una < 4294967296) (hn : c.nxt < 4294967296) (ho : c.out.size ≤ 300) :
    Calls Try.prog 121 #[.pointer (some ⟨g, 0, none⟩), .int .i64 ack] w fun e w' => (∃ v, e = .returned v) ∧ w'.heap[g]? = some (.cells (acked c ack).cells 48 (0, 0)) ∧ w.grownBy w' (some g) := by
  obtain ⟨mac, ip, port, dst, st, una, nxt, want, inn, out, fin⟩ := c
  dsimp only at *
  have hlt := bhd_lt ack una
  have hlt2 := bhd_lt nxt una
  obtain ⟨far, hfar⟩ : ∃ n, bhd ack una = n := ⟨_, rfl⟩
  obtain ⟨sent, hsent⟩ : ∃ n, bhd nxt una = n := ⟨_, rfl⟩
  rw [hfar] at hlt
  rw [hsent] at hlt2
  have HF := Lib.hid (And.intro hfar hsent)
  clear hfar hsent
  have c0 := blk_cell hb 0
  have c1 := blk_cell hb 1
  have c2 := blk_cell hb 2
  have c3 := blk_cell hb 3
  have c4 := blk_cell hb 4
  have c5 := blk_cell hb 5
  have c6 := blk_cell hb 6
  have c7 := blk_cell hb 7
  have c8 := blk_cell hb 8
  have c9 := blk_cell hb 9
  have c10 := blk_cell hb 10
  simp at c0 c1 c2 c3 c4 c5 c6 c7 c8 c9 c10
  have cf0 := blk_free hb 0
  have cf1 := blk_free hb 1
  have cf2 := blk_free hb 2
  have cf3 := blk_free hb 3
  have cf4 := blk_free hb 4
  have cf5 := blk_free hb 5
  have cf6 := blk_free hb 6
  have cf7 := blk_free hb 7
  have cf8 := blk_free hb 8
  have cf9 := blk_free hb 9
  have cf10 := blk_free hb 10
  have HK := Lib.hid (And.intro hb (And.intro ha (And.intro hu hn)))
  clear hb ha hu hn
  have hoI : (out.size : Int) ≤ 300 := by omega
  by_cases hA1 : 1 ≤ far
  · by_cases hA2 : far ≤ sent
    · have d1 : (1 : Int) ≤ far := by omega
      by_cases hs : st = 1
      · subst hs
        go_enter Try.func121, Try.ntmps121
        go_wp2_with fail
        refine (behind_is ack una far HK.out.2.1 HK.out.2.2.1 HF.out.1 _).mono ?_
        rintro e w1 ⟨rfl, rfl⟩
        go_wp2_with fail
        go_quiet ((first | exact qs (behind_is nxt una sent HK.out.2.2.2 HK.out.2.2.1 HF.out.2 _) | exact qs (within_ok _ _ _ _)))
        go_wp2
        refine bodyPost_ret (results_none rfl _ _ _) rfl ?_
        refine ⟨⟨_, rfl⟩, ?_, grown_own (grown_own (grown_drewN (World.grownBy.refl w _) _) _ _) _ _⟩
        rw [blk_set (blk_set (blk_drewN HK.out.1 _) _ _) _ _]
        simp [acked, HF.out.1, HF.out.2, hA1, hA2]
      · have hsI : ((st : Int) == 1) = false := by simp; omega
        by_cases ho2 : out.size < far
        · have d2 : (out.size : Int) < far := by omega
          go_enter Try.func121, Try.ntmps121
          go_wp2_with fail
          refine (behind_is ack una far HK.out.2.1 HK.out.2.2.1 HF.out.1 _).mono ?_
          rintro e w1 ⟨rfl, rfl⟩
          go_wp2_with fail
          go_quiet ((first | exact qs (behind_is nxt una sent HK.out.2.2.2 HK.out.2.2.1 HF.out.2 _) | exact qs (within_ok _ _ _ _)))
          go_wp2
          refine bodyPost_ret (results_none rfl _ _ _) rfl ?_
          refine ⟨⟨_, rfl⟩, ?_, grown_own (grown_own (grown_own (grown_own (grown_drewN (World.grownBy.refl w _) _) _ _) _ _) _ _) _ _⟩
          rw [blk_set (blk_set (blk_set (blk_set (blk_drewN HK.out.1 _) _ _) _ _) _ _) _ _]
          simp [acked, HF.out.1, HF.out.2, hA1, hA2, hs, ho2]
        · have d2 : ¬ (out.size : Int) < far := by omega
          go_enter Try.func121, Try.ntmps121
          go_wp2_with fail
          refine (behind_is ack una far HK.out.2.1 HK.out.2.2.1 HF.out.1 _).mono ?_
          rintro e w1 ⟨rfl, rfl⟩
          go_wp2_with fail
          go_quiet ((first | exact qs (behind_is nxt una sent HK.out.2.2.2 HK.out.2.2.1 HF.out.2 _) | exact qs (within_ok _ _ _ _)))
          go_wp2
          refine bodyPost_end (results_none rfl _ _ _) rfl ?_
          refine ⟨⟨_, rfl⟩, ?_, grown_own (grown_own (grown_drewN (World.grownBy.refl w _) _) _ _) _ _⟩
          rw [blk_set (blk_set (blk_drewN HK.out.1 _) _ _) _ _]
          simp [acked, HF.out.1, HF.out.2, hA1, hA2, hs, ho2]
    · have d1 : (1 : Int) ≤ far := by omega
      go_enter Try.func121, Try.ntmps121
      go_wp2_with fail
      refine (behind_is ack una far HK.out.2.1 HK.out.2.2.1 HF.out.1 _).mono ?_
      rintro e w1 ⟨rfl, rfl⟩
      go_wp2_with fail
      go_quiet ((first | exact qs (behind_is nxt una sent HK.out.2.2.2 HK.out.2.2.1 HF.out.2 _) | exact qs (within_ok _ _ _ _)))
      go_wp2
      refine bodyPost_ret (results_none rfl _ _ _) rfl ?_
      exact ⟨⟨_, rfl⟩, by rw [blk_drewN HK.out.1 _]; simp [acked, HF.out.1, HF.out.2, hA1, hA2], grown_drewN (World.grownBy.refl w _) _⟩
  · have d1 : decide ((1 : Int) ≤ far) = false := by simp; omega
    go_enter Try.func121, Try.ntmps121
    go_wp2_with fail
    refine (behind_is ack una far HK.out.2.1 HK.out.2.2.1 HF.out.1 _).mono ?_
    rintro e w1 ⟨rfl, rfl⟩
    go_wp2_with fail
    go_quiet ((first | exact qs (behind_is nxt una sent HK.out.2.2.2 HK.out.2.2.1 HF.out.2 _) | exact qs (within_ok _ _ _ _)))
    go_wp2
    refine bodyPost_ret (results_none rfl _ _ _) rfl ?_
    exact ⟨⟨_, rfl⟩, by rw [blk_drewN HK.out.1 _]; simp [acked, HF.out.1, HF.out.2, hA1], grown_drewN (World.grownBy.refl w _) _⟩
end Go.Proofs.Ytdenjmdngmmodaa
