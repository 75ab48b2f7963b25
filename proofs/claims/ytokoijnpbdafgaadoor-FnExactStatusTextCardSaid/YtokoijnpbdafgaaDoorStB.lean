/- Status: spec's and impl's search for a session, the text of a status. -/
import Derived.Test.YtokoijnpbdafgaaDoorSt
namespace Go.Proofs.YtokoijnpbdafgaaDoor
open Go.RowKit
set_option linter.unusedVariables false
set_option linter.unusedSimpArgs false
set_option maxRecDepth 200000
set_option maxHeartbeats 4000000

/-- The session of a mac and an address. -/
def qMac (mac : ByteArray) (ip : Int) (x : ExSession) : Bool := (x.mac.toList == mac.toList) && (x.ip == ip)
theorem qMac_cases (mac : ByteArray) (ip : Int) (x : ExSession) (b : Bool) (h : qMac mac ip x = b) : ((x.mac.toList == mac.toList) = false ∧ b = false) ∨ ((x.mac.toList == mac.toList) = true ∧ (x.ip == ip) = b) := by
  unfold qMac at h
  cases h1 : (x.mac.toList == mac.toList)
  · left; rw [h1] at h; exact ⟨rfl, by simpa using h.symm⟩
  · right; rw [h1] at h; exact ⟨rfl, by simpa using h⟩

theorem l08At_ok (g : ExGuests) (A0 A1 A2 A3 : Option Addr) (c0 c1 c2 c3 : Nat) (hs : g.sessions.length ≤ 1048576) (mac : ByteArray) (ip : Int) (w : World) (hg : g.In w A0 A1 A2 A3 c0 c1 c2 c3) :
    Calls Tryd.prog 40 #[.agg (g.cells A0 A1 A2 A3 c0 c1 c2 c3), .string mac, .int .i64 ip] w fun e w' => e = .returned (.int .i64 (idxG (qMac mac ip) g.sessions)) ∧ LeB w w' := by
  obtain ⟨r, hR⟩ : ∃ r, idxG (qMac mac ip) g.sessions = r := ⟨_, rfl⟩
  rw [hR]
  have HK := Lib.hid (And.intro hR hg)
  have hsI : (g.sessions.length : Int) ≤ 1048576 := by omega
  have hcI : (g.sessions.length : Int) ≤ c1 := by have := hg.l1; omega
  clear hR hg
  go_enter Tryd.func40, Tryd.ntmps40
  go_upto_region 1 with (fail)
  generalize hw0 : World.alloc w (.cells (g.cells A0 A1 A2 A3 c0 c1 c2 c3) 28) = wa
  have hblk : wa.heap[World.heap w |>.size]? = some (.cells (g.cells A0 A1 A2 A3 c0 c1 c2 c3) 28 (0, 0)) := by rw [← hw0]; exact heap_alloc_new _ _
  have hlt : (World.heap w).size < wa.heap.size := (Array.getElem?_eq_some_iff.1 hblk).1
  have hB0 : Below (World.heap w).size w wa := by rw [← hw0]; exact (Below.refl _ _).alloc (Nat.le_refl _) _
  clear hw0
  have q0 := blk_cell hblk 0
  have q1 := blk_cell hblk 1
  have q2 := blk_cell hblk 2
  have q3 := blk_cell hblk 3
  simp at q0 q1 q2 q3
  have HX := Lib.hid hB0
  clear hblk hlt hB0 q0 q2 q3
  go_wp2_with fail
  go_loop [7] (fun i => ∃ k : Nat, i = .int .i64 k ∧ k ≤ g.sessions.length ∧ Hid (∀ j (h : j < g.sessions.length), j < k → qMac mac ip g.sessions[j] = false)) (fun i => (g.sessions.length - (intOf i).toNat))
  case atStart => exact ⟨0, rfl, Nat.zero_le _, Lib.hid fun j h h0 => absurd h0 (Nat.not_lt_zero _)⟩
  case round =>
    obtain ⟨k, rfl, hk, hno⟩ := hrel
    by_cases hlt : k < g.sessions.length
    · have hltI : (k : Int) < g.sessions.length := by omega
      obtain ⟨ad, rfl, qx⟩ := ExSession.At.of (HK.out.2.r1.below HX.out (Nat.le_refl _)) k hlt
      obtain ⟨x, hx⟩ : ∃ x, g.sessions[k] = x := ⟨_, rfl⟩
      rw [hx] at qx
      have HE := Lib.hid hx
      clear hx
      have p2 := qx.c2
      have p3 := qx.c3
      clear qx
      cases hq : qMac mac ip x with
      | true =>
        have HQ := Lib.hid hq
        obtain ⟨-, hb⟩ | ⟨m1, m2⟩ := qMac_cases mac ip x true hq
        · cases hb
        clear hq
        go_wp2_with fail
        go_ret
        refine ⟨?_, HX.out⟩
        rw [← HK.out.1, idxG_hit (qMac mac ip) g.sessions k hlt (by rw [HE.out]; exact HQ.out) (fun j hj => hno.out j (by omega) hj)]
        rfl
      | false =>
        have hno2 : Hid (∀ j (h : j < g.sessions.length), j < k + 1 → qMac mac ip g.sessions[j] = false) := Lib.hid fun j h hj => by
          by_cases e : j = k
          · subst e; rw [HE.out]; exact hq
          · exact hno.out j h (by omega)
        obtain ⟨m1, -⟩ | ⟨m1, m2⟩ := qMac_cases mac ip x false hq
        all_goals
          clear hq hno
          go_wp2_with fail
          go_round
          case rel => exact ⟨k + 1, by go_num, by omega, hno2⟩
          case measure => simp [intOf]; omega
    · obtain rfl : k = g.sessions.length := by omega
      go_wp2_with fail
      go_ret
      refine ⟨?_, HX.out⟩
      have h1 : idxG (qMac mac ip) g.sessions = -1 := (idxG_neg _ _).2 fun f hf => by
        obtain ⟨j, hj, rfl⟩ := List.getElem_of_mem hf
        exact hno.out j hj hj
      rw [← HK.out.1, h1]
      rfl
end Go.Proofs.YtokoijnpbdafgaaDoor
