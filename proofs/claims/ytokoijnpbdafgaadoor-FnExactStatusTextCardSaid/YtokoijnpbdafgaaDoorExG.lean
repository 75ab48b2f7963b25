/- Exact laws: guests, given by value: measured, copied, held against one another. -/
import Derived.Test.YtokoijnpbdafgaaDoorExUser
import Derived.Test.YtokoijnpbdafgaaDoorExSession
import Derived.Test.YtokoijnpbdafgaaDoorExFail
import Derived.Test.YtokoijnpbdafgaaDoorExRecord
namespace Go.Proofs.YtokoijnpbdafgaaDoor
open Go.RowKit
set_option linter.unusedVariables false
set_option linter.unusedSimpArgs false
set_option maxRecDepth 200000
set_option maxHeartbeats 4000000

structure ExGuests where
  users : List ExUser
  sessions : List ExSession
  fails : List ExFail
  records : List ExRecord
  next : Int
@[reducible] def ExGuests.cells (g : ExGuests) (A0 A1 A2 A3 : Option Addr) (c0 c1 c2 c3 : Nat) : Array Value := #[.slice A0 g.users.length c0, .slice A1 g.sessions.length c1, .slice A2 g.fails.length c2, .slice A3 g.records.length c3, .int .i64 g.next]
/-- Its lists are read so in a world. -/
structure ExGuests.In (w : World) (g : ExGuests) (A0 A1 A2 A3 : Option Addr) (c0 c1 c2 c3 : Nat) : Prop where
  l0 : g.users.length ≤ c0
  l1 : g.sessions.length ≤ c1
  l2 : g.fails.length ≤ c2
  l3 : g.records.length ≤ c3
  r0 : Rd w A0 (rowC ExUser.row g.users)
  r1 : Rd w A1 (rowC ExSession.row g.sessions)
  r2 : Rd w A2 (rowC ExFail.row g.fails)
  r3 : Rd w A3 (rowC ExRecord.row g.records)
section
variable {w w' : World} {g : ExGuests} {A0 A1 A2 A3 : Option Addr} {c0 c1 c2 c3 : Nat}
theorem ExGuests.In.below (h : g.In w A0 A1 A2 A3 c0 c1 c2 c3) (hb : LeB w w') : g.In w' A0 A1 A2 A3 c0 c1 c2 c3 :=
  ⟨h.l0, h.l1, h.l2, h.l3, h.r0.below hb (Nat.le_refl _), h.r1.below hb (Nat.le_refl _), h.r2.below hb (Nat.le_refl _), h.r3.below hb (Nat.le_refl _)⟩
end
/-- Lengths as they come in. -/
structure ExGuests.Long (g : ExGuests) : Prop where
  l0 : g.users.length ≤ 9223372036854775807
  l1 : g.sessions.length ≤ 9223372036854775807
  l2 : g.fails.length ≤ 9223372036854775807
  l3 : g.records.length ≤ 9223372036854775807
  s0 : ∀ x ∈ g.users, x.Fit
  s1 : ∀ x ∈ g.sessions, x.Fit
  s2 : ∀ x ∈ g.fails, x.Fit
/-- .. and as the measure lets them in. -/
structure ExGuests.Small (g : ExGuests) : Prop where
  l0 : g.users.length ≤ 1048576
  l1 : g.sessions.length ≤ 1048576
  l2 : g.fails.length ≤ 1048576
  l3 : g.records.length ≤ 1048576
  s0 : ExUser.sum g.users ≤ 1048576
  s1 : ExSession.sum g.sessions ≤ 1048576
  s2 : ExFail.sum g.fails ≤ 1048576

theorem szRecordS_ok (A : Option Addr) (k0 : Nat) (n : Nat) (left : Int) (h0 : 0 ≤ left) (h1 : left ≤ 1048576) (hn : n ≤ 9223372036854775807) (w : World) :
    Calls Tryd.prog 23 #[.slice A n k0, .int .i64 left] w fun e w' => e = .returned (.int .i64 (if (n : Int) ≤ left then left - n else -1)) ∧ LeB w w' := by
  obtain ⟨r, hR⟩ : ∃ r, (if (n : Int) ≤ left then left - n else -1) = r := ⟨_, rfl⟩
  rw [hR]
  have hnI : (n : Int) ≤ 9223372036854775807 := by omega
  by_cases c : left - (n : Int) < 0
  · rw [if_neg (by omega)] at hR
    have HR := Lib.hid hR
    clear hR
    go_enter Tryd.func23, Tryd.ntmps23
    go_wp2_with fail
    go_ret
    exact ⟨by rw [← HR.out]; rfl, Below.refl _ _⟩
  · have d : decide (left - (n : Int) < 0) = false := decide_eq_false c
    rw [if_pos (by omega)] at hR
    have HR := Lib.hid hR
    clear hR c
    go_enter Tryd.func23, Tryd.ntmps23
    go_wp2_with fail
    go_ret
    exact ⟨by rw [← HR.out]; rfl, Below.refl _ _⟩

theorem szGuests_ok (g : ExGuests) (A0 A1 A2 A3 : Option Addr) (c0 c1 c2 c3 : Nat) (hL : g.Long) (left : Int) (h0 : 0 ≤ left) (h1 : left ≤ 1048576) (w : World) (hg : g.In w A0 A1 A2 A3 c0 c1 c2 c3) :
    Calls Tryd.prog 9 #[.agg (g.cells A0 A1 A2 A3 c0 c1 c2 c3), .int .i64 left] w fun e w' => ∃ r : Int, e = .returned (.int .i64 r) ∧ (0 ≤ r → g.Small) ∧ LeB w w' := by
  have HK := Lib.hid (And.intro hL hg)
  clear hL hg
  go_enter Tryd.func9, Tryd.ntmps9
  go_upto_region 1 with (fail)
  generalize hw0 : World.alloc w (.cells (g.cells A0 A1 A2 A3 c0 c1 c2 c3) 44) = wa
  have hblk : wa.heap[World.heap w |>.size]? = some (.cells (g.cells A0 A1 A2 A3 c0 c1 c2 c3) 44 (0, 0)) := by rw [← hw0]; exact heap_alloc_new _ _
  have hlt : (World.heap w).size < wa.heap.size := (Array.getElem?_eq_some_iff.1 hblk).1
  have hB0 : Below (World.heap w).size w wa := by rw [← hw0]; exact (Below.refl _ _).alloc (Nat.le_refl _) _
  clear hw0
  have HX := Lib.hid (And.intro hblk (And.intro hlt hB0))
  have hb := hblk
  clear hblk hlt hB0
  have q0 := blk_cell hb 0
  have q1 := blk_cell hb 1
  have q2 := blk_cell hb 2
  have q3 := blk_cell hb 3
  simp at q0 q1 q2 q3
  clear hb
  obtain ⟨r1, hr1⟩ : ∃ r1, (if ((g.users.length + ExUser.sum g.users : Nat) : Int) ≤ left then left - (g.users.length + ExUser.sum g.users : Nat) else -1) = r1 := ⟨_, rfl⟩
  have H1 := Lib.hid hr1
  clear hr1
  go_wp2_with fail
  refine (szUserS_ok A0 c0 g.users HK.out.2.l0 HK.out.1.l0 HK.out.1.s0 left h0 h1 r1 H1.out wa (HK.out.2.r0.below HX.out.2.2 (Nat.le_refl _))).mono ?_
  rintro e w1 ⟨rfl, hB1⟩
  clear q0 q1 q2 q3
  have hb := (hB1.block _ HX.out.2.1).trans HX.out.1
  have G1 := Lib.hid (And.intro (LeB.tr HX.out.2.2 hB1) hb)
  clear hB1
  by_cases n1 : r1 < 0
  · go_wp2_with fail
    go_ret
    exact ⟨_, rfl, fun h => absurd h (by decide), G1.out.1⟩
  have d1 : decide (r1 < 0) = false := decide_eq_false n1
  have b1 : 0 ≤ r1 ∧ r1 ≤ 1048576 := by have := H1.out; split at this <;> omega
  obtain ⟨b1, b1'⟩ := b1
  clear n1
  have q0 := blk_cell hb 0
  have q1 := blk_cell hb 1
  have q2 := blk_cell hb 2
  have q3 := blk_cell hb 3
  simp at q0 q1 q2 q3
  clear hb
  obtain ⟨r2, hr2⟩ : ∃ r2, (if ((g.sessions.length + ExSession.sum g.sessions : Nat) : Int) ≤ r1 then r1 - (g.sessions.length + ExSession.sum g.sessions : Nat) else -1) = r2 := ⟨_, rfl⟩
  have H2 := Lib.hid hr2
  clear hr2
  go_wp2_with fail
  refine (szSessionS_ok A1 c1 g.sessions HK.out.2.l1 HK.out.1.l1 HK.out.1.s1 r1 b1 b1' r2 H2.out w1 (HK.out.2.r1.below G1.out.1 (Nat.le_refl _))).mono ?_
  rintro e w2 ⟨rfl, hB1⟩
  clear q0 q1 q2 q3 d1
  have hb := (hB1.block _ (Array.getElem?_eq_some_iff.1 G1.out.2).1).trans G1.out.2
  have G2 := Lib.hid (And.intro (LeB.tr G1.out.1 hB1) hb)
  clear hB1
  by_cases n2 : r2 < 0
  · go_wp2_with fail
    go_ret
    exact ⟨_, rfl, fun h => absurd h (by decide), G2.out.1⟩
  have d2 : decide (r2 < 0) = false := decide_eq_false n2
  have b2 : 0 ≤ r2 ∧ r2 ≤ 1048576 := by have := H2.out; split at this <;> omega
  obtain ⟨b2, b2'⟩ := b2
  clear n2
  have q0 := blk_cell hb 0
  have q1 := blk_cell hb 1
  have q2 := blk_cell hb 2
  have q3 := blk_cell hb 3
  simp at q0 q1 q2 q3
  clear hb
  obtain ⟨r3, hr3⟩ : ∃ r3, (if ((g.fails.length + ExFail.sum g.fails : Nat) : Int) ≤ r2 then r2 - (g.fails.length + ExFail.sum g.fails : Nat) else -1) = r3 := ⟨_, rfl⟩
  have H3 := Lib.hid hr3
  clear hr3
  go_wp2_with fail
  refine (szFailS_ok A2 c2 g.fails HK.out.2.l2 HK.out.1.l2 HK.out.1.s2 r2 b2 b2' r3 H3.out w2 (HK.out.2.r2.below G2.out.1 (Nat.le_refl _))).mono ?_
  rintro e w3 ⟨rfl, hB1⟩
  clear q0 q1 q2 q3 d2
  have hb := (hB1.block _ (Array.getElem?_eq_some_iff.1 G2.out.2).1).trans G2.out.2
  have G3 := Lib.hid (And.intro (LeB.tr G2.out.1 hB1) hb)
  clear hB1
  by_cases n3 : r3 < 0
  · go_wp2_with fail
    go_ret
    exact ⟨_, rfl, fun h => absurd h (by decide), G3.out.1⟩
  have d3 : decide (r3 < 0) = false := decide_eq_false n3
  have b3 : 0 ≤ r3 ∧ r3 ≤ 1048576 := by have := H3.out; split at this <;> omega
  obtain ⟨b3, b3'⟩ := b3
  clear n3
  have q0 := blk_cell hb 0
  have q1 := blk_cell hb 1
  have q2 := blk_cell hb 2
  have q3 := blk_cell hb 3
  simp at q0 q1 q2 q3
  clear hb
  obtain ⟨r4, hr4⟩ : ∃ r4, (if (g.records.length : Int) ≤ r3 then r3 - g.records.length else -1) = r4 := ⟨_, rfl⟩
  have H4 := Lib.hid hr4
  have hcall := szRecordS_ok A3 c3 g.records.length r3 b3 b3' HK.out.1.l3 w3
  rw [hr4] at hcall
  clear hr4
  go_wp2_with fail
  refine hcall.mono ?_
  rintro e w4 ⟨rfl, hB1⟩
  clear q0 q1 q2 q3 d3 hcall
  have G4 := Lib.hid (LeB.tr G3.out.1 hB1)
  clear hB1
  by_cases n4 : r4 < 0
  · go_wp2_with fail
    go_ret
    exact ⟨_, rfl, fun h => absurd h (by decide), G4.out⟩
  have d4 : decide (r4 < 0) = false := decide_eq_false n4
  have hsm : g.Small := by
    have q1 := H1.out
    have q2 := H2.out
    have q3 := H3.out
    have q4 := H4.out
    split at q1 <;> try omega
    split at q2 <;> try omega
    split at q3 <;> try omega
    split at q4 <;> try omega
    constructor <;> omega
  have HS := Lib.hid hsm
  clear n4 hsm
  go_wp2_with fail
  go_ret
  exact ⟨_, rfl, fun _ => HS.out, G4.out⟩

theorem put_grown (w : World) (o k : Nat) (u : Value) : w.grownBy (w.setCell ⟨o, k, none⟩ u) (some o) :=
  ⟨rfl, rfl, rfl, by simp [World.setCell], fun i _ hi => by
    have h : o ≠ i := fun e => hi (congrArg some e.symm)
    simp [World.setCell, Array.getElem?_modify, h]⟩
theorem own_ge {w : World} {B : Nat} {e : TypeId} {size : Nat} {b n c : Nat} {xs : List Value} (h : w.ownsRow B e size (.slice (some ⟨b, 0, none⟩) n c) n xs) : B ≤ b := by
  obtain ⟨A, c', hv, _, _, hA⟩ := own_slice h
  injection hv with h1
  subst h1
  exact (hA _ rfl).1
theorem arr5_0 (a b c d e u : Value) : (#[a, b, c, d, e] : Array Value).setIfInBounds 0 u = #[u, b, c, d, e] := rfl
theorem arr5_1 (a b c d e u : Value) : (#[a, b, c, d, e] : Array Value).setIfInBounds 1 u = #[a, u, c, d, e] := rfl
theorem arr5_2 (a b c d e u : Value) : (#[a, b, c, d, e] : Array Value).setIfInBounds 2 u = #[a, b, u, d, e] := rfl
theorem arr5_3 (a b c d e u : Value) : (#[a, b, c, d, e] : Array Value).setIfInBounds 3 u = #[a, b, c, u, e] := rfl
theorem arr5_4 (a b c d e u : Value) : (#[a, b, c, d, e] : Array Value).setIfInBounds 4 u = #[a, b, c, d, u] := rfl
/-- Two blocks: what came in (p), and what is made (o). -/
structure Two (w0 w : World) (p : Nat) (P : Array Value) (TP : TypeId) (o : Nat) (O : Array Value) (TO : TypeId) : Prop where
  hp : w.heap[p]? = some (.cells P TP (0, 0))
  ho : w.heap[o]? = some (.cells O TO (0, 0))
  ne : p ≠ o
  ge : w0.heap.size ≤ o
  le : LeB w0 w
section
variable {w0 w w' : World} {p o : Nat} {P O : Array Value} {TP TO : TypeId}
theorem Two.below (h : Two w0 w p P TP o O TO) (hb : LeB w w') : Two w0 w' p P TP o O TO :=
  ⟨(hb.block _ (Array.getElem?_eq_some_iff.1 h.hp).1).trans h.hp, (hb.block _ (Array.getElem?_eq_some_iff.1 h.ho).1).trans h.ho, h.ne, h.ge, LeB.tr h.le hb⟩
theorem Two.put (h : Two w0 w p P TP o O TO) (k : Nat) (u : Value) : Two w0 (w.setCell ⟨o, k, none⟩ u) p P TP o (O.setIfInBounds k u) TO :=
  ⟨by rw [← h.hp]; simp [World.setCell, Array.getElem?_modify, h.ne.symm], blk_set h.ho k u, h.ne, h.ge, Below.setCell h.le h.ge u⟩
end
end Go.Proofs.YtokoijnpbdafgaaDoor
