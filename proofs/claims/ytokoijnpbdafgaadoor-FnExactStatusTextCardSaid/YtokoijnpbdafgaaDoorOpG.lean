/- Guests that come in by value are read. -/
import Derived.Test.YtokoijnpbdafgaaDoorOp
import Derived.Test.YtokoijnpbdafgaaDoorExG
namespace Go.Proofs.YtokoijnpbdafgaaDoor
open Go.ChangeShapes Go.WideShapes Go.ChangeAt Go.RowKit Go.Deep
set_option linter.unusedVariables false
set_option linter.unusedSimpArgs false
set_option maxRecDepth 20000

theorem maxLen_le : maxLen ≤ 9223372036854775807 := by decide
section
variable {H : Type} {enc : TypeId × Value → H} {w : World} {base : Nat} {sp : Nat → Bool} {held : Bool} {fuel : Nat} {cs : List Value} {d : DataW H × List MemPlace}
theorem openUserS (h : DataW.trod enc Tryd.prog w base sp held fuel 39 cs = some d) : ∃ (A : Option Addr) (cap : Nat) (l : List ExUser), cs = [.slice A l.length cap] ∧ l.length ≤ cap ∧ cap ≤ maxLen ∧ Rd w A (rowC ExUser.row l) ∧ ∀ x ∈ l, (ExUser.Fit) x := by
  refine open_rows ExUser.row (ExUser.Fit) (fun x => rfl) Tryd.underlying39 Tryd.underlying92 (by kernel_rfl) (by kernel_rfl) (fun vs hl hj => ?_) h
  match vs, hl with
  | [v0, v1, v2, v3, v4, v5], _ =>
    obtain ⟨_, _, _, e0, h0⟩ := hj 0 _ rfl
    obtain ⟨s0, q0, -, b0⟩ := DataW.trod_string Tryd.underlying9 h0
    cases e0
    cases q0
    obtain ⟨_, _, _, e1, h1⟩ := hj 1 _ rfl
    obtain ⟨s1, q1, -, b1⟩ := DataW.trod_string Tryd.underlying9 h1
    cases e1
    cases q1
    obtain ⟨_, _, _, e2, h2⟩ := hj 2 _ rfl
    obtain ⟨s2, q2, -, b2⟩ := DataW.trod_string Tryd.underlying9 h2
    cases e2
    cases q2
    obtain ⟨_, _, _, e3, h3⟩ := hj 3 _ rfl
    obtain ⟨s3, q3, -, b3⟩ := DataW.trod_string Tryd.underlying9 h3
    cases e3
    cases q3
    obtain ⟨_, _, _, e4, h4⟩ := hj 4 _ rfl
    obtain ⟨s4, q4, -, b4⟩ := DataW.trod_int Tryd.underlying3 h4
    cases e4
    cases q4
    obtain ⟨_, _, _, e5, h5⟩ := hj 5 _ rfl
    obtain ⟨s5, q5, -, b5⟩ := DataW.trod_int Tryd.underlying3 h5
    cases e5
    cases q5
    exact ⟨⟨s0, s1, s2, s3, s4, s5⟩, rfl, ⟨Nat.le_trans b0 maxLen_le, Nat.le_trans b1 maxLen_le, Nat.le_trans b2 maxLen_le, Nat.le_trans b3 maxLen_le⟩⟩
theorem openSessionS (h : DataW.trod enc Tryd.prog w base sp held fuel 40 cs = some d) : ∃ (A : Option Addr) (cap : Nat) (l : List ExSession), cs = [.slice A l.length cap] ∧ l.length ≤ cap ∧ cap ≤ maxLen ∧ Rd w A (rowC ExSession.row l) ∧ ∀ x ∈ l, (ExSession.Fit) x := by
  refine open_rows ExSession.row (ExSession.Fit) (fun x => rfl) Tryd.underlying40 Tryd.underlying94 (by kernel_rfl) (by kernel_rfl) (fun vs hl hj => ?_) h
  match vs, hl with
  | [v0, v1, v2, v3, v4, v5, v6, v7, v8, v9], _ =>
    obtain ⟨_, _, _, e0, h0⟩ := hj 0 _ rfl
    obtain ⟨s0, q0, -, b0⟩ := DataW.trod_int Tryd.underlying3 h0
    cases e0
    cases q0
    obtain ⟨_, _, _, e1, h1⟩ := hj 1 _ rfl
    obtain ⟨s1, q1, -, b1⟩ := DataW.trod_int Tryd.underlying3 h1
    cases e1
    cases q1
    obtain ⟨_, _, _, e2, h2⟩ := hj 2 _ rfl
    obtain ⟨s2, q2, -, b2⟩ := DataW.trod_string Tryd.underlying9 h2
    cases e2
    cases q2
    obtain ⟨_, _, _, e3, h3⟩ := hj 3 _ rfl
    obtain ⟨s3, q3, -, b3⟩ := DataW.trod_int Tryd.underlying3 h3
    cases e3
    cases q3
    obtain ⟨_, _, _, e4, h4⟩ := hj 4 _ rfl
    obtain ⟨s4, q4, -, b4⟩ := DataW.trod_int Tryd.underlying3 h4
    cases e4
    cases q4
    obtain ⟨_, _, _, e5, h5⟩ := hj 5 _ rfl
    obtain ⟨s5, q5, -, b5⟩ := DataW.trod_int Tryd.underlying3 h5
    cases e5
    cases q5
    obtain ⟨_, _, _, e6, h6⟩ := hj 6 _ rfl
    obtain ⟨s6, q6, -, b6⟩ := DataW.trod_int Tryd.underlying3 h6
    cases e6
    cases q6
    obtain ⟨_, _, _, e7, h7⟩ := hj 7 _ rfl
    obtain ⟨s7, q7, -, b7⟩ := DataW.trod_int Tryd.underlying3 h7
    cases e7
    cases q7
    obtain ⟨_, _, _, e8, h8⟩ := hj 8 _ rfl
    obtain ⟨s8, q8, -, b8⟩ := DataW.trod_int Tryd.underlying3 h8
    cases e8
    cases q8
    obtain ⟨_, _, _, e9, h9⟩ := hj 9 _ rfl
    obtain ⟨s9, q9, -, b9⟩ := DataW.trod_int Tryd.underlying3 h9
    cases e9
    cases q9
    exact ⟨⟨s0, s1, s2, s3, s4, s5, s6, s7, s8, s9⟩, rfl, Nat.le_trans b2 maxLen_le⟩
theorem openFailS (h : DataW.trod enc Tryd.prog w base sp held fuel 41 cs = some d) : ∃ (A : Option Addr) (cap : Nat) (l : List ExFail), cs = [.slice A l.length cap] ∧ l.length ≤ cap ∧ cap ≤ maxLen ∧ Rd w A (rowC ExFail.row l) ∧ ∀ x ∈ l, (ExFail.Fit) x := by
  refine open_rows ExFail.row (ExFail.Fit) (fun x => rfl) Tryd.underlying41 Tryd.underlying97 (by kernel_rfl) (by kernel_rfl) (fun vs hl hj => ?_) h
  match vs, hl with
  | [v0, v1, v2], _ =>
    obtain ⟨_, _, _, e0, h0⟩ := hj 0 _ rfl
    obtain ⟨s0, q0, -, b0⟩ := DataW.trod_string Tryd.underlying9 h0
    cases e0
    cases q0
    obtain ⟨_, _, _, e1, h1⟩ := hj 1 _ rfl
    obtain ⟨s1, q1, -, b1⟩ := DataW.trod_int Tryd.underlying3 h1
    cases e1
    cases q1
    obtain ⟨_, _, _, e2, h2⟩ := hj 2 _ rfl
    obtain ⟨s2, q2, -, b2⟩ := DataW.trod_int Tryd.underlying3 h2
    cases e2
    cases q2
    exact ⟨⟨s0, s1, s2⟩, rfl, Nat.le_trans b0 maxLen_le⟩
theorem openRecordS (h : DataW.trod enc Tryd.prog w base sp held fuel 42 cs = some d) : ∃ (A : Option Addr) (cap : Nat) (l : List ExRecord), cs = [.slice A l.length cap] ∧ l.length ≤ cap ∧ cap ≤ maxLen ∧ Rd w A (rowC ExRecord.row l) ∧ ∀ x ∈ l, (fun _ => True) x := by
  refine open_rows ExRecord.row (fun _ => True) (fun x => rfl) Tryd.underlying42 Tryd.underlying105 (by kernel_rfl) (by kernel_rfl) (fun vs hl hj => ?_) h
  match vs, hl with
  | [v0, v1, v2, v3, v4], _ =>
    obtain ⟨_, _, _, e0, h0⟩ := hj 0 _ rfl
    obtain ⟨s0, q0, -, b0⟩ := DataW.trod_int Tryd.underlying3 h0
    cases e0
    cases q0
    obtain ⟨_, _, _, e1, h1⟩ := hj 1 _ rfl
    obtain ⟨s1, q1, -, b1⟩ := DataW.trod_int Tryd.underlying3 h1
    cases e1
    cases q1
    obtain ⟨_, _, _, e2, h2⟩ := hj 2 _ rfl
    obtain ⟨s2, q2, -, b2⟩ := DataW.trod_int Tryd.underlying3 h2
    cases e2
    cases q2
    obtain ⟨_, _, _, e3, h3⟩ := hj 3 _ rfl
    obtain ⟨s3, q3, -, b3⟩ := DataW.trod_int Tryd.underlying3 h3
    cases e3
    cases q3
    obtain ⟨_, _, _, e4, h4⟩ := hj 4 _ rfl
    obtain ⟨s4, q4, -⟩ := DataW.trod_bool Tryd.underlying4 h4
    cases e4
    cases q4
    exact ⟨⟨s0, s1, s2, s3, s4⟩, rfl, trivial⟩
/-- Guests by value. -/
theorem openGuests {b0 : Nat} {r : Reach} {v : Value} {d : DataW H} {p : List MemPlace} (hv : Value.okWide Tryd.prog w r b0 44 v) (h : DataW.Trod enc Tryd.prog w base sp held 44 v d p) :
    ∃ (g : ExGuests) (A0 A1 A2 A3 : Option Addr) (c0 c1 c2 c3 : Nat), v = .agg (g.cells A0 A1 A2 A3 c0 c1 c2 c3) ∧ g.In w A0 A1 A2 A3 c0 c1 c2 c3 ∧ g.Long := by
  obtain ⟨cs, rfl, hsz⟩ := okWide_struct Tryd.underlying44 hv
  have hC : Tryd.prog.cellsOf 44 = 5 := by kernel_rfl
  obtain ⟨l⟩ := cs
  match l, hsz.trans hC with
  | [x0, x1, x2, x3, x4], _ =>
    obtain ⟨fuel, hf⟩ := h
    obtain ⟨xs, n, _, hx, _, hlen, hg⟩ := DataW.trod_struct Tryd.underlying44 hf
    match xs, hlen with
    | [y0, y1, y2, y3, y4], _ =>
      obtain ⟨A0, c0, l0, e0, u0, m0, r0, k0⟩ := openUserS (show DataW.trod enc Tryd.prog w base sp held n 39 [x0] = some y0 from hg 0 _ rfl)
      obtain ⟨A1, c1, l1, e1, u1, m1, r1, k1⟩ := openSessionS (show DataW.trod enc Tryd.prog w base sp held n 40 [x1] = some y1 from hg 1 _ rfl)
      obtain ⟨A2, c2, l2, e2, u2, m2, r2, k2⟩ := openFailS (show DataW.trod enc Tryd.prog w base sp held n 41 [x2] = some y2 from hg 2 _ rfl)
      obtain ⟨A3, c3, l3, e3, u3, m3, r3, k3⟩ := openRecordS (show DataW.trod enc Tryd.prog w base sp held n 42 [x3] = some y3 from hg 3 _ rfl)
      obtain ⟨s4, e4, -, -⟩ := DataW.trod_int Tryd.underlying3 (show DataW.trod enc Tryd.prog w base sp held n 3 [x4] = some y4 from hg 4 _ rfl)
      cases e0
      cases e1
      cases e2
      cases e3
      cases e4
      exact ⟨⟨l0, l1, l2, l3, s4⟩, A0, A1, A2, A3, c0, c1, c2, c3, rfl, ⟨u0, u1, u2, u3, r0, r1, r2, r3⟩, ⟨Nat.le_trans u0 (Nat.le_trans m0 maxLen_le), Nat.le_trans u1 (Nat.le_trans m1 maxLen_le), Nat.le_trans u2 (Nat.le_trans m2 maxLen_le), Nat.le_trans u3 (Nat.le_trans m3 maxLen_le), k0, k1, k2⟩⟩
end
end Go.Proofs.YtokoijnpbdafgaaDoor
