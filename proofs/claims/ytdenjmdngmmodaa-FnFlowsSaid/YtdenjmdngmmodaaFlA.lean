/- Flows: small contracts, of ports and bits (as those of the connections, here so that these need not be imported). -/
import Derived.Test.YtdenjmdngmmodaaFnPk
import Derived.Test.YtdenjmdngmmodaaLexC
namespace Go.Proofs.Ytdenjmdngmmodaa
open Go.RowKit
set_option linter.unusedVariables false
set_option linter.unusedSimpArgs false
set_option maxRecDepth 200000
set_option maxHeartbeats 4000000

theorem l02Port_okF (n : Nat) (h : n < 65536) (w : World) : Calls Try.prog 133 #[.int .i64 n] w fun e w' => e = .returned (.bool true) ∧ w = w' := by
  go_enter Try.func133, Try.ntmps133
  go_wp2_with fail
  refine (l01In_ok _ _ _ _).mono ?_
  rintro e w1 ⟨rfl, rfl⟩
  rw [show decide ((0 : Int) ≤ n ∧ (n : Int) ≤ 65535) = true from by simp; omega]
  go_wp2
  go_ret
  exact ⟨rfl, rfl⟩
theorem bits_andF (f : Nat) (hf : f < 32) (k : Nat) (hk : k ∈ [1, 2, 4, 16]) : (bits .and .i64 (f : Int) (k : Int) = 0 ∧ Nat.land f k = 0) ∨ (bits .and .i64 (f : Int) (k : Int) = k ∧ Nat.land f k = k) := by
  have h : ∀ f : Nat, f < 32 → ∀ k ∈ [1, 2, 4, 16], (bits .and .i64 (f : Int) ((k : Nat) : Int) = 0 ∧ Nat.land f k = 0) ∨ (bits .and .i64 (f : Int) ((k : Nat) : Int) = ((k : Nat) : Int) ∧ Nat.land f k = k) := by decide +kernel
  exact h f hf k hk
/-- A region whose calls only answer, with these values. -/
def qphiF (l : List (Nat × Value)) : Nat → Option Spec := fun i => (l.lookup i).map fun u => fun _ v _ => v = u
theorem qphiF_st {l : List (Nat × Value)} {Le : World → World → Prop} : ∀ j sp x v w w', qphiF l j = some sp → Le w w' → sp x v w → sp x v w' := by
  intro j sp x v w w' hj _ h
  unfold qphiF at hj
  cases hl : l.lookup j with
  | none => rw [hl] at hj; cases hj
  | some u => rw [hl] at hj; cases hj; exact h
/-- A row loaded within a region of open order. -/
theorem run_exec_loadF {P : Program} {o : Oper} {a : Act} {w : World} {T : TypeId} {x : Operand} {b : Nat} {cs : Array Value} {E : TypeId} {fr : Nat × Nat} {d : TypeDesc} (ho : o.op = .load T x) (hx : a.eval x = .pointer (some ⟨b, 0, none⟩)) (hb : w.heap[b]? = some (.cells cs E fr)) (hu : P.underlying T = some d) (hd : d.isRow = true) (hi : (P.info? T).map (·.size) = some cs.size) :
    (execOp a.eval o).run P w = .ok (.value (.agg cs)) w := by
  unfold execOp
  simp [ho, hx, run_load_row w b T E cs hb hu hd hi]
end Go.Proofs.Ytdenjmdngmmodaa
