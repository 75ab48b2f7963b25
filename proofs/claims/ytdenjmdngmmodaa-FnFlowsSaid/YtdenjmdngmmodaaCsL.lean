/- append to a full row; a row of bytes drawn (words for the law of connections). -/
import Derived.Test.YtdenjmdngmmodaaConcat
import Derived.Test.YtdenjmdngmmodaaLexB
import Derived.ArgAppend
namespace Go.Proofs.Ytdenjmdngmmodaa
open Go.RowKit
set_option linter.unusedVariables false
set_option linter.unusedSimpArgs false
set_option maxRecDepth 20000
set_option maxHeartbeats 600000

/-- append to a row that is full: what is new lies in new blocks. -/
theorem append_full (w : World) (b n : Nat) (bs : List UInt8) (hn : bs.length = n) (hb : Rd w (some ⟨b, 0, none⟩) (bs.map bV)) (A : Option Addr) (c : Nat) (ns : List UInt8) (hr : Rd w A (ns.map bV))
    (h : n + ns.length ≤ 1099511627776) :
    ∃ A' c' w', (Builtin.append_ #[22, 22] 22 #[.slice (some ⟨b, 0, none⟩) n n, .slice A ns.length c]).run Try.prog w = .ok (.slice A' (bs ++ ns).length c') w' ∧ (bs ++ ns).length ≤ c' ∧ Rd w' A' ((bs ++ ns).map bV) ∧ LeB w w' := by
  subst hn
  obtain ⟨i, hi, hz, hs, hby⟩ := info_parts info_u8
  by_cases hns : ns = []
  · subst hns
    cases A with
    | none => exact ⟨some ⟨b, 0, none⟩, bs.length, w, by simp [Builtin.append_, run_underlying Try.underlying22, sizeOf, typeInfo, hi, Builtin.lenOf, Builtin.firstCells, storeCells], by simp, by simpa using hb, Below.refl _ _⟩
    | some ad =>
      have hrun := run_append_room_cells (P := Try.prog) w 22 22 5 i Try.underlying22 hi b 0 bs.length bs.length ad 0 c [] (by simp) (by intro j u hu; simp at hu) (by simp) (by omega) (by simp) (by simp)
      have e : w.setCells b (0 + bs.length * i.size) [] = w := rfl
      rw [e] at hrun
      exact ⟨some ⟨b, 0, none⟩, bs.length, w, by simpa using hrun, by simp, by simpa using hb, Below.refl _ _⟩
  · obtain ⟨ad, rfl, -⟩ := hr.lt (by simpa using hns)
    have hpos : 0 < ns.length := List.length_pos_iff.2 hns
    obtain ⟨v', w', hrun, hown, hg⟩ := run_append_arg_grows (P := Try.prog) w 22 22 5 i _ 1 1 Try.underlying22 hi hz hs hby rfl (by omega) ⟨b, 0, none⟩ bs.length bs.length (bs.map bV) (by simp) (fun j u hu => by
        obtain ⟨ad', e1, h⟩ := hb j u hu
        cases e1
        exact h) ad ns.length c (ns.map bV) (by simp) (fun j u hu => by
        obtain ⟨ad', e1, h⟩ := hr j u hu
        cases e1
        exact h) (by omega) (by simp only [maxLen]; omega) (by omega)
    rw [← List.length_append, ← List.map_append] at hown
    obtain ⟨A', c', rfl, hc', hr', -⟩ := own_slice hown
    exact ⟨A', c', w', hrun, hc', hr', ⟨hg.os, hg.tape, hg.output, hg.size, fun k hk => hg.block k hk (by simp)⟩⟩
theorem gives_append {P : Program} {o : Oper} {a : Act} {w w' : World} {R : Value → World → Prop} (s x : Operand) (t u : TypeId) (ho : o.op = .call { callee := .builtin .append, args := #[s, x], argTypes := #[t, u] }) {vs vx v' : Value} (hs : a.eval s = vs) (hx : a.eval x = vx)
    (hrun : (Builtin.append_ #[t, u] o.type #[vs, vx]).run P w = .ok v' w') (hR : R v' w') : gives P o a w R := by
  unfold gives execOp
  simp only [ho, resolve, invoke, builtin, Sem.run_bind, Sem.run_pure, Result.andThen_ok, List.map_toArray, List.map_cons, List.map_nil, hs, hx, hrun]
  exact hR
/-- Bytes that lie in some block from B on, its first cell; a new row of one byte, of n bytes. -/
def ByRow (bs : List UInt8) : Spec := fun _ v w => ∃ b, v = .slice (some ⟨b, 0, none⟩) bs.length bs.length ∧ Rd w (some ⟨b, 0, none⟩) (bs.map bV)
def NewAt (B : Nat) (cs : Array Value) (T : TypeId) : Spec := fun _ v w => ∃ b, v = .pointer (some ⟨b, 0, none⟩) ∧ B ≤ b ∧ w.heap[b]? = some (.cells cs T (0, 0))
theorem ByRow.st {bs : List UInt8} {x : Array Value} {v : Value} {w w' : World} (hL : LeB w w') (h : ByRow bs x v w) : ByRow bs x v w' := by
  obtain ⟨b, h1, h2⟩ := h
  exact ⟨b, h1, h2.below hL (Nat.le_refl _)⟩
theorem NewAt.st {B : Nat} {cs : Array Value} {T : TypeId} {x : Array Value} {v : Value} {w w' : World} (hL : LeB w w') (h : NewAt B cs T x v w) : NewAt B cs T x v w' := by
  obtain ⟨b, h1, h2, h3⟩ := h
  exact ⟨b, h1, h2, (hL.block b (Array.getElem?_eq_some_iff.1 h3).1).trans h3⟩
end Go.Proofs.Ytdenjmdngmmodaa
