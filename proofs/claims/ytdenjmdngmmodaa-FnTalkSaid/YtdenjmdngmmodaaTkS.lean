/- A whole struct stored into a new block within a region of open order. -/
import Derived.Test.YtdenjmdngmmodaaTkD
namespace Go.Proofs.Ytdenjmdngmmodaa
open Go.RowKit
set_option linter.unusedVariables false
set_option linter.unusedSimpArgs false
set_option maxRecDepth 20000
set_option maxHeartbeats 600000

def cnZero : Array Value := #[.string ⟨#[]⟩, .int .i64 0, .int .i64 0, .int .i64 0, .int .i64 0, .int .i64 0, .int .i64 0, .int .i64 0, .string ⟨#[]⟩, .string ⟨#[]⟩, .bool false]
/-- .. but that a new connection's block may have been filled. -/
def LeS (N : Array Value) (w w' : World) : Prop := w.heap.size ≤ w'.heap.size ∧ ∀ k, k < w.heap.size → w'.heap[k]? = w.heap[k]? ∨ (w.heap[k]? = some (.cells cnZero 48 (0, 0)) ∧ w'.heap[k]? = some (.cells N 48 (0, 0)))
theorem LeS.of {N : Array Value} {w w' : World} (h : LeB w w') : LeS N w w' := ⟨h.size, fun k hk => .inl (h.block k hk)⟩
def PtrSp (B : Nat) (N : Array Value) : Spec := fun _ v w => ∃ g, v = .pointer (some ⟨g, 0, none⟩) ∧ B ≤ g ∧ (w.heap[g]? = some (.cells cnZero 48 (0, 0)) ∨ w.heap[g]? = some (.cells N 48 (0, 0)))
def StoSp (N : Array Value) : Spec := fun x _ w => ∃ g, x = #[.pointer (some ⟨g, 0, none⟩), .agg N] ∧ w.heap[g]? = some (.cells N 48 (0, 0))
theorem LeS.fill {N : Array Value} {w w' : World} (h : LeS N w w') {g : Nat} (hg : w.heap[g]? = some (.cells N 48 (0, 0))) : w'.heap[g]? = some (.cells N 48 (0, 0)) := by
  rcases h.2 g (Array.getElem?_eq_some_iff.1 hg).1 with e | ⟨_, e⟩
  · exact e.trans hg
  · exact e
theorem PtrSp.st {B : Nat} {N : Array Value} {x : Array Value} {v : Value} {w w' : World} (hL : LeS N w w') (h : PtrSp B N x v w) : PtrSp B N x v w' := by
  obtain ⟨g, h1, h2, h3 | h3⟩ := h
  · refine ⟨g, h1, h2, ?_⟩
    rcases hL.2 g (Array.getElem?_eq_some_iff.1 h3).1 with e | ⟨_, e⟩
    · exact .inl (e.trans h3)
    · exact .inr e
  · exact ⟨g, h1, h2, .inr (hL.fill h3)⟩
theorem StoSp.st {N : Array Value} {x : Array Value} {v : Value} {w w' : World} (hL : LeS N w w') (h : StoSp N x v w) : StoSp N x v w' := by
  obtain ⟨g, h1, h2⟩ := h
  exact ⟨g, h1, hL.fill h2⟩
theorem gives_store {P : Program} {o : Oper} {a : Act} {w : World} {R : Value → World → Prop} (x y : Operand) (T : TypeId) (ho : o.op = .store T x y) (b : Nat) (E : TypeId) (cur cs : Array Value) (hx : a.eval x = .pointer (some ⟨b, 0, none⟩)) (hy : a.eval y = .agg cs)
    (hb : w.heap[b]? = some (.cells cur E (0, 0))) (hs : cur.size = cs.size) (hi : (P.info? T).map (·.size) = some cs.size) (h1 : cs.toList.all (·.oneCell') = true) (h : R undef (w.setRow b cs)) : gives P o a w R := by
  unfold gives execOp
  simp only [ho, Sem.run_bind, Sem.run_pure, Result.andThen_ok, hx, hy, run_store_row w b T E cur cs hb hs hi h1]
  exact h
section
variable {ops : Array Oper} {φ : Nat → Option Spec} {B : List Nat} {w0 : World} {N : Array Value}
theorem lexS_store {i j : Nat} {o : Oper} {r : List (Nat × Oper)} {fin : Act → Facts → Prop} {F : Facts} {a : Act} {x y : Operand} {g : Nat} {xj : Array Value} (hg : o.guard = none) (hφ : φ i = some (StoSp N))
    (ho : o.op = .store 48 x y) (hx : a.eval x = .pointer (some ⟨g, 0, none⟩)) (hy : a.eval y = .agg N) (hd : o.dst = none) (hN : N.size = 11) (hN1 : N.toList.all (·.oneCell') = true) (hj : ancB B i j = true) (hFj : F j = some (xj, .pointer (some ⟨g, 0, none⟩))) (hφj : φ j = some (PtrSp w0.heap.size N))
    (h2 : ∀ v, lexR Try.prog ops (JB w0) (LeS N) φ B r fin (upd F i (#[.pointer (some ⟨g, 0, none⟩), .agg N], v)) a) : lexR Try.prog ops (JB w0) (LeS N) φ B ((i, o) :: r) fin F a := by
  have hxa : argsOf a o = #[.pointer (some ⟨g, 0, none⟩), .agg N] := by unfold argsOf; rw [ho]; simp [Op.operands, hx, hy]
  refine lex_eff hg hφ (fun m W hJ hf => ?_) (fun v hP => ?_)
  · obtain ⟨g', e1, hB, h3⟩ := hf j hj _ _ _ hFj hφj
    cases e1
    have key : ∀ cur, W.heap[g]? = some (.cells cur 48 (0, 0)) → cur.size = 11 → (cur = cnZero ∨ cur = N) → gives Try.prog o a W (fun v w' => JB w0 m w' ∧ LeS N W w' ∧ StoSp N (argsOf a o) v w') := fun cur hc hs hcn => by
      refine gives_store x y 48 ho g 48 cur N hx hy hc (by rw [hs, hN]) (by rw [hN]; exact infoCn) hN1 ⟨below_setRow hJ hB N, ⟨by simp [World.setRow], fun k hk => ?_⟩, ?_⟩
      · by_cases hkg : k = g
        · subst hkg
          rcases hcn with rfl | rfl
          · exact .inr ⟨hc, setRow_heap _ _ _ _ _ _ hc⟩
          · exact .inl ((setRow_heap _ _ _ _ _ _ hc).trans hc.symm)
        · exact .inl (setRow_other W g k N hkg)
      · rw [hxa]
        exact ⟨g, rfl, setRow_heap _ _ _ _ _ _ hc⟩
    rcases h3 with h3 | h3
    · exact key _ h3 rfl (.inl rfl)
    · exact key _ h3 hN (.inr rfl)
  · rw [hxa]
    have e : a.put o.dst v = a := by rw [hd]; rfl
    rw [e]
    exact h2 v
end
def tkφ (B : Nat) (r : Value) (N : Array Value) : Nat → Option Spec
  | 8 => some fun _ v _ => ∃ v2, v = .tuple #[r, v2, .int .i64 0]
  | 13 => some (PtrSp B N)
  | 14 => some (StoSp N)
  | _ => none
theorem tkφ_st {B : Nat} {r : Value} {N : Array Value} : ∀ j sp x v w w', tkφ B r N j = some sp → LeS N w w' → sp x v w → sp x v w' := by
  intro j sp x v w w' hj hL h
  unfold tkφ at hj
  split at hj
  · cases hj; exact h
  · cases hj; exact PtrSp.st hL h
  · cases hj; exact StoSp.st hL h
  · cases hj
end Go.Proofs.Ytdenjmdngmmodaa
