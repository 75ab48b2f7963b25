/- Rows of structs in general: a row of structs in its own block is changed in place: an element stored, the elements behind moved to the left, the end cleared. -/
import Derived.Test.YtmjddgdcokbmeaaDoorRl
namespace Go.Proofs.YtmjddgdcokbmeaaDoor
open Go.RowKit
set_option linter.unusedVariables false
set_option linter.unusedSimpArgs false
set_option maxRecDepth 20000
set_option maxHeartbeats 600000

/-- The cells cs, those from o on being vs. -/
def layC (cur : Array Value) (o : Nat) (vs : List Value) : Array Value := (cur.toList.take o ++ vs ++ cur.toList.drop (o + vs.length)).toArray
theorem layC_size (cur : Array Value) (o : Nat) (vs : List Value) (h : o + vs.length ≤ cur.size) : (layC cur o vs).size = cur.size := by
  unfold layC
  simp
  omega
theorem layC_list (cur : Array Value) (o : Nat) (vs : List Value) : (layC cur o vs).toList = cur.toList.take o ++ vs ++ cur.toList.drop (o + vs.length) := rfl
/-- A list's cells stand at a block's head. -/
def Heads {α : Type} (f : α → List Value) (l : List α) (cur : Array Value) : Prop := ∃ rest, cur.toList = rowC f l ++ rest
theorem Heads.set {α : Type} {f : α → List Value} {n : Nat} (hf : ∀ x, (f x).length = n) {l : List α} {cur : Array Value} (h : Heads f l cur) (k : Nat) (hk : k < l.length) (x : α) : Heads f (l.set k x) (layC cur (k * n) (f x)) := by
  obtain ⟨rest, hr⟩ := h
  refine ⟨rest, ?_⟩
  have hl := rowC_len hf l
  have e1 : k * n + n ≤ l.length * n := by rw [← Nat.succ_mul]; exact Nat.mul_le_mul_right _ hk
  rw [layC_list, hr, hf, List.take_append_of_le_length (by omega), List.drop_append_of_le_length (by omega), ← rowC_take hf l k (by omega), ← Nat.succ_mul, ← rowC_drop hf l (k + 1) (by omega), List.set_eq_take_append_cons_drop, if_pos hk, rowC_app, rowC_cons]
  simp [List.append_assoc]
theorem Heads.erase {α : Type} {f : α → List Value} {n : Nat} (hf : ∀ x, (f x).length = n) {l : List α} {cur : Array Value} (h : Heads f l cur) (k : Nat) (hk : k < l.length) : Heads f (l.eraseIdx k) (layC cur (k * n) (rowC f (l.drop (k + 1)))) := by
  obtain ⟨rest, hr⟩ := h
  have hl := rowC_len hf l
  have e1 : k * n ≤ l.length * n := Nat.mul_le_mul_right _ (by omega)
  refine ⟨cur.toList.drop (k * n + (rowC f (l.drop (k + 1))).length), ?_⟩
  rw [layC_list, hr, List.take_append_of_le_length (by omega), ← rowC_take hf l k (by omega), List.eraseIdx_eq_take_drop_succ, rowC_app]
/-- The next element is laid behind a list that stands at a block's head. -/
theorem Heads.push {α : Type} {f : α → List Value} {n : Nat} (hf : ∀ x, (f x).length = n) {l : List α} {cur : Array Value} (h : Heads f l cur) (x : α) : Heads f (l ++ [x]) (layC cur (l.length * n) (f x)) := by
  obtain ⟨rest, hr⟩ := h
  refine ⟨cur.toList.drop (l.length * n + (f x).length), ?_⟩
  rw [layC_list, hr, List.take_left' (rowC_len hf l), rowC_app]
  simp [rowC]
theorem Heads.cut {α : Type} {f : α → List Value} {n : Nat} (hf : ∀ x, (f x).length = n) {l : List α} {cur : Array Value} (h : Heads f l cur) (k : Nat) (hk : k ≤ l.length) : Heads f (l.take k) cur := by
  obtain ⟨rest, hr⟩ := h
  exact ⟨rowC f (l.drop k) ++ rest, by rw [hr, ← List.append_assoc, ← rowC_app, List.take_append_drop]⟩
/-- What lies behind the list may turn. -/
theorem Heads.behind {α : Type} {f : α → List Value} {n : Nat} (hf : ∀ x, (f x).length = n) {l : List α} {cur : Array Value} (h : Heads f l cur) (o : Nat) (ho : l.length * n ≤ o) (vs : List Value) (hc : o ≤ cur.size) : Heads f l (layC cur o vs) := by
  obtain ⟨rest, hr⟩ := h
  have hl := rowC_len hf l
  refine ⟨rest.take (o - l.length * n) ++ vs ++ cur.toList.drop (o + vs.length), ?_⟩
  rw [layC_list, hr, List.take_append, List.take_of_length_le (by omega), hl]
  simp [List.append_assoc]
/-- A cell of an element is stored. -/
theorem Heads.put {α : Type} {f : α → List Value} {n : Nat} (hf : ∀ x, (f x).length = n) {l : List α} {cur : Array Value} (h : Heads f l cur) (k : Nat) (hk : k < l.length) (x : α) (j : Nat) (hj : j < n) (u : Value) (hx : (f l[k]).set j u = f x) : Heads f (l.set k x) (cur.setIfInBounds (k * n + j) u) := by
  obtain ⟨rest, hr⟩ := h
  have hl := rowC_len hf l
  have e1 : k * n + n ≤ l.length * n := by rw [← Nat.succ_mul]; exact Nat.mul_le_mul_right _ hk
  refine ⟨rest, ?_⟩
  rw [Array.toList_setIfInBounds, hr, List.set_append, if_pos (by omega), rowC_set hf l k hk x j hj u hx]
theorem Heads.rd {α : Type} {f : α → List Value} {l : List α} {w : World} {g : Nat} {cur : Array Value} {e : TypeId} {fr : Nat × Nat} (h : Heads f l cur) (hb : w.heap[g]? = some (.cells cur e fr)) : Rd w (some ⟨g, 0, none⟩) (rowC f l) := by
  obtain ⟨rest, hr⟩ := h
  intro j u hu
  have hj := (List.getElem?_eq_some_iff.1 hu).1
  obtain ⟨ad, e1, hc⟩ := Rd.block hb 0 j u (by rw [List.drop_zero, hr, List.getElem?_append_left hj]; exact hu)
  exact ⟨ad, e1, hc⟩
theorem own_heads {α : Type} {f : α → List Value} {n : Nat} {w : World} {B c : Nat} {A : Option Addr} {e : TypeId} {l : List α} (h : w.ownsRow B e n (.slice A l.length c) l.length (rowC f l)) (hl : l ≠ []) :
    ∃ g cur, A = some ⟨g, 0, none⟩ ∧ B ≤ g ∧ w.heap[g]? = some (.cells cur e (0, 0)) ∧ l.length ≤ c ∧ c ≤ maxLen ∧ cur.size = c * n ∧ Heads f l cur := by
  obtain ⟨hlen, ⟨e1, e2⟩ | ⟨g', cap', cur, e1, hB, hb, hc, hm, hs, ht⟩⟩ := h
  · exact absurd (List.length_eq_zero_iff.1 e2) hl
  · cases e1
    refine ⟨g', cur, rfl, hB, hb, hc, hm, hs, ⟨cur.toList.drop (l.length * n), ?_⟩⟩
    conv => lhs; rw [← List.take_append_drop (l.length * n) cur.toList, ht]
theorem heads_own {α : Type} {f : α → List Value} {n : Nat} (hf : ∀ x, (f x).length = n) {w : World} {B g c : Nat} {e : TypeId} {l : List α} {cur : Array Value} (hB : B ≤ g) (hb : w.heap[g]? = some (.cells cur e (0, 0))) (hc : l.length ≤ c) (hm : c ≤ maxLen) (hs : cur.size = c * n) (h : Heads f l cur) :
    w.ownsRow B e n (.slice (some ⟨g, 0, none⟩) l.length c) l.length (rowC f l) := by
  obtain ⟨rest, hr⟩ := h
  exact ⟨rowC_len hf l, .inr ⟨g, c, cur, rfl, hB, hb, hc, hm, hs, by rw [hr, List.take_left' (rowC_len hf l)]⟩⟩
/-- append onto a slice of a row with room, as it lies in its block. -/
theorem run_append_lay {P : Program} (w : World) (t ty e : TypeId) (i : TypeInfo) (ht : P.underlying t = some (.slice e)) (hi : P.info? e = some i) (g sLen sCap : Nat) (E : TypeId) (cur : Array Value) (hb : w.heap[g]? = some (.cells cur E (0, 0)))
    (A : Option Addr) (m c : Nat) (news : List Value) (hl : news.length = m * i.size) (hA : A ≠ none) (hr : Rd w A news) (h1 : ∀ u ∈ news, u.oneCell' = true) (hroom : sLen + m ≤ sCap) (hs : sLen * i.size + news.length ≤ cur.size) :
    (Builtin.append_ #[t, t] ty #[.slice (some ⟨g, 0, none⟩) sLen sCap, .slice A m c]).run P w = .ok (.slice (some ⟨g, 0, none⟩) (sLen + m) sCap) (w.setRow g (layC cur (sLen * i.size) news)) := by
  obtain ⟨a, rfl⟩ := Option.ne_none_iff_exists'.1 hA
  have hfc := run_firstCells_some (P := P) w i.size m a m c news hl (fun j u hu => by
    obtain ⟨ad, e1, h⟩ := hr j u hu
    cases e1
    exact h)
  have hst := run_storeCells_at (P := P) g (sLen * i.size) E news 0 cur w hb (by omega) h1
  simp only [Nat.add_zero] at hst
  simp [Builtin.append_, run_underlying ht, sizeOf, typeInfo, hi, Builtin.lenOf, hroom, hfc, Addr.add_lit, hst, layC]
/-- clear(s), s a slice that lies in a row's block. -/
theorem run_clear_lay {P : Program} (w : World) (t e ty : TypeId) (z : Value) (ht : P.underlying t = some (.slice e)) (hv : ∀ w, (zeroValue e).run P w = .ok z w) (g o n c : Nat) (E : TypeId) (cur : Array Value) (hb : w.heap[g]? = some (.cells cur E (0, 0)))
    (h1 : ∀ u ∈ z.cells.toList, u.oneCell' = true) (hz : 0 < z.cells.size) (hs : o + n * z.cells.size ≤ cur.size) :
    (Builtin.clear_ #[t] ty #[.slice (some ⟨g, o, none⟩) n c]).run P w = .ok (.tuple #[]) (w.setRow g (layC cur o (Builtin.zeroCells z.cells n).toList)) := by
  have hzl : (Builtin.zeroCells z.cells n).toList.length = n * z.cells.size := by simp [Builtin.zeroCells]
  have hz1 : ∀ u ∈ (Builtin.zeroCells z.cells n).toList, u.oneCell' = true := by
    intro u hu
    simp only [Builtin.zeroCells, Array.toList_map, List.mem_map] at hu
    obtain ⟨k, _, rfl⟩ := hu
    have hk : k % z.cells.size < z.cells.size := Nat.mod_lt _ hz
    rw [getElem!_pos z.cells _ hk]
    exact h1 _ (by simp)
  rcases Nat.eq_zero_or_pos n with rfl | hn
  · have e0 : (Builtin.zeroCells z.cells 0).toList = [] := List.eq_nil_of_length_eq_zero (by rw [hzl]; omega)
    rw [e0]
    have e2 : layC cur o [] = cur := by simp [layC]
    rw [e2, setRow_self w g cur E (0, 0) hb]
    simp [Builtin.clear_, run_underlying ht]
  · have hst := run_storeCells_at (P := P) g o E (Builtin.zeroCells z.cells n).toList 0 cur w hb (by rw [hzl]; omega) hz1
    simp only [Nat.add_zero] at hst
    obtain ⟨m, rfl⟩ : ∃ m, n = m + 1 := ⟨n - 1, by omega⟩
    simp [Builtin.clear_, run_underlying ht, hv, hst, layC]
/-- A whole struct stored at a place of a row's block. -/
theorem run_store_lay {P : Program} (w : World) (g o : Nat) (T E : TypeId) (cur cs : Array Value) (hb : w.heap[g]? = some (.cells cur E (0, 0))) (hs : o + cs.size ≤ cur.size) (hi : (P.info? T).map (·.size) = some cs.size) (h1 : cs.toList.all (·.oneCell') = true) :
    (Instr.storeAt T (.pointer (some ⟨g, o, none⟩)) (.agg cs)).run P w = .ok () (w.setRow g (layC cur o cs.toList)) := by
  have h := run_storeCells_at (P := P) g o E cs.toList 0 cur w hb (by simpa using hs) (fun u hu => List.all_eq_true.1 h1 u hu)
  simp only [Nat.add_zero] at h
  obtain ⟨i, hi1, hi2⟩ := Option.map_eq_some_iff.1 hi
  simp only [Instr.storeAt, Instr.sureAddr, Sem.run_bind, Sem.run_pure, Result.andThen_ok, storeVar, sizeOf, typeInfo]
  simp [hi1, hi2, Value.cells, h, layC]
theorem wpList_store_lay {P : Program} {ops : Array Oper} {rest : List Oper} {o : Oper} {a : Act} {Q : Exit → Act → World → Prop} {w : World} (hgd : o.guard = none) (x y : Operand) (T : TypeId) (ho : o.op = .store T x y) (g at_ : Nat) (E : TypeId) (cur cs : Array Value) (hx : a.eval x = .pointer (some ⟨g, at_, none⟩)) (hy : a.eval y = .agg cs)
    (hb : w.heap[g]? = some (.cells cur E (0, 0))) (hs : at_ + cs.size ≤ cur.size) (hi : (P.info? T).map (·.size) = some cs.size) (h1 : cs.toList.all (·.oneCell') = true) (h : wpList P ops Q rest (a.put o.dst undef) (w.setRow g (layC cur at_ cs.toList))) : wpList P ops Q (o :: rest) a w :=
  wpList_plain hgd fun K hK => by
    unfold Oper.wp execOp
    simp only [ho, Sem.run_bind, Sem.run_pure, Result.andThen_ok, hx, hy, run_store_lay w g at_ T E cur cs hb hs hi h1]
    exact hK _ _ h
end Go.Proofs.YtmjddgdcokbmeaaDoor
