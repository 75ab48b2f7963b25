/- Copying into a row of one's own, and a string's bytes put behind it. -/
import Derived.Test.YtdenjmdngmmodaaPk
import Derived.Test.YtdenjmdngmmodaaSum
import Derived.Laws.IdiomCopy
import Derived.Lib.AppendStr
namespace Go.Proofs.Ytdenjmdngmmodaa
open Go.RowKit
set_option linter.unusedVariables false
set_option linter.unusedSimpArgs false
set_option maxRecDepth 20000

theorem append_str (w : World) (base : Nat) (v : Value) (bs : List UInt8) (hown : w.ownsRow base 5 1 v bs.length (bs.map bV)) (s : ByteArray) (hl : bs.length + s.size ≤ 1000000) (hbase : base ≤ w.heap.size) :
    ∃ v' w', (Builtin.append_ #[22, 9] 22 #[v, .string s]).run Try.prog w = .ok v' w' ∧ w'.ownsRow base 5 1 v' (bs ++ sb s).length ((bs ++ sb s).map bV) ∧ w.grownBy w' v.ownBlock := by
  obtain ⟨i, hi⟩ : ∃ i, Try.prog.info? 5 = some i := Option.isSome_iff_exists.1 (by kernel_rfl)
  have hz := info_u8
  rw [hi] at hz
  simp only [Option.map_some, Option.some.injEq, Prod.mk.injEq] at hz
  obtain ⟨v', w', h1, h2, h3, -⟩ := Lib.run_append_own_string (P := Try.prog) w base 22 9 22 5 i Try.underlying22 Try.underlying9 hi hz.1 hz.2.1 hz.2.2 v bs.length (bs.map bV) hown s (by simp [maxLen]; omega) (by omega) hbase
  refine ⟨v', w', h1, ?_, h3⟩
  rw [List.length_append, sb_len, List.map_append]
  exact h2

/-- The cells behind a copy. -/
def setL (cur : Array Value) : Nat → List Value → Array Value
  | _, [] => cur
  | o, v :: r => setL (cur.setIfInBounds o v) (o + 1) r
theorem setL_size (vs : List Value) : ∀ (cur : Array Value) (o : Nat), (setL cur o vs).size = cur.size := by
  induction vs with
  | nil => intro cur o; rfl
  | cons v r ih => intro cur o; rw [setL, ih]; simp
theorem setCells_heap {g : Nat} {E : TypeId} {fr : Nat × Nat} : ∀ (vs : List Value) (o : Nat) (w : World) (cur : Array Value), w.heap[g]? = some (.cells cur E fr) → (w.setCells g o vs).heap[g]? = some (.cells (setL cur o vs) E fr)
  | [], _, _, _, h => h
  | v :: r, o, w, cur, h => setCells_heap r (o + 1) _ _ (blk_set h o v)
theorem setCells_below {B : Nat} {a : World} (b : Nat) (hb : B ≤ b) : ∀ (vs : List Value) (o : Nat) {w : World}, Below B a w → Below B a (w.setCells b o vs)
  | [], _, _, h => h
  | v :: r, o, _, h => setCells_below b hb r (o + 1) (h.setCell (p := ⟨b, o, none⟩) hb v)
theorem copy_row (w : World) (g : Nat) (cur : Array Value) (o dl dc : Nat) (A : Option Addr) (c : Nat) (bs : List UInt8) (hb : w.heap[g]? = some (.cells cur 5 (0, 0))) (ho : o + bs.length ≤ cur.size) (hdl : bs.length ≤ dl) (hne : bs ≠ []) (hr : Rd w A (bs.map bV)) :
    (Builtin.copy_ #[22, 22] 3 #[.slice (some ⟨g, o, none⟩) dl dc, .slice A bs.length c]).run Try.prog w = .ok (.int .i64 (bs.length : Int)) (w.setCells g o (bs.map bV)) := by
  obtain ⟨ad, rfl, -⟩ := hr.at_ (k := 0) (by cases bs with | nil => exact absurd rfl hne | cons b t => simp)
  have h := run_copy_cells (P := Try.prog) w 22 22 3 5 g o dl dc ad bs.length c (bs.map bV) Try.underlying22 (by kernel_rfl) (by rw [List.length_map]; exact (Nat.min_eq_left hdl).symm)
    (fun j u hj => by obtain ⟨ad', e, h⟩ := hr j u hj; cases e; exact h)
    (fun j hj => by rw [blk_cell hb, List.length_map] at *; simp; omega) (fun j hj => blk_free hb _) (fun u hu => by obtain ⟨x, -, rfl⟩ := List.mem_map.1 hu; rfl)
  rw [List.length_map] at h
  exact h
/-- The operation copy, by an equation on its run. -/
theorem wpList_copy_eq {P : Program} {ops : Array Oper} {rest : List Oper} {o : Oper} {a : Act} {Q : Exit → Act → World → Prop} {w w' : World} (hgd : o.guard = none) (d s : Operand) (t t' : TypeId)
    (ho : o.op = .call { callee := .builtin .copy, args := #[d, s], argTypes := #[t, t'] }) {v u v' : Value} (hd : a.eval d = v) (hs : a.eval s = u)
    (hr : (Builtin.copy_ #[t, t'] o.type #[v, u]).run P w = .ok v' w') (h : wpList P ops Q rest (a.put o.dst v') w') : wpList P ops Q (o :: rest) a w :=
  wpList_plain hgd fun K hK => by
    unfold Oper.wp execOp
    simp only [ho, resolve, invoke, builtin, Sem.run_bind, Sem.run_pure, Result.andThen_ok, List.map_toArray, List.map_cons, List.map_nil, hd, hs, hr]
    exact hK _ _ h
theorem rd_take {w : World} {g : Nat} {cur : Array Value} {E : TypeId} {n : Nat} {vs : List Value} (hb : w.heap[g]? = some (.cells cur E (0, 0))) (ht : cur.toList.take n = vs) : Rd w (some ⟨g, 0, none⟩) vs := by
  have h : Rd w (some ⟨g, 0, none⟩) cur.toList := by simpa using Rd.block hb 0
  have h2 := h.cut (k := 0) (n := n) (A' := some ⟨g, 0, none⟩) (fun ad e => by cases e; rfl)
  rw [List.drop_zero, ht] at h2
  exact h2
end Go.Proofs.Ytdenjmdngmmodaa
