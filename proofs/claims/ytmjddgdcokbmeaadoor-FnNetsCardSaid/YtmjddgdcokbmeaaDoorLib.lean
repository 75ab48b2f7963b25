/- Words for memory and small lemmas, used by all texts of these claims. No condition: plain lemmas. -/
import Derived.Test.YtmjddgdcokbmeaaDoorProg
import Derived.WalkKit
import Derived.BigQuiet
import Derived.Deep.QuietTactic
import Derived.StillTailTactics
import Derived.Deep.RegionHeld3
import Derived.Deep.AppendLies
import Derived.Maps.AppendAt
import Derived.Deep.Draws
import Derived.KernelRfl
import Derived.Handy
import Derived.Laws.Rows
import Derived.Lib.Hide
import Derived.Deep.MidRow
import Derived.Lib.ConvBytes
import Derived.Laws.BytesString
namespace Go.Proofs.YtmjddgdcokbmeaaDoor
open Go.RowKit

/-- A byte as a cell. -/
def bV (b : UInt8) : Value := .int .u8 (b.toNat : Int)
/-- The slice whose address is A reads as these cells. -/
def Rd (w : World) (A : Option Addr) (vs : List Value) : Prop := ∀ j u, vs[j]? = some u → ∃ ad, A = some ad ∧ w.cell? (ad.add j) = some u

theorem addr_block (a : Addr) (n : Nat) : (a.add n).block = a.block := by unfold Addr.add; split <;> rfl
theorem addr_add (a : Addr) (i j : Nat) : (a.add i).add j = a.add (i + j) := by
  unfold Addr.add
  by_cases hi : i = 0 <;> by_cases hj : j = 0 <;> simp [hi, hj, Nat.add_assoc]

section
variable {w w' : World} {A : Option Addr} {vs : List Value}
theorem Rd.nil : Rd w A [] := fun j u h => by simp at h
theorem Rd.keep (h : Rd w A vs) (hk : ∀ ad, A = some ad → w'.heap[ad.block]? = w.heap[ad.block]?) : Rd w' A vs := fun j u hu => by
  obtain ⟨ad, e, hc⟩ := h j u hu
  exact ⟨ad, e, (World.cell?_of_block (by rw [addr_block]; exact hk ad e)).trans hc⟩
theorem Rd.lt (h : Rd w A vs) (hn : vs ≠ []) : ∃ ad, A = some ad ∧ ad.block < w.heap.size := by
  obtain ⟨v, r, rfl⟩ := List.exists_cons_of_ne_nil hn
  obtain ⟨ad, e, hc⟩ := h 0 v rfl
  have := World.block_lt_of_cell? w _ hc
  rw [addr_block] at this
  exact ⟨ad, e, this⟩
theorem Rd.below {B : Nat} (h : Rd w A vs) (hb : Below B w w') (hB : w.heap.size ≤ B) : Rd w' A vs := fun j u hu => by
  obtain ⟨ad, e, hc⟩ := h j u hu
  have := World.block_lt_of_cell? w _ hc
  exact ⟨ad, e, (hb.cell (by omega)).trans hc⟩
theorem Rd.belowA {B : Nat} (h : Rd w A vs) (hb : Below B w w') (hA : ∀ ad, A = some ad → ad.block < B) : Rd w' A vs := h.keep fun ad e => hb.block _ (hA ad e)
theorem Rd.grown {row : Option Nat} (h : Rd w A vs) (hg : w.grownBy w' row) (hr : ∀ ad, A = some ad → row ≠ some ad.block) : Rd w' A vs := fun j u hu => by
  obtain ⟨ad, e, hc⟩ := h j u hu
  have h1 := World.block_lt_of_cell? w _ hc
  exact ⟨ad, e, (World.cell?_of_block (hg.block _ h1 (by rw [addr_block]; exact fun x => hr ad e x.symm))).trans hc⟩
theorem Rd.drewN (h : Rd w A vs) (n : Nat) : Rd (w.drewN n) A vs := h
theorem Rd.drew (h : Rd w A vs) : Rd w.drew A vs := h
theorem Rd.at_ (h : Rd w A vs) {k : Nat} (hk : k < vs.length) : ∃ ad, A = some ad ∧ w.cell? (ad.add k) = some vs[k] := h k _ (List.getElem?_eq_getElem hk)
theorem Rd.of_own {base : Nat} {e : TypeId} {size n c : Nat} (h : w.ownsRow base e size (.slice A n c) n vs) : Rd w A vs := by
  intro j u hu
  have hn : 0 < n := by
    rcases Nat.eq_zero_or_pos n with rfl | hp
    · have := h.1; simp at this; subst this; simp at hu
    · exact hp
  obtain ⟨g, cap, hv, _, hlt⟩ := h.form hn
  have hA : A = some ⟨g, 0, none⟩ := by injection hv
  exact ⟨_, hA, h.cells (g := g) (by rw [hA]; rfl) j u hu⟩
theorem Rd.cut (h : Rd w A vs) {k n : Nat} {A' : Option Addr} (hA : ∀ ad, A = some ad → A' = some (ad.add k)) : Rd w A' ((vs.drop k).take n) := by
  intro j u hu
  rw [List.getElem?_take] at hu
  split at hu
  · rw [List.getElem?_drop] at hu
    obtain ⟨ad, e, hc⟩ := h _ u hu
    exact ⟨_, hA ad e, by rw [addr_add]; exact hc⟩
  · cases hu
end

def bstr (l : List UInt8) : ByteArray := ⟨l.toArray⟩
theorem bstr_append (a b : List UInt8) : bstr a ++ bstr b = bstr (a ++ b) := by
  apply ByteArray.ext
  simp [bstr, ByteArray.data_append]
theorem bstr_size (a : List UInt8) : (bstr a).size = a.length := by simp [bstr, ByteArray.size]
def strN (ns : List Int) : ByteArray := bstr (ns.map fun n => UInt8.ofNat n.toNat)
theorem foldl_push (ns : List Int) : ∀ (s : ByteArray), ns.foldl (fun r n => r.push (UInt8.ofNat n.toNat)) s = ⟨s.data ++ (ns.map fun n => UInt8.ofNat n.toNat).toArray⟩ := by
  induction ns with
  | nil => intro s; simp
  | cons n t ih => intro s; simp only [List.foldl_cons, ih]; simp [ByteArray.push]
theorem run_loadCells {P : Program} (w : World) (a : Addr) (vs : List Value) (h : ∀ j u, vs[j]? = some u → w.cell? (a.add j) = some u) : (loadCells a vs.length).run P w = .ok vs.toArray w := by
  have h2 := run_firstCells_some (P := P) w 1 vs.length a vs.length vs.length vs (by simp) h
  simpa [Builtin.firstCells] using h2
/-- string(b), of a slice of bytes that reads as ns. -/
theorem run_conv_nums {P : Program} (w : World) (src dst e : TypeId) (hs : P.underlying src = some (.slice e)) (he : P.underlying e = some (.int .u8)) (hd : P.underlying dst = some .string)
    (A : Option Addr) (n c : Nat) (ns : List Int) (hn : ns.length = n) (hr : Rd w A (ns.map (Value.int .u8))) : (convert src dst (.slice A n c)).run P w = .ok (.string (strN ns)) w := by
  rw [run_convert_bytes_string w src dst e A n c hs he hd]
  subst hn
  rcases ns with _ | ⟨x, t⟩
  · cases A with
    | none => simp [Conv.bytesToString, strN, bstr]; rfl
    | some a => show (Conv.bytesToString (.slice (some a) 0 c)).run P w = _; rw [run_bytesToString w a 0 c [] (by simpa using run_loadCells (P := P) w a [] (fun j u h => by simp at h))]; simp [strN, bstr]; rfl
  · obtain ⟨a, rfl, _⟩ := hr 0 _ rfl
    rw [run_bytesToString w a _ c (x :: t) (by
      have h2 := run_loadCells (P := P) w a ((x :: t).map (Value.int .u8)) (fun j u h => by
        obtain ⟨ad, e1, h3⟩ := hr j u h
        injection e1 with e1
        subst e1
        exact h3)
      simpa using h2)]
    rw [foldl_push]
    simp [strN, bstr]
theorem run_conv_bytes {P : Program} (w : World) (src dst e : TypeId) (hs : P.underlying src = some (.slice e)) (he : P.underlying e = some (.int .u8)) (hd : P.underlying dst = some .string)
    (A : Option Addr) (n c : Nat) (bs : List UInt8) (hn : bs.length = n) (hr : Rd w A (bs.map bV)) : (convert src dst (.slice A n c)).run P w = .ok (.string (bstr bs)) w := by
  have e1 : bs.map bV = (bs.map fun b => (b.toNat : Int)).map (Value.int .u8) := by simp [bV]
  rw [e1] at hr
  rw [run_conv_nums w src dst e hs he hd A n c _ (by simpa using hn) hr]
  have e2 : (bs.map fun b => (b.toNat : Int)).map (fun n => UInt8.ofNat n.toNat) = bs := by
    rw [List.map_map]
    exact (List.map_congr_left (fun b _ => by simp)).trans (List.map_id _)
  rw [strN, e2]
theorem Rd.block {w : World} {g : Nat} {cs : Array Value} {E : TypeId} {fr : Nat × Nat} (h : w.heap[g]? = some (.cells cs E fr)) (off : Nat) : Rd w (some ⟨g, off, none⟩) (cs.toList.drop off) := fun j u hu => by
  refine ⟨_, rfl, ?_⟩
  have e : (⟨g, off, none⟩ : Addr).add j = ⟨g, off + j, none⟩ := by unfold Addr.add; split <;> simp_all
  rw [e, cell_of_row w g (off + j) cs E fr h]
  rw [List.getElem?_drop] at hu
  simpa using hu

/-- .. and its cells lie below block B. -/
def RdB (w : World) (B : Nat) (A : Option Addr) (vs : List Value) : Prop := Rd w A vs ∧ (vs = [] ∨ ∃ ad, A = some ad ∧ ad.block < B)
theorem RdB.keep {w w' : World} {B : Nat} {A : Option Addr} {vs : List Value} (h : RdB w B A vs) (hk : ∀ k, k < B → w'.heap[k]? = w.heap[k]?) : RdB w' B A vs := by
  refine ⟨?_, h.2⟩
  rcases h.2 with rfl | ⟨ad, rfl, hlt⟩
  · exact Rd.nil
  · exact h.1.keep fun ad' e => by cases e; exact hk _ hlt
theorem Rd.toB {w : World} {A : Option Addr} {vs : List Value} (h : Rd w A vs) : RdB w w.heap.size A vs := ⟨h, by
  by_cases hn : vs = []
  · exact .inl hn
  · exact .inr (h.lt hn)⟩
theorem RdB.more {w : World} {B B' : Nat} {A : Option Addr} {vs : List Value} (h : RdB w B A vs) (hB : B ≤ B') : RdB w B' A vs := ⟨h.1, h.2.imp id fun ⟨ad, e, hl⟩ => ⟨ad, e, by omega⟩⟩

theorem blk_cell {w : World} {g : Nat} {cs : Array Value} {E : TypeId} {fr : Nat × Nat} (h : w.heap[g]? = some (.cells cs E fr)) (k : Nat) : w.cell? ⟨g, k, none⟩ = cs[k]? := cell_of_row w g k cs E fr h
theorem blk_free {w : World} {g : Nat} {cs : Array Value} {E : TypeId} (h : w.heap[g]? = some (.cells cs E (0, 0))) (k : Nat) : w.frozen? ⟨g, k, none⟩ = false := by simp [World.frozen?, h]
theorem blk_set {w : World} {g : Nat} {cs : Array Value} {E : TypeId} {fr : Nat × Nat} (h : w.heap[g]? = some (.cells cs E fr)) (k : Nat) (u : Value) : (w.setCell ⟨g, k, none⟩ u).heap[g]? = some (.cells (cs.setIfInBounds k u) E fr) := by
  simp [World.setCell, Array.getElem?_modify, h]

theorem grown_setCell {a w : World} {row : Option Nat} (h : a.grownBy w row) {p : Addr} (hp : a.heap.size ≤ p.block) (u : Value) : a.grownBy (w.setCell p u) row :=
  ⟨h.os, h.tape, h.output, by simpa [World.setCell] using h.size, fun i hi hne => (Below.heap_setCell w p u i (by omega)).trans (h.block i hi hne)⟩
/-- An own row's value, opened. -/
theorem own_slice {w : World} {B : Nat} {e : TypeId} {size : Nat} {v : Value} {n : Nat} {xs : List Value} (h : w.ownsRow B e size v n xs) : ∃ A c, v = .slice A n c ∧ n ≤ c ∧ Rd w A xs ∧ (∀ ad, A = some ad → B ≤ ad.block ∧ ad.block < w.heap.size) := by
  rcases h.2 with ⟨rfl, rfl⟩ | ⟨g, cap, cur, rfl, hb, hg, hn, _⟩
  · exact ⟨none, 0, rfl, Nat.le_refl _, by have := h.1; simp at this; subst this; exact Rd.nil, fun ad e => by cases e⟩
  · exact ⟨_, _, rfl, hn, Rd.of_own h, fun ad e => by cases e; exact ⟨hb, (Array.getElem?_eq_some_iff.1 hg).1⟩⟩
/-- A cut of a slice of bytes, as the walk writes it. -/
theorem Rd.sl {w : World} {ad : Addr} {bs : List UInt8} (h : Rd w (some ad) (bs.map bV)) {c : Nat} (hc : bs.length ≤ c) (k m : Nat) (hk : 0 < k) : Rd w (if c = k then some ad else some ⟨ad.block, ad.off + k, none⟩) (((bs.drop k).take m).map bV) := by
  rw [List.map_take, List.map_drop]
  split
  · rw [List.drop_of_length_le (by simp; omega)]
    simpa using Rd.nil
  · exact h.cut fun ad' e => by cases e; unfold Addr.add; rw [if_neg (by omega)]
theorem Rd.hd {w : World} {A : Option Addr} {bs : List UInt8} (h : Rd w A (bs.map bV)) (m : Nat) : Rd w A ((bs.take m).map bV) := by
  intro j u hu
  rw [List.map_take, List.getElem?_take] at hu
  split at hu
  · exact h j u hu
  · cases hu
theorem below_drewN {B : Nat} {a w : World} (h : Below B a w) (n : Nat) : Below B a (w.drewN n) := ⟨h.os, h.tape, h.output, h.size, h.block⟩
theorem grownBy_of_below {w w' : World} (h : Below w.heap.size w w') (row : Option Nat) : w.grownBy w' row := ⟨h.os, h.tape, h.output, h.size, fun k hk _ => h.block k hk⟩

/-- The built-in append, by an equation on its run. -/
theorem wpList_append_run {P : Program} {ops : Array Oper} {rest : List Oper} {o : Oper} {a : Act} {Q : Exit → Act → World → Prop} {w w' : World} (hgd : o.guard = none) (s x : Operand) (t u : TypeId)
    (ho : o.op = .call { callee := .builtin .append, args := #[s, x], argTypes := #[t, u] }) {vs vx v' : Value} (hs : a.eval s = vs) (hx : a.eval x = vx)
    (hrun : (Builtin.append_ #[t, u] o.type #[vs, vx]).run P w = .ok v' w') (h : wpList P ops Q rest (a.put o.dst v') w') : wpList P ops Q (o :: rest) a w :=
  wpList_plain hgd fun K hK => by
    unfold Oper.wp execOp
    simp only [ho, resolve, invoke, builtin, Sem.run_bind, Sem.run_pure, Result.andThen_ok, List.map_toArray, List.map_cons, List.map_nil, hs, hx, hrun]
    exact hK _ _ h

/-- append(v, x...) of an own row and of a slice that reads as news (nil, empty or not). -/
theorem run_append_rd {P : Program} (w : World) (base : Nat) (t ty e : TypeId) (i : TypeInfo) (z : Value) (size bytes : Nat) (ht : P.underlying t = some (.slice e)) (hi : P.info? e = some i) (hz : i.zero = some z)
    (hsize : i.size = size) (hby : i.bytes = bytes) (hzs : z.cells.size = size) (hsz : 0 < size)
    (v : Value) (n : Nat) (xs : List Value) (hown : w.ownsRow base e size v n xs) (A : Option Addr) (m c : Nat) (news : List Value) (hl : news.length = m * size) (hr : Rd w A news) (h1 : ∀ u ∈ news, u.oneCell' = true)
    (h63 : n + m ≤ maxLen) (hbytes : (n + m) * bytes ≤ 140737488355328) (hbase : base ≤ w.heap.size) :
    ∃ v' w', (Builtin.append_ #[t, t] ty #[v, .slice A m c]).run P w = .ok v' w' ∧ w'.ownsRow base e size v' (n + m) (xs ++ news) ∧ w.grownBy w' v.ownBlock ∧ (v'.ownBlock = v.ownBlock ∨ v'.ownBlock = some w.heap.size) := by
  cases A with
  | none =>
    have hn : news = [] := by
      cases news with
      | nil => rfl
      | cons x r => obtain ⟨ad, e1, _⟩ := hr 0 x rfl; cases e1
    subst hn
    have hm : m = 0 := by
      rcases Nat.eq_zero_or_pos m with h | h
      · exact h
      · have := Nat.mul_pos h hsz; simp at hl; omega
    subst hm
    refine ⟨v, w, ?_, by simpa using hown, World.grownBy.refl w _, .inl rfl⟩
    rcases hown.2 with ⟨rfl, rfl⟩ | ⟨g, cap, cur, rfl, _, _, hnc, _⟩
    · simp [Builtin.append_, run_underlying ht, sizeOf, typeInfo, hi, Builtin.lenOf, Builtin.firstCells]
    · simp [Builtin.append_, run_underlying ht, sizeOf, typeInfo, hi, Builtin.lenOf, Builtin.firstCells, hnc, storeCells]
  | some ad =>
    obtain ⟨v', w', hrun, h2, h3, _, h5⟩ := run_append_own_at (P := P) w base t ty e i z size bytes ht hi hz hsize hby hzs hsz v n xs hown ad m c news hl (fun j u hu => by
      obtain ⟨ad', e1, h⟩ := hr j u hu
      cases e1
      exact h) h1 h63 hbytes hbase
    exact ⟨v', w', hrun, h2, h3, h5⟩

/-- A whole struct stored into a block of its own. -/
theorem run_store_row {P : Program} (w : World) (b : Nat) (T E : TypeId) (cur cs : Array Value) (hb : w.heap[b]? = some (.cells cur E (0, 0))) (hs : cur.size = cs.size) (hi : (P.info? T).map (·.size) = some cs.size) (h1 : cs.toList.all (·.oneCell') = true) :
    (Instr.storeAt T (.pointer (some ⟨b, 0, none⟩)) (.agg cs)).run P w = .ok () (w.setRow b cs) := by
  have h := run_storeCells_at P b 0 E cs.toList 0 cur w hb (by simp [hs]) (fun u hu => List.all_eq_true.1 h1 u hu)
  obtain ⟨i, hi1, hi2⟩ := Option.map_eq_some_iff.1 hi
  have e : (cur.toList.take (0 + 0) ++ cs.toList ++ cur.toList.drop (0 + 0 + cs.toList.length)).toArray = cs := by
    rw [List.drop_of_length_le (by simp [hs])]; simp
  rw [e] at h
  simp only [Instr.storeAt, Instr.sureAddr, Sem.run_bind, Sem.run_pure, Result.andThen_ok, storeVar, sizeOf, typeInfo]
  simp [hi1, hi2, Value.cells, h]
theorem wpList_store_row {P : Program} {ops : Array Oper} {rest : List Oper} {o : Oper} {a : Act} {Q : Exit → Act → World → Prop} {w : World} (hgd : o.guard = none) (x y : Operand) (T : TypeId) (ho : o.op = .store T x y) (b : Nat) (E : TypeId) (cur cs : Array Value) (hx : a.eval x = .pointer (some ⟨b, 0, none⟩)) (hy : a.eval y = .agg cs)
    (hb : w.heap[b]? = some (.cells cur E (0, 0))) (hs : cur.size = cs.size) (hi : (P.info? T).map (·.size) = some cs.size) (h1 : cs.toList.all (·.oneCell') = true) (h : wpList P ops Q rest (a.put o.dst undef) (w.setRow b cs)) : wpList P ops Q (o :: rest) a w :=
  wpList_plain hgd fun K hK => by
    unfold Oper.wp execOp
    simp only [ho, Sem.run_bind, Sem.run_pure, Result.andThen_ok, hx, hy, run_store_row w b T E cur cs hb hs hi h1]
    exact hK _ _ h
theorem run_load_row {P : Program} (w : World) (b : Nat) (T E : TypeId) (cs : Array Value) {fr : Nat × Nat} (hb : w.heap[b]? = some (.cells cs E fr)) {d : TypeDesc} (hu : P.underlying T = some d) (hd : d.isRow = true) (hi : (P.info? T).map (·.size) = some cs.size) :
    (Instr.loadAt T (.pointer (some ⟨b, 0, none⟩))).run P w = .ok (.agg cs) w := by
  have := run_loadAt_mid (P := P) w b 0 T cs.toList d (fun j v hv => by rw [Nat.zero_add, cell_of_row w b j cs E fr hb]; simpa using hv) hu hd (by simpa using hi)
  simpa using this
end Go.Proofs.YtmjddgdcokbmeaaDoor
