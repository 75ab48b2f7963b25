/- Words for memory and small lemmas, used by all texts of these claims. No condition: plain lemmas. | Numbers as bytes and back. | slices.Concat of slices of bytes. | A region that draws its order, walked once in the order of the text: operations that only read have one value; of each other operation a specification is known (what its result is, in a world that later steps only let grow). Nothing of a program is named here. | Regions of open order whose operations make memory and turn none that was there. | The source of draws: what its methods answer and what they leave. | What the source draws: macs, addresses, one of some. | Regions of open order in two phases: what comes first all of it, with one invariant; then the rest, with another. | What each law's row needs: bytes that come in, and the last step behind a call that only made new blocks. -/
import Derived.Test.YtdenjmdngmmodaaProg
import Derived.WalkKit
import Derived.BigQuiet
import Derived.Deep.QuietTactic
import Derived.StillTailTactics
import Derived.Deep.RegionHeld3
import Derived.Deep.AppendLies
import Derived.Maps.AppendAt
import Derived.Deep.Draws
import Derived.KernelRfl
import Derived.Handy
import Derived.Laws.Rows
import Derived.Lib.Hide
import Derived.Deep.MidRow
import Derived.Lib.ConvBytes
import Derived.Laws.BytesString
import Derived.Orders
import Derived.StillTail
import Derived.Test.YtdenjmdngmmodaaRows
import Derived.ProofKit
import Derived.OpenShut
import Derived.Carry
import Derived.ChangeSame
namespace Go.Proofs.Ytdenjmdngmmodaa
open Go.RowKit

/-- A byte as a cell. -/
def bV (b : UInt8) : Value := .int .u8 (b.toNat : Int)
/-- The slice whose address is A reads as these cells. -/
def Rd (w : World) (A : Option Addr) (vs : List Value) : Prop := ∀ j u, vs[j]? = some u → ∃ ad, A = some ad ∧ w.cell? (ad.add j) = some u

theorem addr_block (a : Addr) (n : Nat) : (a.add n).block = a.block := by unfold Addr.add; split <;> rfl
theorem addr_add (a : Addr) (i j : Nat) : (a.add i).add j = a.add (i + j) := by
  unfold Addr.add
  by_cases hi : i = 0 <;> by_cases hj : j = 0 <;> simp [hi, hj, Nat.add_assoc]

section
variable {w w' : World} {A : Option Addr} {vs : List Value}
theorem Rd.nil : Rd w A [] := fun j u h => by simp at h
theorem Rd.keep (h : Rd w A vs) (hk : ∀ ad, A = some ad → w'.heap[ad.block]? = w.heap[ad.block]?) : Rd w' A vs := fun j u hu => by
  obtain ⟨ad, e, hc⟩ := h j u hu
  exact ⟨ad, e, (World.cell?_of_block (by rw [addr_block]; exact hk ad e)).trans hc⟩
theorem Rd.lt (h : Rd w A vs) (hn : vs ≠ []) : ∃ ad, A = some ad ∧ ad.block < w.heap.size := by
  obtain ⟨v, r, rfl⟩ := List.exists_cons_of_ne_nil hn
  obtain ⟨ad, e, hc⟩ := h 0 v rfl
  have := World.block_lt_of_cell? w _ hc
  rw [addr_block] at this
  exact ⟨ad, e, this⟩
theorem Rd.below {B : Nat} (h : Rd w A vs) (hb : Below B w w') (hB : w.heap.size ≤ B) : Rd w' A vs := fun j u hu => by
  obtain ⟨ad, e, hc⟩ := h j u hu
  have := World.block_lt_of_cell? w _ hc
  exact ⟨ad, e, (hb.cell (by omega)).trans hc⟩
theorem Rd.belowA {B : Nat} (h : Rd w A vs) (hb : Below B w w') (hA : ∀ ad, A = some ad → ad.block < B) : Rd w' A vs := h.keep fun ad e => hb.block _ (hA ad e)
theorem Rd.grown {row : Option Nat} (h : Rd w A vs) (hg : w.grownBy w' row) (hr : ∀ ad, A = some ad → row ≠ some ad.block) : Rd w' A vs := fun j u hu => by
  obtain ⟨ad, e, hc⟩ := h j u hu
  have h1 := World.block_lt_of_cell? w _ hc
  exact ⟨ad, e, (World.cell?_of_block (hg.block _ h1 (by rw [addr_block]; exact fun x => hr ad e x.symm))).trans hc⟩
theorem Rd.drewN (h : Rd w A vs) (n : Nat) : Rd (w.drewN n) A vs := h
theorem Rd.drew (h : Rd w A vs) : Rd w.drew A vs := h
theorem Rd.at_ (h : Rd w A vs) {k : Nat} (hk : k < vs.length) : ∃ ad, A = some ad ∧ w.cell? (ad.add k) = some vs[k] := h k _ (List.getElem?_eq_getElem hk)
theorem Rd.of_own {base : Nat} {e : TypeId} {size n c : Nat} (h : w.ownsRow base e size (.slice A n c) n vs) : Rd w A vs := by
  intro j u hu
  have hn : 0 < n := by
    rcases Nat.eq_zero_or_pos n with rfl | hp
    · have := h.1; simp at this; subst this; simp at hu
    · exact hp
  obtain ⟨g, cap, hv, _, hlt⟩ := h.form hn
  have hA : A = some ⟨g, 0, none⟩ := by injection hv
  exact ⟨_, hA, h.cells (g := g) (by rw [hA]; rfl) j u hu⟩
theorem Rd.cut (h : Rd w A vs) {k n : Nat} {A' : Option Addr} (hA : ∀ ad, A = some ad → A' = some (ad.add k)) : Rd w A' ((vs.drop k).take n) := by
  intro j u hu
  rw [List.getElem?_take] at hu
  split at hu
  · rw [List.getElem?_drop] at hu
    obtain ⟨ad, e, hc⟩ := h _ u hu
    exact ⟨_, hA ad e, by rw [addr_add]; exact hc⟩
  · cases hu
end

def bstr (l : List UInt8) : ByteArray := ⟨l.toArray⟩
theorem bstr_append (a b : List UInt8) : bstr a ++ bstr b = bstr (a ++ b) := by
  apply ByteArray.ext
  simp [bstr, ByteArray.data_append]
theorem bstr_size (a : List UInt8) : (bstr a).size = a.length := by simp [bstr, ByteArray.size]
def strN (ns : List Int) : ByteArray := bstr (ns.map fun n => UInt8.ofNat n.toNat)
theorem foldl_push (ns : List Int) : ∀ (s : ByteArray), ns.foldl (fun r n => r.push (UInt8.ofNat n.toNat)) s = ⟨s.data ++ (ns.map fun n => UInt8.ofNat n.toNat).toArray⟩ := by
  induction ns with
  | nil => intro s; simp
  | cons n t ih => intro s; simp only [List.foldl_cons, ih]; simp [ByteArray.push]
theorem run_loadCells {P : Program} (w : World) (a : Addr) (vs : List Value) (h : ∀ j u, vs[j]? = some u → w.cell? (a.add j) = some u) : (loadCells a vs.length).run P w = .ok vs.toArray w := by
  have h2 := run_firstCells_some (P := P) w 1 vs.length a vs.length vs.length vs (by simp) h
  simpa [Builtin.firstCells] using h2
/-- string(b), of a slice of bytes that reads as ns. -/
theorem run_conv_nums {P : Program} (w : World) (src dst e : TypeId) (hs : P.underlying src = some (.slice e)) (he : P.underlying e = some (.int .u8)) (hd : P.underlying dst = some .string)
    (A : Option Addr) (n c : Nat) (ns : List Int) (hn : ns.length = n) (hr : Rd w A (ns.map (Value.int .u8))) : (convert src dst (.slice A n c)).run P w = .ok (.string (strN ns)) w := by
  rw [run_convert_bytes_string w src dst e A n c hs he hd]
  subst hn
  rcases ns with _ | ⟨x, t⟩
  · cases A with
    | none => simp [Conv.bytesToString, strN, bstr]; rfl
    | some a => show (Conv.bytesToString (.slice (some a) 0 c)).run P w = _; rw [run_bytesToString w a 0 c [] (by simpa using run_loadCells (P := P) w a [] (fun j u h => by simp at h))]; simp [strN, bstr]; rfl
  · obtain ⟨a, rfl, _⟩ := hr 0 _ rfl
    rw [run_bytesToString w a _ c (x :: t) (by
      have h2 := run_loadCells (P := P) w a ((x :: t).map (Value.int .u8)) (fun j u h => by
        obtain ⟨ad, e1, h3⟩ := hr j u h
        injection e1 with e1
        subst e1
        exact h3)
      simpa using h2)]
    rw [foldl_push]
    simp [strN, bstr]
theorem run_conv_bytes {P : Program} (w : World) (src dst e : TypeId) (hs : P.underlying src = some (.slice e)) (he : P.underlying e = some (.int .u8)) (hd : P.underlying dst = some .string)
    (A : Option Addr) (n c : Nat) (bs : List UInt8) (hn : bs.length = n) (hr : Rd w A (bs.map bV)) : (convert src dst (.slice A n c)).run P w = .ok (.string (bstr bs)) w := by
  have e1 : bs.map bV = (bs.map fun b => (b.toNat : Int)).map (Value.int .u8) := by simp [bV]
  rw [e1] at hr
  rw [run_conv_nums w src dst e hs he hd A n c _ (by simpa using hn) hr]
  have e2 : (bs.map fun b => (b.toNat : Int)).map (fun n => UInt8.ofNat n.toNat) = bs := by
    rw [List.map_map]
    exact (List.map_congr_left (fun b _ => by simp)).trans (List.map_id _)
  rw [strN, e2]
theorem Rd.block {w : World} {g : Nat} {cs : Array Value} {E : TypeId} {fr : Nat × Nat} (h : w.heap[g]? = some (.cells cs E fr)) (off : Nat) : Rd w (some ⟨g, off, none⟩) (cs.toList.drop off) := fun j u hu => by
  refine ⟨_, rfl, ?_⟩
  have e : (⟨g, off, none⟩ : Addr).add j = ⟨g, off + j, none⟩ := by unfold Addr.add; split <;> simp_all
  rw [e, cell_of_row w g (off + j) cs E fr h]
  rw [List.getElem?_drop] at hu
  simpa using hu

/-- .. and its cells lie below block B. -/
def RdB (w : World) (B : Nat) (A : Option Addr) (vs : List Value) : Prop := Rd w A vs ∧ (vs = [] ∨ ∃ ad, A = some ad ∧ ad.block < B)
theorem RdB.keep {w w' : World} {B : Nat} {A : Option Addr} {vs : List Value} (h : RdB w B A vs) (hk : ∀ k, k < B → w'.heap[k]? = w.heap[k]?) : RdB w' B A vs := by
  refine ⟨?_, h.2⟩
  rcases h.2 with rfl | ⟨ad, rfl, hlt⟩
  · exact Rd.nil
  · exact h.1.keep fun ad' e => by cases e; exact hk _ hlt
theorem Rd.toB {w : World} {A : Option Addr} {vs : List Value} (h : Rd w A vs) : RdB w w.heap.size A vs := ⟨h, by
  by_cases hn : vs = []
  · exact .inl hn
  · exact .inr (h.lt hn)⟩
theorem RdB.more {w : World} {B B' : Nat} {A : Option Addr} {vs : List Value} (h : RdB w B A vs) (hB : B ≤ B') : RdB w B' A vs := ⟨h.1, h.2.imp id fun ⟨ad, e, hl⟩ => ⟨ad, e, by omega⟩⟩

theorem blk_cell {w : World} {g : Nat} {cs : Array Value} {E : TypeId} {fr : Nat × Nat} (h : w.heap[g]? = some (.cells cs E fr)) (k : Nat) : w.cell? ⟨g, k, none⟩ = cs[k]? := cell_of_row w g k cs E fr h
theorem blk_free {w : World} {g : Nat} {cs : Array Value} {E : TypeId} (h : w.heap[g]? = some (.cells cs E (0, 0))) (k : Nat) : w.frozen? ⟨g, k, none⟩ = false := by simp [World.frozen?, h]
theorem blk_set {w : World} {g : Nat} {cs : Array Value} {E : TypeId} {fr : Nat × Nat} (h : w.heap[g]? = some (.cells cs E fr)) (k : Nat) (u : Value) : (w.setCell ⟨g, k, none⟩ u).heap[g]? = some (.cells (cs.setIfInBounds k u) E fr) := by
  simp [World.setCell, Array.getElem?_modify, h]

theorem grown_setCell {a w : World} {row : Option Nat} (h : a.grownBy w row) {p : Addr} (hp : a.heap.size ≤ p.block) (u : Value) : a.grownBy (w.setCell p u) row :=
  ⟨h.os, h.tape, h.output, by simpa [World.setCell] using h.size, fun i hi hne => (Below.heap_setCell w p u i (by omega)).trans (h.block i hi hne)⟩
/-- An own row's value, opened. -/
theorem own_slice {w : World} {B : Nat} {e : TypeId} {size : Nat} {v : Value} {n : Nat} {xs : List Value} (h : w.ownsRow B e size v n xs) : ∃ A c, v = .slice A n c ∧ n ≤ c ∧ Rd w A xs ∧ (∀ ad, A = some ad → B ≤ ad.block ∧ ad.block < w.heap.size) := by
  rcases h.2 with ⟨rfl, rfl⟩ | ⟨g, cap, cur, rfl, hb, hg, hn, _⟩
  · exact ⟨none, 0, rfl, Nat.le_refl _, by have := h.1; simp at this; subst this; exact Rd.nil, fun ad e => by cases e⟩
  · exact ⟨_, _, rfl, hn, Rd.of_own h, fun ad e => by cases e; exact ⟨hb, (Array.getElem?_eq_some_iff.1 hg).1⟩⟩
/-- A cut of a slice of bytes, as the walk writes it. -/
theorem Rd.sl {w : World} {ad : Addr} {bs : List UInt8} (h : Rd w (some ad) (bs.map bV)) {c : Nat} (hc : bs.length ≤ c) (k m : Nat) (hk : 0 < k) : Rd w (if c = k then some ad else some ⟨ad.block, ad.off + k, none⟩) (((bs.drop k).take m).map bV) := by
  rw [List.map_take, List.map_drop]
  split
  · rw [List.drop_of_length_le (by simp; omega)]
    simpa using Rd.nil
  · exact h.cut fun ad' e => by cases e; unfold Addr.add; rw [if_neg (by omega)]
theorem Rd.hd {w : World} {A : Option Addr} {bs : List UInt8} (h : Rd w A (bs.map bV)) (m : Nat) : Rd w A ((bs.take m).map bV) := by
  intro j u hu
  rw [List.map_take, List.getElem?_take] at hu
  split at hu
  · exact h j u hu
  · cases hu
theorem below_drewN {B : Nat} {a w : World} (h : Below B a w) (n : Nat) : Below B a (w.drewN n) := ⟨h.os, h.tape, h.output, h.size, h.block⟩
theorem grownBy_of_below {w w' : World} (h : Below w.heap.size w w') (row : Option Nat) : w.grownBy w' row := ⟨h.os, h.tape, h.output, h.size, fun k hk _ => h.block k hk⟩

/-- The built-in append, by an equation on its run. -/
theorem wpList_append_run {P : Program} {ops : Array Oper} {rest : List Oper} {o : Oper} {a : Act} {Q : Exit → Act → World → Prop} {w w' : World} (hgd : o.guard = none) (s x : Operand) (t u : TypeId)
    (ho : o.op = .call { callee := .builtin .append, args := #[s, x], argTypes := #[t, u] }) {vs vx v' : Value} (hs : a.eval s = vs) (hx : a.eval x = vx)
    (hrun : (Builtin.append_ #[t, u] o.type #[vs, vx]).run P w = .ok v' w') (h : wpList P ops Q rest (a.put o.dst v') w') : wpList P ops Q (o :: rest) a w :=
  wpList_plain hgd fun K hK => by
    unfold Oper.wp execOp
    simp only [ho, resolve, invoke, builtin, Sem.run_bind, Sem.run_pure, Result.andThen_ok, List.map_toArray, List.map_cons, List.map_nil, hs, hx, hrun]
    exact hK _ _ h

/-- append(v, x...) of an own row and of a slice that reads as news (nil, empty or not). -/
theorem run_append_rd {P : Program} (w : World) (base : Nat) (t ty e : TypeId) (i : TypeInfo) (z : Value) (size bytes : Nat) (ht : P.underlying t = some (.slice e)) (hi : P.info? e = some i) (hz : i.zero = some z)
    (hsize : i.size = size) (hby : i.bytes = bytes) (hzs : z.cells.size = size) (hsz : 0 < size)
    (v : Value) (n : Nat) (xs : List Value) (hown : w.ownsRow base e size v n xs) (A : Option Addr) (m c : Nat) (news : List Value) (hl : news.length = m * size) (hr : Rd w A news) (h1 : ∀ u ∈ news, u.oneCell' = true)
    (h63 : n + m ≤ maxLen) (hbytes : (n + m) * bytes ≤ 140737488355328) (hbase : base ≤ w.heap.size) :
    ∃ v' w', (Builtin.append_ #[t, t] ty #[v, .slice A m c]).run P w = .ok v' w' ∧ w'.ownsRow base e size v' (n + m) (xs ++ news) ∧ w.grownBy w' v.ownBlock ∧ (v'.ownBlock = v.ownBlock ∨ v'.ownBlock = some w.heap.size) := by
  cases A with
  | none =>
    have hn : news = [] := by
      cases news with
      | nil => rfl
      | cons x r => obtain ⟨ad, e1, _⟩ := hr 0 x rfl; cases e1
    subst hn
    have hm : m = 0 := by
      rcases Nat.eq_zero_or_pos m with h | h
      · exact h
      · have := Nat.mul_pos h hsz; simp at hl; omega
    subst hm
    refine ⟨v, w, ?_, by simpa using hown, World.grownBy.refl w _, .inl rfl⟩
    rcases hown.2 with ⟨rfl, rfl⟩ | ⟨g, cap, cur, rfl, _, _, hnc, _⟩
    · simp [Builtin.append_, run_underlying ht, sizeOf, typeInfo, hi, Builtin.lenOf, Builtin.firstCells]
    · simp [Builtin.append_, run_underlying ht, sizeOf, typeInfo, hi, Builtin.lenOf, Builtin.firstCells, hnc, storeCells]
  | some ad =>
    obtain ⟨v', w', hrun, h2, h3, _, h5⟩ := run_append_own_at (P := P) w base t ty e i z size bytes ht hi hz hsize hby hzs hsz v n xs hown ad m c news hl (fun j u hu => by
      obtain ⟨ad', e1, h⟩ := hr j u hu
      cases e1
      exact h) h1 h63 hbytes hbase
    exact ⟨v', w', hrun, h2, h3, h5⟩

/-- A whole struct stored into a block of its own. -/
theorem run_store_row {P : Program} (w : World) (b : Nat) (T E : TypeId) (cur cs : Array Value) (hb : w.heap[b]? = some (.cells cur E (0, 0))) (hs : cur.size = cs.size) (hi : (P.info? T).map (·.size) = some cs.size) (h1 : cs.toList.all (·.oneCell') = true) :
    (Instr.storeAt T (.pointer (some ⟨b, 0, none⟩)) (.agg cs)).run P w = .ok () (w.setRow b cs) := by
  have h := run_storeCells_at P b 0 E cs.toList 0 cur w hb (by simp [hs]) (fun u hu => List.all_eq_true.1 h1 u hu)
  obtain ⟨i, hi1, hi2⟩ := Option.map_eq_some_iff.1 hi
  have e : (cur.toList.take (0 + 0) ++ cs.toList ++ cur.toList.drop (0 + 0 + cs.toList.length)).toArray = cs := by
    rw [List.drop_of_length_le (by simp [hs])]; simp
  rw [e] at h
  simp only [Instr.storeAt, Instr.sureAddr, Sem.run_bind, Sem.run_pure, Result.andThen_ok, storeVar, sizeOf, typeInfo]
  simp [hi1, hi2, Value.cells, h]
theorem wpList_store_row {P : Program} {ops : Array Oper} {rest : List Oper} {o : Oper} {a : Act} {Q : Exit → Act → World → Prop} {w : World} (hgd : o.guard = none) (x y : Operand) (T : TypeId) (ho : o.op = .store T x y) (b : Nat) (E : TypeId) (cur cs : Array Value) (hx : a.eval x = .pointer (some ⟨b, 0, none⟩)) (hy : a.eval y = .agg cs)
    (hb : w.heap[b]? = some (.cells cur E (0, 0))) (hs : cur.size = cs.size) (hi : (P.info? T).map (·.size) = some cs.size) (h1 : cs.toList.all (·.oneCell') = true) (h : wpList P ops Q rest (a.put o.dst undef) (w.setRow b cs)) : wpList P ops Q (o :: rest) a w :=
  wpList_plain hgd fun K hK => by
    unfold Oper.wp execOp
    simp only [ho, Sem.run_bind, Sem.run_pure, Result.andThen_ok, hx, hy, run_store_row w b T E cur cs hb hs hi h1]
    exact hK _ _ h
theorem run_load_row {P : Program} (w : World) (b : Nat) (T E : TypeId) (cs : Array Value) {fr : Nat × Nat} (hb : w.heap[b]? = some (.cells cs E fr)) {d : TypeDesc} (hu : P.underlying T = some d) (hd : d.isRow = true) (hi : (P.info? T).map (·.size) = some cs.size) :
    (Instr.loadAt T (.pointer (some ⟨b, 0, none⟩))).run P w = .ok (.agg cs) w := by
  have := run_loadAt_mid (P := P) w b 0 T cs.toList d (fun j v hv => by rw [Nat.zero_add, cell_of_row w b j cs E fr hb]; simpa using hv) hu hd (by simpa using hi)
  simpa using this
end Go.Proofs.Ytdenjmdngmmodaa
namespace Go.Proofs.Ytdenjmdngmmodaa
open Go.RowKit
set_option linter.unusedVariables false
set_option linter.unusedSimpArgs false
set_option maxRecDepth 20000
set_option maxHeartbeats 1000000

/-- The k low bytes of n, the higher ones first. -/
def beN (n : Nat) : Nat → List UInt8
  | 0 => []
  | k + 1 => UInt8.ofNat (n / 256 ^ k % 256) :: beN n k
theorem beN_len (n k : Nat) : (beN n k).length = k := by induction k with
  | zero => rfl
  | succ k ih => simp [beN, ih]
/-- The number of bytes. -/
def numL (bs : List UInt8) : Nat := bs.foldl (fun n c => n * 256 + c.toNat) 0
theorem foldl_num (bs : List UInt8) : ∀ a : Nat, bs.foldl (fun n c => n * 256 + c.toNat) a = a * 256 ^ bs.length + numL bs := by
  induction bs with
  | nil => intro a; simp [numL]
  | cons c t ih =>
    intro a
    simp only [List.foldl_cons, numL]
    rw [ih, ih]
    simp only [List.length_cons, Nat.pow_succ, Nat.zero_mul, Nat.zero_add]
    rw [Nat.add_mul, Nat.mul_assoc, Nat.mul_comm 256 (256 ^ t.length)]
    omega
theorem numL_cons (c : UInt8) (t : List UInt8) : numL (c :: t) = c.toNat * 256 ^ t.length + numL t := by
  show (c :: t).foldl _ 0 = _
  rw [List.foldl_cons, foldl_num]
  simp
theorem numL_append (s t : List UInt8) : numL (s ++ t) = numL s * 256 ^ t.length + numL t := by
  unfold numL
  rw [List.foldl_append, foldl_num]
  rfl
theorem numL_snoc (s : List UInt8) (c : UInt8) : numL (s ++ [c]) = numL s * 256 + c.toNat := by
  rw [numL_append]; simp [numL]
theorem numL_lt (bs : List UInt8) : numL bs < 256 ^ bs.length := by
  induction bs with
  | nil => simp [numL]
  | cons c t ih =>
    rw [numL_cons, List.length_cons, Nat.pow_succ]
    have := c.toNat_lt
    have h2 : c.toNat * 256 ^ t.length ≤ 255 * 256 ^ t.length := Nat.mul_le_mul_right _ (by omega)
    omega
theorem numL_beN (n : Nat) : ∀ k, numL (beN n k) = n % 256 ^ k
  | 0 => by simp [beN, numL, Nat.mod_one]
  | k + 1 => by
    rw [beN, numL_cons, beN_len, numL_beN n k]
    have h1 : (UInt8.ofNat (n / 256 ^ k % 256)).toNat = n / 256 ^ k % 256 := by simp
    rw [h1, Nat.pow_succ, Nat.mod_mul, Nat.mul_comm (256 ^ k)]
    omega

theorem shr_byte (n k : Nat) : (n : Int) / 2 ^ (8 * k) % 256 = ((UInt8.ofNat (n / 256 ^ k % 256)).toNat : Int) := by
  rw [show (256 : Nat) ^ k = 2 ^ (8 * k) by rw [Nat.pow_mul]]
  simp
theorem set_rep (m : Nat) (L : List Value) (z x : Value) : (List.replicate (m + 1) z ++ L).set m x = List.replicate m z ++ x :: L := by
  rw [List.replicate_succ', List.append_assoc, List.set_append_right _ _ (by simp)]
  simp
theorem info_u8 : (Try.prog.info? 5).map (fun i => (i.zero, i.size, i.bytes)) = some (some (.int .u8 0), 1, 1) := by kernel_rfl
/-- make([]byte, n). -/
theorem make_bytes (n : Nat) (hn : n ≤ 1099511627776) (w : World) : (Instr.makeSlice 22 (.int .i64 (n : Int)) (.int .i64 (n : Int))).run Try.prog w = .ok (.slice (some ⟨w.heap.size, 0, none⟩) n n) (w.alloc (.cells (List.replicate n (Value.int .u8 0)).toArray 5)) := by
  obtain ⟨i, hi, hz, hs, hb⟩ := info_parts info_u8
  have h := run_make (P := Try.prog) w 22 5 i _ Try.underlying22 hi hz .i64 .i64 n n (by omega) (Int.le_refl _) (by rw [hb]; omega) (by omega)
  rw [h, hs]
  simp only [Int.toNat_natCast, Nat.mul_one]
  congr 3
  apply Array.toList_inj.1
  exact toList_madeCells_one _ n

/-- be(n, size): a new row of these bytes. -/
theorem be_ok (n size : Nat) (w : World) (hn : n < 9223372036854775808) (hs : size ≤ 8) :
    Calls Try.prog 112 #[.int .i64 n, .int .i64 size] w fun e w' => e = .returned (.slice (some ⟨w.heap.size, 0, none⟩) size size) ∧ w'.heap[w.heap.size]? = some (.cells ((beN n size).map bV).toArray 5 (0, 0)) ∧ Below w.heap.size w w' := by
  have hmk := make_bytes size (by omega)
  go_enter Try.func112, Try.ntmps112
  go_wp2
  generalize hW : w.alloc _ = W
  have hb : W.heap[w.heap.size]? = some (.cells (List.replicate size (Value.int .u8 0)).toArray 5 (0, 0)) := by rw [← hW]; exact heap_alloc_new _ _
  have hB : Below w.heap.size w W := by rw [← hW]; exact (Below.refl _ _).alloc (Nat.le_refl _) _
  have HW := Lib.hid hW
  have Hb := Lib.hid hb
  clear hW hb hmk
  go_loopw [11] (fun i wr => ∃ k : Nat, k ≤ size ∧ i = .int .i64 k ∧ wr.heap[w.heap.size]? = some (.cells ((List.replicate (size - k) (Value.int .u8 0)) ++ (beN n k).map bV).toArray 5 (0, 0)) ∧ Below w.heap.size w wr) (fun i _ => size - (intOf i).toNat)
  case atStart => exact ⟨0, Nat.zero_le _, rfl, by simpa [beN] using Hb.out, hB⟩
  case round =>
    obtain ⟨k, hk, rfl, hb, hB⟩ := hrel
    have cell := blk_cell hb
    have free := blk_free hb
    have Hb := Lib.hid hb
    have HB := Lib.hid hB
    clear hb hB
    by_cases hlt : k < size
    · obtain ⟨m, hm⟩ : ∃ m, size = k + 1 + m := ⟨size - (k + 1), by omega⟩
      have c1 : wr.cell? ⟨w.heap.size, m, none⟩ = some (.int .u8 0) := by rw [cell, List.getElem?_toArray, List.getElem?_append_left (by rw [List.length_replicate]; omega), List.getElem?_replicate, if_pos (by omega)]
      have f1 := free m
      have e1 : ((size : Int) - 1 - k).toNat = m := by omega
      have Hm := Lib.hid hm
      have h1 : (0 : Int) ≤ (size : Int) - 1 - k := by omega
      have h2 : (size : Int) - 1 - k < size := by omega
      have h3 : (k : Int) < size := by omega
      clear cell free hm
      go_wp2
      go_roundw
      case rel =>
        refine ⟨k + 1, by omega, by go_num, ?_, HB.out.setCell (Nat.le_refl _) _⟩
        have := blk_set Hb.out m (.int .u8 ((UInt8.ofNat (n / 256 ^ k % 256)).toNat : Int))
        rw [shr_byte, this, List.setIfInBounds_toArray, show size - k = m + 1 by have := Hm.out; omega, show size - (k + 1) = m by have := Hm.out; omega, set_rep]
        rfl
      case measure => simp [intOf]; omega
    · obtain rfl : k = size := by omega
      clear cell free
      go_wp2
      go_ret
      exact ⟨rfl, by simpa using Hb.out, HB.out⟩

/-- num(b): the number of the bytes. -/
theorem num_ok (A : Option Addr) (c : Nat) (bs : List UInt8) (hl : bs.length ≤ 7) (w : World) (hr : Rd w A (bs.map bV)) :
    Calls Try.prog 115 #[.slice A bs.length c] w fun e w' => e = .returned (.int .i64 (numL bs)) ∧ w = w' := by
  go_enter Try.func115, Try.ntmps115
  go_wp2
  go_loop [3, 8] (fun n i => ∃ k : Nat, k ≤ bs.length ∧ i = .int .i64 k ∧ n = .int .i64 (numL (bs.take k))) (fun _ i => bs.length - (intOf i).toNat)
  case atStart => exact ⟨0, Nat.zero_le _, rfl, rfl⟩
  case round =>
    obtain ⟨k, hk, rfl, rfl⟩ := hrel
    have hb1 : numL (bs.take k) < 256 ^ 6 ∨ k = bs.length := by
      by_cases h : k = bs.length
      · exact .inr h
      · refine .inl (Nat.lt_of_lt_of_le (numL_lt _) (Nat.pow_le_pow_right (by omega) ?_))
        rw [List.length_take]; omega
    by_cases hlt : k < bs.length
    · obtain ⟨ad, rfl, hc⟩ := hr.at_ (k := k) (by simpa using hlt)
      have hc' : w.cell? (ad.add k) = some (.int .u8 (bs[k].toNat : Int)) := by rw [hc]; simp [bV]
      have hs : numL (bs.take (k + 1)) = numL (bs.take k) * 256 + bs[k].toNat := by rw [List.take_succ_eq_append_getElem hlt, numL_snoc]
      have hu := bs[k].toNat_lt
      have hu1 : (bs[k].toNat : Int) ≤ 255 := by omega
      have hu0 : (0 : Int) ≤ (bs[k].toNat : Int) := by omega
      have hb2 : (numL (bs.take k) : Int) ≤ 281474976710656 := by rcases hb1 with h | h <;> omega
      have HS := Lib.hid hs
      have HR := Lib.hid hr
      clear hs hr hb1 hc hu
      have h3 : (k : Int) < bs.length := by omega
      go_wp2
      go_round
      case rel => exact ⟨k + 1, by omega, by go_num, by rw [HS.out]; go_num⟩
      case measure => simp [intOf]; omega
    · obtain rfl : k = bs.length := by omega
      go_wp2
      go_ret
      exact ⟨rfl, rfl⟩

/-- string(b). -/
theorem bytes_str (A : Option Addr) (n c : Nat) (bs : List UInt8) (hn : bs.length = n) (w : World) (hr : Rd w A (bs.map bV)) : (convert 22 9 (.slice A n c)).run Try.prog w = .ok (.string (bstr bs)) w :=
  run_conv_bytes w 22 9 5 Try.underlying22 Try.underlying5 Try.underlying9 A n c bs hn hr
end Go.Proofs.Ytdenjmdngmmodaa
namespace Go.Proofs.Ytdenjmdngmmodaa
open Go.RowKit
set_option linter.unusedVariables false
set_option linter.unusedSimpArgs false
set_option maxRecDepth 20000
set_option maxHeartbeats 1000000

theorem zeroCells_u8 (n : Nat) : Builtin.zeroCells (Value.int .u8 0).cells n = Array.replicate n (Value.int .u8 0) := by
  apply Array.ext
  · simp [Builtin.zeroCells, Value.cells]
  · intro i h1 h2
    simp [Builtin.zeroCells, Value.cells, Nat.mod_one]
/-- append(nil, make([]byte, n)...). -/
theorem append_zeros (n : Nat) (hn : 0 < n) (hn2 : n ≤ 1099511627776) (w : World) : ∃ cap : Nat, n ≤ cap ∧ cap ≤ maxLen ∧
    (Builtin.append_ #[22, 3] 22 #[.slice none 0 0, .int .i64 (n : Int)]).run Try.prog w = .ok (.slice (some ⟨w.heap.size, 0, none⟩) n cap) (w.drew.alloc (.cells (List.replicate cap (Value.int .u8 0)).toArray 5)) := by
  obtain ⟨i, hi, hz, hs, hb⟩ := info_parts info_u8
  refine ⟨grownCap w n 0 5, grownCap_ge w n 0 _, grownCap_le_maxLen w n 0 _ (by simp [maxLen]; omega), ?_⟩
  have hw : IntKind.i64.wrap (n : Int) = n := IntWalk.i64_in _ (by omega)
  have h1 : ¬ ((n : Int) < 0) := by omega
  have h2 : ¬ (281474976710656 < (n : Int)) := by omega
  have h3 : ¬ (281474976710656 < Builtin.nextslicecap n 0) := by rw [nextslicecap_zero hn]; omega
  have h4 : n ≠ 0 := by omega
  have h5 : ¬ (9223372036854775807 < (n : Int)) := by omega
  have h6 := grownCap_ge w n 0 5
  simp [Builtin.append_, run_underlying Try.underlying22, run_underlying Try.underlying3, sizeOf, typeInfo, zeroValue, hi, hs, hb, hz, hw, asInt, asIntOf, h1, h2, h3, h4, h5, Question.forced, run_firstCells_none, newRow, grownCap]
  simp only [grownCap] at h6
  rw [zeroCells_u8, zeroCells_u8, Array.replicate_append_replicate]
  congr 3
  omega

/-- Grow(nil, n). -/
theorem grow_ok (n : Nat) (hn : n ≤ 1099511627776) (w : World) :
    Calls Try.prog 146 #[.slice none 0 0, .int .i64 (n : Int)] w fun e w' => ∃ v, e = .returned v ∧ w'.ownsRow w.heap.size 5 1 v 0 [] ∧ Below w.heap.size w w' := by
  by_cases h0 : n = 0
  · subst h0
    go_enter Try.func146, Try.ntmps146
    go_wp2
    go_ret
    exact ⟨_, rfl, World.ownsRow_nil _ _ _ _, Below.refl _ _⟩
  · obtain ⟨cap, h1, h2, hrun⟩ := append_zeros n (by omega) hn w
    have hp : (0 : Int) < n := by omega
    go_enter Try.func146, Try.ntmps146
    go_wp2_with (at_builtin; refine wpList_append_run rfl _ _ _ _ rfl rfl rfl hrun ?_)
    go_ret
    exact ⟨_, rfl, World.ownsRow_made w _ cap (Nat.le_refl _) h2 (by simp), ((Below.refl _ _).alloc (Nat.le_refl _) _).drew⟩

/-- append of bytes. -/
theorem append_bytes (w : World) (base : Nat) (v : Value) (bs : List UInt8) (hown : w.ownsRow base 5 1 v bs.length (bs.map bV)) (A : Option Addr) (c : Nat) (ns : List UInt8) (hr : Rd w A (ns.map bV))
    (h : bs.length + ns.length ≤ 1099511627776) (hb : base ≤ w.heap.size) :
    ∃ v' w', (Builtin.append_ #[22, 22] 22 #[v, .slice A ns.length c]).run Try.prog w = .ok v' w' ∧ w'.ownsRow base 5 1 v' (bs ++ ns).length ((bs ++ ns).map bV) ∧ w.grownBy w' v.ownBlock := by
  obtain ⟨i, hi, hz, hs, hby⟩ := info_parts info_u8
  obtain ⟨v', w', h1, h2, h3, _⟩ := run_append_rd (P := Try.prog) w base 22 22 5 i _ 1 1 Try.underlying22 hi hz hs hby rfl (by omega) v bs.length (bs.map bV) hown A ns.length c (ns.map bV) (by simp) hr
    (by intro u hu; obtain ⟨b, _, rfl⟩ := List.mem_map.1 hu; rfl) (by simp only [maxLen]; omega) (by omega) hb
  exact ⟨v', w', h1, by rw [List.length_append, List.map_append]; exact h2, h3⟩

/-- One of the slices that are put together. -/
structure Pc where
  A : Option Addr
  c : Nat
  bs : List UInt8
def Pc.v (p : Pc) : Value := .slice p.A p.bs.length p.c
def pcs (L : List Pc) : List UInt8 := (L.map Pc.bs).flatten
theorem pcs_snoc (L : List Pc) (k : Nat) (h : k < L.length) : pcs (L.take (k + 1)) = pcs (L.take k) ++ L[k].bs := by
  rw [List.take_succ_eq_append_getElem h]
  unfold pcs
  rw [List.map_append, List.flatten_append]
  simp
theorem pcs_le (L : List Pc) (k : Nat) : (pcs (L.take k)).length ≤ (pcs L).length := by
  have : pcs L = pcs (L.take k) ++ pcs (L.drop k) := by unfold pcs; rw [← List.flatten_append, ← List.map_append, List.take_append_drop]
  rw [this, List.length_append]; omega

theorem concat_ok (A : Option Addr) (c : Nat) (L : List Pc) (w : World) (hr : Rd w A (L.map Pc.v)) (hp : ∀ p ∈ L, Rd w p.A (p.bs.map bV)) (hl : L.length ≤ 1000) (hs : (pcs L).length ≤ 1099511627776) :
    Calls Try.prog 111 #[.slice A L.length c] w fun e w' => ∃ v, e = .returned v ∧ w'.ownsRow w.heap.size 5 1 v (pcs L).length ((pcs L).map bV) ∧ Below w.heap.size w w' := by
  have HP := Lib.hid hp
  have HR := Lib.hid hr
  clear hp hr
  go_enter Try.func111, Try.ntmps111
  go_wp2
  go_loop [3, 11] (fun n i => ∃ k : Nat, k ≤ L.length ∧ i = .int .i64 k ∧ n = .int .i64 (pcs (L.take k)).length) (fun _ i => L.length - (intOf i).toNat)
  case atStart => exact ⟨0, Nat.zero_le _, rfl, rfl⟩
  case round =>
    obtain ⟨k, hk, rfl, rfl⟩ := hrel
    have hle := pcs_le L k
    by_cases hlt : k < L.length
    · obtain ⟨ad, rfl, hc⟩ := HR.out.at_ (k := k) (by simpa using hlt)
      have hc' : w.cell? (ad.add k) = some (.slice L[k].A L[k].bs.length L[k].c) := by rw [hc]; simp [Pc.v]
      have HS := Lib.hid (pcs_snoc L k hlt)
      have hle2 := pcs_le L (k + 1)
      rw [HS.out, List.length_append] at hle2
      have h3 : (k : Int) < L.length := by omega
      have h4 : (0 : Int) ≤ ((pcs (L.take k)).length : Int) + (L[k].bs.length : Int) := by omega
      clear hc
      go_wp2
      go_round
      case rel => exact ⟨k + 1, by omega, by go_num, by rw [HS.out, List.length_append]; go_num⟩
      case measure => simp [intOf]; omega
    · obtain rfl : k = L.length := by omega
      rw [List.take_length] at *
      go_wp2_with fail
      refine (grow_ok (pcs L).length hs _).mono ?_
      rintro e w1 ⟨v, rfl, hown, hB⟩
      clear hk hle
      go_wp2
      go_loopw [6, 27] (fun v i wr => ∃ k : Nat, k ≤ L.length ∧ i = .int .i64 k ∧ wr.ownsRow w.heap.size 5 1 v (pcs (L.take k)).length ((pcs (L.take k)).map bV) ∧ Below w.heap.size w wr) (fun _ i _ => L.length - (intOf i).toNat)
      case atStart => exact ⟨0, Nat.zero_le _, rfl, hown, hB⟩
      case round =>
        obtain ⟨k, hk, rfl, hown, hB⟩ := hrel
        by_cases hlt : k < L.length
        · obtain ⟨ad, rfl, hc⟩ := (HR.out.below hB (Nat.le_refl _)).at_ (k := k) (by simpa using hlt)
          have hc' : wr.cell? (ad.add k) = some (.slice L[k].A L[k].bs.length L[k].c) := by rw [hc]; simp [Pc.v]
          have HS := Lib.hid (pcs_snoc L k hlt)
          have hle2 := pcs_le L (k + 1)
          rw [HS.out, List.length_append] at hle2
          obtain ⟨v', w2, hrun, hown2, hg2⟩ := append_bytes wr w.heap.size _ (pcs (L.take k)) hown L[k].A L[k].c L[k].bs ((HP.out _ (List.getElem_mem hlt)).below hB (Nat.le_refl _)) (by omega) hB.size
          have h3 : (k : Int) < L.length := by omega
          have HO := Lib.hid hown2
          have HO1 := Lib.hid hown
          clear hc hown hown2
          go_wp2_with (at_builtin; refine wpList_append_run rfl _ _ _ _ rfl rfl rfl hrun ?_)
          go_roundw
          case rel => exact ⟨k + 1, by omega, by go_num, by rw [HS.out]; exact HO.out, hB.grown hg2 hB.size (fun g hg => (HO1.out.lt g hg).1)⟩
          case measure => simp [intOf]; omega
        · obtain rfl : k = L.length := by omega
          rw [List.take_length] at *
          go_wp2
          go_ret
          exact ⟨_, rfl, hown, hB⟩
end Go.Proofs.Ytdenjmdngmmodaa
namespace Go.Proofs.Ytdenjmdngmmodaa
set_option linter.unusedVariables false

abbrev Spec := Array Value → Value → World → Prop
abbrev Facts := Nat → Option (Array Value × Value)
def upd (F : Facts) (i : Nat) (x : Array Value × Value) : Facts := fun j => if j = i then some x else F j
def ancB (B : List Nat) (i j : Nat) : Bool := (B.getD i 0).testBit j
def depsB (o : Oper) : List Nat := (o.after.toList.filter (Region.binds .any)).map (·.on)
def argsOf (a : Act) (o : Oper) : Array Value := o.op.operands.map a.eval
def lexOkB (ops : List Oper) (B : List Nat) : Bool :=
  ops.zipIdx.all fun x => decide (B.getD x.2 0 < 2 ^ x.2) && (match x.1.op with | .select .. => false | _ => true) && (depsB x.1).all (fun d => decide (d < x.2)) &&
    (List.range x.2).all fun j => (ancB B x.2 j || (ops.getD j default).apart ops.toArray x.1) && (!ancB B x.2 j || (depsB x.1).any fun d => d == j || ancB B d j)
def lexOk (ops : List Oper) : Bool := lexOkB ops (Region.before ops.toArray).toList

section
variable (P : Program) (ops : Array Oper) (J : Nat → World → Prop) (Le : World → World → Prop) (φ : Nat → Option Spec) (B : List Nat)
def factsAt (F : Facts) (S : Nat → Bool) (w : World) : Prop := ∀ j, S j = true → ∀ x v sp, F j = some (x, v) → φ j = some sp → sp x v w
/-- These facts may hold. -/
def Poss (F : Facts) : Prop := ∃ m w, J m w ∧ factsAt φ F (fun _ => true) w
/-- What an operation gives: a value and a world, or what its callee returns. -/
def gives (o : Oper) (a : Act) (w : World) (R : Value → World → Prop) : Prop :=
  match (execOp a.eval o).run P w with
  | .ok (.value v) w' => R v w'
  | .ok .skip w' => R undef w'
  | .ok (.enter f args) w' => Calls P f args w' (fun e w'' => ∃ v, e = .returned v ∧ R v w'')
  | _ => False
/-- One operation of the walk. -/
def lexStep (i : Nat) (o : Oper) (F : Facts) (a : Act) (K : Facts → Act → Prop) : Prop :=
  if Region.wanted o (yielded ops a.tmps) = true then
    match φ i with
    | none => ∃ v, (∀ m w, J m w → factsAt φ F (ancB B i) w → (execOp a.eval o).run P w = .ok (.value v) w) ∧ K F (a.put o.dst v)
    | some sp => (∀ m w, J (m + 1) w → factsAt φ F (ancB B i) w → gives P o a w (fun v w' => J m w' ∧ Le w w' ∧ sp (argsOf a o) v w')) ∧
        ∀ v, Poss J φ (upd F i (argsOf a o, v)) → K (upd F i (argsOf a o, v)) (a.put o.dst v)
  else K F (a.put o.dst undef)
def lexR : List (Nat × Oper) → (Act → Facts → Prop) → Facts → Act → Prop
  | [], fin, F, a => fin a F
  | (i, o) :: r, fin, F, a => lexStep P ops J Le φ B i o F a (lexR r fin)
end

section
variable {P : Program} {ops : Array Oper} {J : Nat → World → Prop} {Le : World → World → Prop} {φ : Nat → Option Spec} {B : List Nat} {m : Nat}

theorem upd_comm {F : Facts} {i j : Nat} {x y : Array Value × Value} (h : i ≠ j) : upd (upd F i x) j y = upd (upd F j y) i x := by
  funext k
  simp only [upd]
  by_cases h1 : k = j <;> by_cases h2 : k = i <;> simp_all
theorem facts_mono {F : Facts} {S S' : Nat → Bool} {w : World} (h : factsAt φ F S w) (hs : ∀ j, S' j = true → S j = true) : factsAt φ F S' w :=
  fun j hj => h j (hs j hj)
theorem facts_upd {F : Facts} {S : Nat → Bool} {w : World} {i : Nat} {x : Array Value × Value} (hi : S i = false) : factsAt φ (upd F i x) S w ↔ factsAt φ F S w := by
  constructor
  · intro h j hj y v sp hF
    exact h j hj y v sp (by have : j ≠ i := fun e => by rw [e, hi] at hj; cases hj
                            simp [upd, this, hF])
  · intro h j hj y v sp hF
    have : j ≠ i := fun e => by rw [e, hi] at hj; cases hj
    exact h j hj y v sp (by simpa [upd, this] using hF)

theorem args_put {o : Oper} {a : Act} {dst : Option Tmp} {v : Value} (h : ∀ d, dst = some d → d ∉ o.looksAt ops) : argsOf (a.put dst v) o = argsOf a o := by
  unfold argsOf
  apply Array.map_congr_left
  intro x hx
  exact Act.eval_put fun d hd hxd => h d hd (by
    subst hxd
    exact List.mem_append_left _ (List.mem_filterMap.2 ⟨.tmp d, by simpa using hx, rfl⟩))

theorem gives_wp {o : Oper} {a : Act} {w : World} {R : Value → World → Prop} {K : Act → World → Prop} {Q : Exit → Act → World → Prop} (h : gives P o a w R) (hk : ∀ v w', R v w' → K (a.put o.dst v) w') : o.wp P a w K Q := by
  unfold Oper.wp
  unfold gives at h
  generalize (execOp a.eval o).run P w = r at *
  cases r with
  | ok m w' =>
    cases m <;> simp only [Oper.upon] at h ⊢ <;> first
      | exact hk _ _ h
      | exact h.elim
      | exact Calls.mono h (fun e w'' he => by obtain ⟨v, rfl, hr⟩ := he; exact hk _ _ hr)
  | halt x w' => exact h.elim
theorem gives_mono {o : Oper} {a : Act} {w : World} {R R' : Value → World → Prop} (h : gives P o a w R) (hr : ∀ v w', R v w' → R' v w') : gives P o a w R' := by
  unfold gives at *
  generalize (execOp a.eval o).run P w = r at *
  cases r with
  | ok m w' =>
    cases m <;> simp only at h ⊢ <;> first
      | exact hr _ _ h
      | exact h.elim
      | exact Calls.mono h (fun e w'' he => by obtain ⟨v, rfl, h2⟩ := he; exact ⟨v, rfl, hr _ _ h2⟩)
  | halt x w' => exact h.elim
theorem gives_some {o : Oper} {a : Act} {w : World} {R : Value → World → Prop} (h : gives P o a w R) : ∃ v w', R v w' := by
  unfold gives at h
  generalize (execOp a.eval o).run P w = r at *
  cases r with
  | ok m w' =>
    cases m <;> simp only at h <;> first
      | exact ⟨_, _, h⟩
      | exact h.elim
      | (obtain ⟨e, w'', fr, ⟨v, rfl, hr⟩, _⟩ := h []; exact ⟨_, _, hr⟩)
  | halt x w' => exact h.elim
theorem gives_congr {o : Oper} {a a' : Act} {w : World} {R : Value → World → Prop} (h : execOp a'.eval o = execOp a.eval o) : gives P o a' w R = gives P o a w R := by
  unfold gives
  rw [h]

theorem facts_drop {F : Facts} {j : Nat} {x : Array Value × Value} (hF : F j = none) {S : Nat → Bool} {w : World} (h : factsAt φ (upd F j x) S w) : factsAt φ F S w := fun i hi y v sp hy =>
  h i hi y v sp (by have : i ≠ j := fun e => by rw [e, hF] at hy; cases hy
                    simp [upd, this, hy])
theorem facts_all_upd {F : Facts} {i : Nat} {x : Array Value} {u : Value} {si : Spec} {W w0 : World} (hφi : φ i = some si) (hst : ∀ j sp x v w w', φ j = some sp → Le w w' → sp x v w → sp x v w')
    (hL : Le W w0) (hs : si x u w0) (hF : factsAt φ F (fun _ => true) W) : factsAt φ (upd F i (x, u)) (fun _ => true) w0 := fun k _ y v sp hk hsp => by
  by_cases hki : k = i
  · subst hki
    simp only [upd, if_true, Option.some.injEq, Prod.mk.injEq] at hk
    obtain ⟨rfl, rfl⟩ := hk
    rw [hφi] at hsp
    cases hsp
    exact hs
  · exact hst k sp y v W w0 hsp hL (hF k rfl y v sp (by simpa [upd, hki] using hk) hsp)

/-- What an operation asks of the walk: at the frame a, out of the facts F. -/
def Asks (P : Program) (J : Nat → World → Prop) (Le : World → World → Prop) (φ : Nat → Option Spec) (B : List Nat) (j : Nat) (o : Oper) (F : Facts) (a : Act) (x : Array Value) : Prop :=
  match φ j with
  | none => ∃ v, ∀ m w, J m w → factsAt φ F (ancB B j) w → (execOp a.eval o).run P w = .ok (.value v) w
  | some sp => ∀ m w, J (m + 1) w → factsAt φ F (ancB B j) w → gives P o a w (fun v w' => J m w' ∧ Le w w' ∧ sp x v w')

/-- What stands ahead of operation j, and is not waited for by it. -/
def Ahead (ops : Array Oper) (B : List Nat) (j : Nat) (oj : Oper) (F : Facts) (l : List (Nat × Oper)) : Prop :=
  ∀ x ∈ l, x.1 ≠ j ∧ ancB B j x.1 = false ∧ ancB B x.1 j = false ∧ x.2.apart ops oj = true ∧ (∀ cs b, x.2.op ≠ .select cs b) ∧ F x.1 = none

theorem asks_of_lex (hst : ∀ j sp x v w w', φ j = some sp → Le w w' → sp x v w → sp x v w') (hm : ∀ m w, J (m + 1) w → J m w) {j : Nat} {oj : Oper} (hsj : ∀ cs b, oj.op ≠ .select cs b) {fin : Act → Facts → Prop} {l2 : List (Nat × Oper)} :
    ∀ (l1 : List (Nat × Oper)) (F : Facts) (a : Act), (∀ x ∈ l1, x.1 ≠ j ∧ ancB B j x.1 = false ∧ x.2.apart ops oj = true) → (∃ m w, J (m + l1.length) w ∧ factsAt φ F (fun _ => true) w) → Region.wanted oj (yielded ops a.tmps) = true →
      lexR P ops J Le φ B (l1 ++ (j, oj) :: l2) fin F a → Asks P J Le φ B j oj F a (argsOf a oj) := by
  intro l1
  induction l1 with
  | nil =>
    intro F a _ _ hw h
    simp only [List.nil_append, lexR, lexStep, hw, if_true] at h
    unfold Asks
    cases hφ : φ j with
    | none => simp only [hφ] at h ⊢; obtain ⟨v, hv, _⟩ := h; exact ⟨v, hv⟩
    | some sp => simp only [hφ] at h ⊢; exact h.1
  | cons x t ih =>
    intro F a hx hE hw h
    obtain ⟨i, oi⟩ := x
    obtain ⟨hij, hji, hap⟩ := hx (i, oi) List.mem_cons_self
    have ht : ∀ x ∈ t, x.1 ≠ j ∧ ancB B j x.1 = false ∧ x.2.apart ops oj = true := fun x hx' => hx x (List.mem_cons_of_mem _ hx')
    obtain ⟨hdi, hdd, hdj⟩ := Oper.apart_spec hap
    have back : ∀ v F', (∀ w, factsAt φ F' (ancB B j) w ↔ factsAt φ F (ancB B j) w) → Asks P J Le φ B j oj F' (a.put oi.dst v) (argsOf (a.put oi.dst v) oj) → Asks P J Le φ B j oj F a (argsOf a oj) := by
      intro v F' hF hA
      unfold Asks at hA ⊢
      rw [args_put hdi] at hA
      have e : execOp (a.put oi.dst v).eval oj = execOp a.eval oj := execOp_put oj hsj a oi.dst v hdi
      cases hφ : φ j with
      | none => simp only [hφ, e, hF] at hA ⊢; exact hA
      | some sp =>
        simp only [hφ, hF] at hA ⊢
        exact fun m w h1 h2 => by rw [← gives_congr e]; exact hA m w h1 h2
    have hw' : ∀ v, Region.wanted oj (yielded ops (a.put oi.dst v).tmps) = true := fun v => by rw [wanted_put oj a oi.dst v hdi]; exact hw
    obtain ⟨m, W, hJ, hF⟩ := hE
    have hJ' : J (m + t.length) W := hm _ _ (by simpa [Nat.add_assoc] using hJ)
    simp only [List.cons_append, lexR, lexStep] at h
    by_cases hwi : Region.wanted oi (yielded ops a.tmps) = true
    · simp only [hwi, if_true] at h
      cases hφi : φ i with
      | none =>
        simp only [hφi] at h
        obtain ⟨v, _, h⟩ := h
        exact back v F (fun w => Iff.rfl) (ih F _ ht ⟨m, W, hJ', hF⟩ (hw' v) h)
      | some si =>
        simp only [hφi] at h
        obtain ⟨hu, h⟩ := h
        obtain ⟨u0, w0, h1, h2, h3⟩ := gives_some (hu (m + t.length) W (by simpa [Nat.add_assoc] using hJ) (facts_mono hF (fun _ _ => rfl)))
        have hF' := facts_all_upd hφi hst h2 h3 hF
        exact back u0 _ (fun w => facts_upd hji) (ih _ _ ht ⟨m, w0, h1, hF'⟩ (hw' u0) (h u0 ⟨_, w0, h1, hF'⟩))
    · simp only [hwi, if_false] at h
      exact back undef F (fun w => Iff.rfl) (ih F _ ht ⟨m, W, hJ', hF⟩ (hw' undef) (by simpa using h))

/-- Operation j has come up, ahead of l1: the walk of what is left. -/
theorem lex_without {j : Nat} {oj : Oper} {vj : Value} {xj : Array Value} (hsj : ∀ cs b, oj.op ≠ .select cs b) {fin : Act → Facts → Prop} {l2 : List (Nat × Oper)} (wj : Bool) :
    ∀ (l1 : List (Nat × Oper)) (F : Facts) (a : Act), (∀ x ∈ l1, x.1 ≠ j ∧ ancB B j x.1 = false ∧ ancB B x.1 j = false ∧ x.2.apart ops oj = true ∧ (∀ cs b, x.2.op ≠ .select cs b)) → (∀ x ∈ l1, x.1 ≠ j) → F j = none →
      Region.wanted oj (yielded ops a.tmps) = wj → argsOf a oj = xj →
      (wj = true → φ j = none → ∀ m w, J m w → factsAt φ F (ancB B j) w → (execOp a.eval oj).run P w = .ok (.value vj) w) → (wj = false → vj = undef) → Poss J φ (if wj = true ∧ (φ j).isSome = true then upd F j (xj, vj) else F) →
      lexR P ops J Le φ B (l1 ++ (j, oj) :: l2) fin F a → lexR P ops J Le φ B (l1 ++ l2) fin (if wj = true ∧ (φ j).isSome = true then upd F j (xj, vj) else F) (a.put oj.dst vj) := by
  intro l1
  induction l1 with
  | nil =>
    intro F a _ _ hFj hw hx hv hu hP h
    simp only [List.nil_append, lexR, lexStep] at h ⊢
    cases wj with
    | false => simp only [hw, Bool.false_eq_true, if_false, false_and] at h ⊢; rw [hu rfl]; exact h
    | true =>
      simp only [hw, if_true, true_and] at h hP ⊢
      cases hφ : φ j with
      | none =>
        simp only [hφ, Option.isSome_none, Bool.false_eq_true, if_false] at h hP ⊢
        obtain ⟨v, h1, h2⟩ := h
        obtain ⟨m, w, hJ, hF⟩ := hP
        have e1 := h1 m w hJ (facts_mono hF fun _ _ => rfl)
        have e2 := hv rfl hφ m w hJ (facts_mono hF fun _ _ => rfl)
        rw [e1] at e2
        have : v = vj := by injection e2 with e2; injection e2
        rw [← this]; exact h2
      | some sp =>
        simp only [hφ, Option.isSome_some, if_true, hx] at h hP ⊢
        exact h.2 vj hP
  | cons x t ih =>
    intro F a hall hne hFj hw hx hv hu hP h
    obtain ⟨i, oi⟩ := x
    obtain ⟨hij, hji, hij', hap, hsi⟩ := hall (i, oi) List.mem_cons_self
    have ht : ∀ x ∈ t, x.1 ≠ j ∧ ancB B j x.1 = false ∧ ancB B x.1 j = false ∧ x.2.apart ops oj = true ∧ (∀ cs b, x.2.op ≠ .select cs b) := fun x hx' => hall x (List.mem_cons_of_mem _ hx')
    have hne' : ∀ x ∈ t, x.1 ≠ j := fun x hx' => hne x (List.mem_cons_of_mem _ hx')
    obtain ⟨hdi, hdd, hdj⟩ := Oper.apart_spec hap
    have ei : execOp (a.put oj.dst vj).eval oi = execOp a.eval oi := execOp_put oi hsi a oj.dst vj hdj
    have ej : ∀ v, execOp (a.put oi.dst v).eval oj = execOp a.eval oj := fun v => execOp_put oj hsj a oi.dst v hdi
    have wi : Region.wanted oi (yielded ops (a.put oj.dst vj).tmps) = Region.wanted oi (yielded ops a.tmps) := wanted_put oi a oj.dst vj hdj
    have wj' : ∀ v, Region.wanted oj (yielded ops (a.put oi.dst v).tmps) = wj := fun v => by rw [wanted_put oj a oi.dst v hdi]; exact hw
    have ai : argsOf (a.put oj.dst vj) oi = argsOf a oi := args_put hdj
    have aj : ∀ v, argsOf (a.put oi.dst v) oj = xj := fun v => by rw [args_put hdi]; exact hx
    have cm : ∀ v, (a.put oi.dst v).put oj.dst vj = (a.put oj.dst vj).put oi.dst v := fun v => Act.put_comm a v vj hdd
    have fG : ∀ w, factsAt φ (if wj = true ∧ (φ j).isSome = true then upd F j (xj, vj) else F) (ancB B i) w ↔ factsAt φ F (ancB B i) w := fun w => by
      split
      · exact facts_upd hij'
      · exact Iff.rfl
    simp only [List.cons_append, lexR, lexStep, wi, ei] at h ⊢
    by_cases hwi : Region.wanted oi (yielded ops a.tmps) = true
    · simp only [hwi, if_true] at h ⊢
      cases hφi : φ i with
      | none =>
        simp only [hφi, fG] at h ⊢
        obtain ⟨v, h1, h⟩ := h
        refine ⟨v, h1, ?_⟩
        rw [← cm]
        exact ih F _ ht hne' hFj (wj' v) (aj v) (fun e1 e2 m w h3 h4 => by rw [ej]; exact hv e1 e2 m w h3 h4) hu hP h
      | some si =>
        simp only [hφi, fG, ai] at h ⊢
        obtain ⟨hu', h⟩ := h
        refine ⟨fun m w h1 h2 => by rw [gives_congr ei]; exact hu' m w h1 h2, fun u hPu => ?_⟩
        have hsw : upd (if wj = true ∧ (φ j).isSome = true then upd F j (xj, vj) else F) i (argsOf a oi, u) = (if wj = true ∧ (φ j).isSome = true then upd (upd F i (argsOf a oi, u)) j (xj, vj) else upd F i (argsOf a oi, u)) := by
          split
          · exact (upd_comm hij).symm
          · rfl
        rw [hsw] at hPu ⊢
        rw [← cm]
        have hFij : upd F i (argsOf a oi, u) j = none := by simp [upd, Ne.symm hij, hFj]
        have hP1 : Poss J φ (upd F i (argsOf a oi, u)) := by
          obtain ⟨m, w, h1, h2⟩ := hPu
          refine ⟨m, w, h1, ?_⟩
          split at h2
          · exact facts_drop hFij h2
          · exact h2
        exact ih _ _ ht hne' hFij (wj' u) (aj u) (fun e1 e2 m w h3 h4 => by rw [ej]; exact hv e1 e2 m w h3 ((facts_upd hji).1 h4)) hu hPu (h u hP1)
    · simp only [hwi, if_false] at h ⊢
      rw [← cm]
      exact ih F _ ht hne' hFj (wj' undef) (aj undef) (fun e1 e2 m w h3 h4 => by rw [ej]; exact hv e1 e2 m w h3 h4) hu hP (by simpa using h)

def pairs (ops : List Oper) : List (Nat × Oper) := ops.zipIdx.map fun x => (x.2, x.1)
def rem (ops : List Oper) (listed : Array Bool) : List (Nat × Oper) := (pairs ops).filter fun x => !listed.getD x.1 true

theorem mem_pairs {ops : List Oper} {x : Nat × Oper} : x ∈ pairs ops ↔ ops[x.1]? = some x.2 := by
  obtain ⟨i, o⟩ := x
  simp only [pairs, List.mem_map, Prod.mk.injEq, Prod.exists]
  constructor
  · rintro ⟨o', i', h, rfl, rfl⟩
    exact List.mem_zipIdx_iff_getElem?.1 h
  · intro h
    exact ⟨o, i, List.mem_zipIdx_iff_getElem?.2 h, rfl, rfl⟩
theorem pairs_sorted (ops : List Oper) : (pairs ops).Pairwise fun x y => x.1 < y.1 := by
  unfold pairs
  rw [List.pairwise_map, List.zipIdx_eq_zip_range']
  have : ∀ (l : List Oper) (k m : Nat), (l.zip (List.range' k m)).Pairwise fun x y => x.2 < y.2 := by
    intro l
    induction l with
    | nil => intro k m; simp
    | cons o t ih =>
      intro k m
      cases m with
      | zero => simp
      | succ m =>
        simp only [List.range'_succ, List.zip_cons_cons, List.pairwise_cons]
        refine ⟨fun y hy => ?_, ih _ _⟩
        have := (List.of_mem_zip hy).2
        rw [List.mem_range'_1] at this
        omega
  exact this ops 0 ops.length

structure OkAt (ops : List Oper) (B : List Nat) : Prop where
  sel : ∀ (i : Nat) (o : Oper), ops[i]? = some o → ∀ cs b, o.op ≠ .select cs b
  dep : ∀ (i : Nat) (o : Oper), ops[i]? = some o → ∀ e ∈ o.after, Region.binds .any e = true → e.on < i
  lt : ∀ (i : Nat) (o : Oper), ops[i]? = some o → ∀ j, ancB B i j = true → j < i
  apart : ∀ (i : Nat) (o : Oper), ops[i]? = some o → ∀ (j : Nat) (oj : Oper), j < i → ops[j]? = some oj → ancB B i j = false → oj.apart ops.toArray o = true
  close : ∀ (i : Nat) (o : Oper), ops[i]? = some o → ∀ j, j < i → ancB B i j = true → ∃ e ∈ o.after, Region.binds .any e = true ∧ (e.on = j ∨ ancB B e.on j = true)

theorem OkAt.of {ops : List Oper} {B : List Nat} (h : lexOkB ops B = true) : OkAt ops B := by
  have key : ∀ (i : Nat) (o : Oper), ops[i]? = some o → _ := fun i o ho => (List.all_eq_true.1 h) (o, i) (List.mem_zipIdx_iff_getElem?.2 ho)
  have hdep : ∀ (i : Nat) (o : Oper), ops[i]? = some o → ∀ e ∈ o.after, Region.binds .any e = true → e.on < i := by
    intro i o ho e he hb
    have h1 := key i o ho
    simp only [Bool.and_eq_true, List.all_eq_true, decide_eq_true_eq] at h1
    exact h1.1.2 e.on (List.mem_map.2 ⟨e, List.mem_filter.2 ⟨by simpa using he, hb⟩, rfl⟩)
  refine ⟨fun i o ho cs b hsel => ?_, hdep, fun i o ho j hj => ?_, fun i o ho j oj hlt hoj ha => ?_, fun i o ho j hlt ha => ?_⟩
  · have h1 := key i o ho
    simp [hsel] at h1
  · have h1 := key i o ho
    simp only [Bool.and_eq_true, decide_eq_true_eq] at h1
    rcases Nat.lt_or_ge j i with hlt | hge
    · exact hlt
    · have : (B.getD i 0).testBit j = false := Nat.testBit_lt_two_pow (Nat.lt_of_lt_of_le h1.1.1.1 (Nat.pow_le_pow_right (by omega) hge))
      unfold ancB at hj
      rw [this] at hj
      cases hj
  · have h1 := key i o ho
    simp only [Bool.and_eq_true, List.all_eq_true, List.mem_range, Bool.or_eq_true] at h1
    have h2 := (h1.2 j hlt).1
    rw [ha] at h2
    have h3 := h2.resolve_left (by simp)
    rwa [List.getD_eq_getElem?_getD, hoj, Option.getD_some] at h3
  · have h1 := key i o ho
    simp only [Bool.and_eq_true, List.all_eq_true, List.mem_range, Bool.or_eq_true] at h1
    have h2 := (h1.2 j hlt).2
    rw [ha] at h2
    have h3 := h2.resolve_left (by simp)
    obtain ⟨d, hd, h4⟩ := List.any_eq_true.1 h3
    obtain ⟨e, he, rfl⟩ := List.mem_map.1 hd
    obtain ⟨he1, he2⟩ := List.mem_filter.1 he
    simp only [Bool.or_eq_true, beq_iff_eq] at h4
    exact ⟨e, by simpa using he1, he2, h4⟩

theorem rem_set {l : List Oper} {listed : Array Bool} {j : Nat} {oj : Oper} {l1 l2 : List (Nat × Oper)} (hl : l.length ≤ listed.size) (h : rem l listed = l1 ++ (j, oj) :: l2) : rem l (listed.setIfInBounds j true) = l1 ++ l2 := by
  have hs : (l1 ++ (j, oj) :: l2).Pairwise fun x y => x.1 < y.1 := by rw [← h]; exact (pairs_sorted l).filter _
  have hjl : j < l.length := by
    have : (j, oj) ∈ rem l listed := by rw [h]; simp
    have h2 := mem_pairs.1 (List.mem_filter.1 this).1
    exact (List.getElem?_eq_some_iff.1 h2).1
  have e : rem l (listed.setIfInBounds j true) = (rem l listed).filter fun x => decide (x.1 ≠ j) := by
    unfold rem
    rw [List.filter_filter]
    refine List.filter_congr fun x hx => ?_
    by_cases hxj : x.1 = j
    · subst hxj
      have : x.1 < listed.size := by omega
      simp [this]
    · rw [getD_set_ne true (Ne.symm hxj)]
      simp [hxj]
  rw [e, h, List.filter_append, List.filter_cons]
  rw [List.pairwise_append, List.pairwise_cons] at hs
  obtain ⟨_, ⟨h1, _⟩, h2⟩ := hs
  have f1 : l1.filter (fun x => decide (x.1 ≠ j)) = l1 := List.filter_eq_self.2 fun x hx => by
    have := h2 x hx (j, oj) List.mem_cons_self
    simp only at this
    simp; omega
  have f2 : l2.filter (fun x => decide (x.1 ≠ j)) = l2 := List.filter_eq_self.2 fun x hx => by
    have := h1 x hx
    simp only at this
    simp; omega
  rw [f1, f2]
  simp

theorem mem_take {l : List Oper} {n0 : Nat} {x : Nat × Oper} : x ∈ pairs (l.take n0) ↔ l[x.1]? = some x.2 ∧ x.1 < n0 := by
  rw [mem_pairs, List.getElem?_take]
  constructor
  · intro h
    split at h
    · rename_i hlt
      exact ⟨h, hlt⟩
    · cases h
  · rintro ⟨h, hlt⟩
    rw [if_pos hlt]; exact h

/-- The operations from n0 on come in one order, behind all others. -/
def tailOk (l : List Oper) (B : List Nat) (n0 : Nat) : Bool :=
  decide (n0 ≤ l.length) && ((List.range l.length).all fun t => decide (t < n0) || (List.range n0).all fun j => ancB B t j) &&
    Region.seqB .any l.toArray (l.length - n0) n0 (Array.replicate n0 true ++ Array.replicate (l.length - n0) false)

theorem lex_sound {l : List Oper} {n0 : Nat} {Q : Exit → Act → World → Prop} (hok : OkAt l B) (htl : tailOk l B n0 = true) (hst : ∀ j sp x v w w', φ j = some sp → Le w w' → sp x v w → sp x v w') (hm : ∀ m w, J (m + 1) w → J m w) :
    ∀ (fuel : Nat) (listed : Array Bool) (F : Facts) (a : Act) (w : World), fuel = (rem (l.take n0) listed).length + (l.length - n0) → listed.size = l.length → (∀ (i : Nat) (o : Oper), l[i]? = some o → listed.getD i true = true → ∀ j, ancB B i j = true → listed.getD j true = true) →
      (∀ t, n0 ≤ t → t < l.length → listed.getD t true = false) →
      (∀ j, j < l.length → listed.getD j true = false → F j = none) → J (rem (l.take n0) listed).length w → factsAt φ F (fun _ => true) w →
      lexR P l.toArray J Le φ B (rem (l.take n0) listed) (fun a F => ∀ m w, J m w → factsAt φ F (fun _ => true) w → wpList P l.toArray Q (l.drop n0) a w) F a → wpAny P .any l.toArray Q fuel listed a w := by
  simp only [tailOk, Bool.and_eq_true, decide_eq_true_eq, List.all_eq_true, List.mem_range, Bool.or_eq_true] at htl
  obtain ⟨⟨hn0, htail⟩, hseq⟩ := htl
  have done : ∀ (listed : Array Bool) (F : Facts) (a : Act) (w : World), listed.size = l.length → (∀ t, n0 ≤ t → t < l.length → listed.getD t true = false) → rem (l.take n0) listed = [] → J 0 w → factsAt φ F (fun _ => true) w →
      lexR P l.toArray J Le φ B [] (fun a F => ∀ m w, J m w → factsAt φ F (fun _ => true) w → wpList P l.toArray Q (l.drop n0) a w) F a → wpAny P .any l.toArray Q (l.length - n0) listed a w := by
    intro listed F a w hl ht hnil hJ hf h
    have he : listed = Array.replicate n0 true ++ Array.replicate (l.length - n0) false := by
      apply Array.ext
      · simp [hl]; omega
      · intro i h1 h2
        have hi : i < l.length := by omega
        by_cases hin : i < n0
        · have : listed.getD i true = true := by
            cases hc : listed.getD i true with
            | true => rfl
            | false =>
              have hx : (i, l[i]) ∈ rem (l.take n0) listed := List.mem_filter.2 ⟨mem_take.2 ⟨List.getElem?_eq_getElem hi, hin⟩, by simp [hc]⟩
              rw [hnil] at hx
              cases hx
          simp [h1] at this
          simp [Array.getElem_append, hin, this]
        · have := ht i (by omega) hi
          simp [h1] at this
          simp [Array.getElem_append, hin, this]
    have h2 := wpAny_of_seq (md := .any) (P := P) (Q' := Q) (ops := l.toArray) (l.drop n0) n0 listed a w (fun j => by simp [List.getElem?_drop]) (by rw [List.length_drop, he]; exact hseq) (h 0 w hJ hf)
    rwa [List.length_drop] at h2
  intro fuel
  induction fuel with
  | zero =>
    intro listed F a w hfu hl hcl ht hF hJ hf h
    have hnil : rem (l.take n0) listed = [] := List.eq_nil_of_length_eq_zero (by omega)
    rw [hnil] at h hJ
    have := done listed F a w hl ht hnil hJ hf h
    rwa [show l.length - n0 = 0 by omega] at this
  | succ fuel ih =>
    intro listed F a w hfu hl hcl ht hF hJ hf h
    by_cases hnil : rem (l.take n0) listed = []
    · rw [hnil] at h hJ
      have := done listed F a w hl ht hnil hJ hf h
      rwa [show l.length - n0 = fuel + 1 by rw [hnil] at hfu; simp at hfu; omega] at this
    refine ⟨fun hr => ?_, fun j hj => ?_⟩
    · exfalso
      obtain ⟨x, hx⟩ := List.exists_mem_of_ne_nil _ hnil
      have hall : ∀ i, i < l.length → listed.getD i true = true := by
        intro i
        induction i using Nat.strongRecOn with
        | _ i ih =>
          intro hi
          cases hc : listed.getD i true with
          | true => rfl
          | false =>
            exfalso
            have : i ∈ Region.ready .any l.toArray listed := mem_ready.2 ⟨hc, l[i], by simp [hi], fun e he hb => by
              have hlt := hok.dep i l[i] (List.getElem?_eq_getElem hi) e he hb
              have := ih e.on hlt (by omega)
              have h2 : e.on < listed.size := by omega
              simpa [h2] using this⟩
            rw [hr] at this
            cases this
      obtain ⟨hx1, hx2⟩ := List.mem_filter.1 hx
      rw [hall x.1 (List.getElem?_eq_some_iff.1 (mem_take.1 hx1).1).1] at hx2
      simp at hx2
    · obtain ⟨hjl, oj, hoj, hdeps⟩ := mem_ready.1 hj
      have hoj' : l[j]? = some oj := by simpa using hoj
      have hjlt : j < l.length := (List.getElem?_eq_some_iff.1 hoj').1
      have hanc : ∀ i, ancB B j i = true → listed.getD i true = true := by
        intro i hi
        have hij := hok.lt j oj hoj' i hi
        obtain ⟨e, he, hb, h2⟩ := hok.close j oj hoj' i hij hi
        have h3 := hdeps e he hb
        have hej := hok.dep j oj hoj' e he hb
        have h4 : listed.getD e.on true = true := by
          have : e.on < listed.size := by omega
          simpa [this] using h3
        rcases h2 with rfl | h2
        · exact h4
        · exact hcl e.on l[e.on] (List.getElem?_eq_getElem (by omega)) h4 i h2
      have hjn : j < n0 := by
        rcases Nat.lt_or_ge j n0 with h1 | h1
        · exact h1
        · exfalso
          obtain ⟨x, hx⟩ := List.exists_mem_of_ne_nil _ hnil
          obtain ⟨hx1, hx2⟩ := List.mem_filter.1 hx
          have h2 := (htail j hjlt).resolve_left (by omega) x.1 (mem_take.1 hx1).2
          rw [hanc x.1 h2] at hx2
          simp at hx2
      have hmem : (j, oj) ∈ rem (l.take n0) listed := List.mem_filter.2 ⟨mem_take.2 ⟨hoj', hjn⟩, by rw [hjl]; rfl⟩
      obtain ⟨l1, l2, hsp⟩ := List.append_of_mem hmem
      have hs : (l1 ++ (j, oj) :: l2).Pairwise fun x y => x.1 < y.1 := by rw [← hsp]; exact (pairs_sorted _).filter _
      have hlt1 : ∀ x ∈ l1, x.1 < j := fun x hx => (List.pairwise_append.1 hs).2.2 x hx (j, oj) List.mem_cons_self
      have hah : ∀ x ∈ l1, x.1 ≠ j ∧ ancB B j x.1 = false ∧ ancB B x.1 j = false ∧ x.2.apart l.toArray oj = true ∧ (∀ cs b, x.2.op ≠ .select cs b) := by
        intro x hx
        have hxr : x ∈ rem (l.take n0) listed := by rw [hsp]; exact List.mem_append_left _ hx
        obtain ⟨hx1, hx2⟩ := List.mem_filter.1 hxr
        have hx3 := (mem_take.1 hx1).1
        have hx4 : listed.getD x.1 true = false := by simpa using hx2
        have a1 : ancB B j x.1 = false := by
          cases hc : ancB B j x.1 with
          | false => rfl
          | true => have := hanc _ hc; rw [hx4] at this; cases this
        have a2 : ancB B x.1 j = false := by
          cases hc : ancB B x.1 j with
          | false => rfl
          | true => have := hok.lt _ _ hx3 _ hc; have := hlt1 x hx; omega
        exact ⟨by have := hlt1 x hx; omega, a1, a2, hok.apart j oj hoj' x.1 x.2 (hlt1 x hx) hx3 a1, hok.sel _ _ hx3⟩
      have hsj := hok.sel j oj hoj'
      have hlen : (rem (l.take n0) listed).length = l1.length + l2.length + 1 := by rw [hsp]; simp; omega
      rw [hsp] at h
      rw [hlen] at hJ hfu
      have hFj : F j = none := hF j hjlt hjl
      have hset := rem_set (by rw [hl, List.length_take]; omega) hsp
      have ht' : ∀ t, n0 ≤ t → t < l.length → (listed.setIfInBounds j true).getD t true = false := fun t h1 h2 => by rw [getD_set_ne true (by omega)]; exact ht t h1 h2
      have hcl' : ∀ i o, l[i]? = some o → (listed.setIfInBounds j true).getD i true = true → ∀ k, ancB B i k = true → (listed.setIfInBounds j true).getD k true = true := by
        intro i o ho hi k hk
        by_cases hkj : k = j
        · subst hkj; simp [hl, hjlt]
        · rw [getD_set_ne true (Ne.symm hkj)]
          by_cases hij : i = j
          · subst hij; exact hanc k hk
          · rw [getD_set_ne true (Ne.symm hij)] at hi
            exact hcl i o ho hi k hk
      have hF' : ∀ x, ∀ k, k < l.length → (listed.setIfInBounds j true).getD k true = false → upd F j x k = none ∧ F k = none := by
        intro x k hkl hk
        have hkj : k ≠ j := fun e => by subst e; simp [hl, hjlt] at hk
        rw [getD_set_ne true (Ne.symm hkj)] at hk
        exact ⟨by simp [upd, hkj, hF k hkl hk], hF k hkl hk⟩
      unfold wpOp
      simp only [hoj]
      by_cases hw : Region.wanted oj (yielded l.toArray a.tmps) = true
      · simp only [hw, if_true]
        have hA := asks_of_lex hst hm hsj l1 F a (fun x hx => ⟨(hah x hx).1, (hah x hx).2.1, (hah x hx).2.2.2.1⟩) ⟨l2.length + 1, w, by rw [show l2.length + 1 + l1.length = l1.length + l2.length + 1 by omega]; exact hJ, hf⟩ hw h
        unfold Asks at hA
        cases hφ : φ j with
        | none =>
          simp only [hφ] at hA
          obtain ⟨v, hv⟩ := hA
          have hrun := hv _ w hJ (facts_mono hf fun _ _ => rfl)
          refine .inl ?_
          unfold Oper.wp
          rw [hrun]
          have h2 := lex_without (vj := v) (xj := argsOf a oj) hsj true l1 F a hah (fun x hx => (hah x hx).1) hFj hw rfl (fun _ _ => hv) (fun e => by cases e) (by simp only [hφ]; exact ⟨_, w, hJ, hf⟩) h
          simp only [hφ, Option.isSome_none, Bool.false_eq_true, and_false, if_false] at h2
          exact ih _ F _ w (by rw [hset, List.length_append]; omega) (by simpa using hl) hcl' ht' (fun k h1 hk => (hF' (#[], undef) k h1 hk).2) (by rw [hset, List.length_append]; exact hm _ _ hJ) hf (by rw [hset]; exact h2)
        | some sp =>
          simp only [hφ] at hA
          have hg := hA (l1.length + l2.length) w hJ (facts_mono hf fun _ _ => rfl)
          refine .inl (gives_wp hg fun v w' ⟨h1, h2, h3⟩ => ?_)
          have hfa := facts_all_upd hφ hst h2 h3 hf
          have h4 := lex_without (vj := v) (xj := argsOf a oj) hsj true l1 F a hah (fun x hx => (hah x hx).1) hFj hw rfl (fun _ e => by rw [hφ] at e; cases e) (fun e => by cases e) (by simp only [hφ]; exact ⟨_, w', h1, hfa⟩) h
          simp only [hφ, Option.isSome_some, and_self, if_true] at h4
          exact ih _ _ _ w' (by rw [hset, List.length_append]; omega) (by simpa using hl) hcl' ht' (fun k h1 hk => (hF' _ k h1 hk).1) (by rw [hset, List.length_append]; exact h1) hfa (by rw [hset]; exact h4)
      · simp only [hw, Bool.false_eq_true, if_false]
        have h2 := lex_without (vj := undef) (xj := argsOf a oj) hsj false l1 F a hah (fun x hx => (hah x hx).1) hFj (by simpa using hw) rfl (fun e => by cases e) (fun _ => rfl) (by simp only [Bool.false_eq_true, false_and, if_false]; exact ⟨_, w, hJ, hf⟩) h
        simp only [Bool.false_eq_true, false_and, if_false] at h2
        exact ih _ F _ w (by rw [hset, List.length_append]; omega) (by simpa using hl) hcl' ht' (fun k h1 hk => (hF' (#[], undef) k h1 hk).2) (by rw [hset, List.length_append]; exact hm _ _ hJ) hf (by rw [hset]; exact h2)

/-- A REGION THAT DRAWS ITS ORDER, in the order of the text; from n0 on its operations come in one order behind all others. -/
theorem wp_region_lex {id : Nat} {Q : Exit → Act → World → Prop} {a : Act} {w : World} {l : List Oper} (n0 : Nat) (hmx : P.follows .mixedOrders = true) (hB : (lexOk l && tailOk l (Region.before l.toArray).toList n0) = true)
    (J : Nat → World → Prop) (Le : World → World → Prop) (φ : Nat → Option Spec) (hst : ∀ j sp x v w w', φ j = some sp → Le w w' → sp x v w → sp x v w') (hm : ∀ m w, J (m + 1) w → J m w) (h0 : J n0 w.drew)
    (h : lexR P l.toArray J Le φ (Region.before l.toArray).toList (pairs (l.take n0)) (fun a F => ∀ m w, J m w → factsAt φ F (fun _ => true) w → wpList P l.toArray Q (l.drop n0) a w) (fun _ => none) a) : (Code.region id l.toArray true).wp P Q a w := by
  rw [Bool.and_eq_true] at hB
  refine wp_region_any hmx ?_
  have hn : n0 ≤ l.length := by
    have := hB.2
    simp only [tailOk, Bool.and_eq_true, decide_eq_true_eq] at this
    exact this.1.1
  have hr : rem (l.take n0) (Array.replicate l.length false) = pairs (l.take n0) := List.filter_eq_self.2 fun x hx => by
    have := (List.getElem?_eq_some_iff.1 (mem_take.1 hx).1).1
    simp [this]
  have hp : (pairs (l.take n0)).length = n0 := by simp [pairs]; omega
  have := lex_sound (Q := Q) (n0 := n0) (OkAt.of hB.1) hB.2 hst hm l.length (Array.replicate l.length false) (fun _ => none) a w.drew (by rw [hr, hp]; omega) (by simp) (fun i o ho hi => by
      have := (List.getElem?_eq_some_iff.1 ho).1
      simp [this] at hi) (fun t _ h2 => by simp [h2]) (fun _ _ _ => rfl) (by rw [hr, hp]; exact h0) (fun _ _ _ _ _ hF => by cases hF) (by rw [hr]; exact h)
  simpa using this

/-- An operation that only reckons. -/
theorem lex_pure {i : Nat} {o : Oper} {r : List (Nat × Oper)} {fin : Act → Facts → Prop} {F : Facts} {a : Act} (hg : o.guard = none) (hφ : φ i = none)
    (h : ∀ K : Act → Prop, (∀ a, lexR P ops J Le φ B r fin F a → K a) → ∃ v, (∀ w, (execOp a.eval o).run P w = .ok (.value v) w) ∧ K (a.put o.dst v)) : lexR P ops J Le φ B ((i, o) :: r) fin F a := by
  have hw : Region.wanted o (yielded ops a.tmps) = true := by simp [Region.wanted, hg]
  obtain ⟨v, h1, h2⟩ := h _ (fun _ h => h)
  simp only [lexR, lexStep, hw, if_true, hφ]
  exact ⟨v, fun _ w _ _ => h1 w, h2⟩
/-- An operation that reads what is known: its value is told. -/
theorem lex_load {i : Nat} {o : Oper} {r : List (Nat × Oper)} {fin : Act → Facts → Prop} {F : Facts} {a : Act} (hg : o.guard = none) (hφ : φ i = none) (v : Value)
    (h1 : ∀ m w, J m w → factsAt φ F (ancB B i) w → (execOp a.eval o).run P w = .ok (.value v) w) (h2 : lexR P ops J Le φ B r fin F (a.put o.dst v)) : lexR P ops J Le φ B ((i, o) :: r) fin F a := by
  have hw : Region.wanted o (yielded ops a.tmps) = true := by simp [Region.wanted, hg]
  simp only [lexR, lexStep, hw, if_true, hφ]
  exact ⟨v, h1, h2⟩
/-- Strings put together. -/
theorem lex_sadd {i : Nat} {o : Oper} {r : List (Nat × Oper)} {fin : Act → Facts → Prop} {F : Facts} {a : Act} {t t2 : TypeId} {x y : Operand} {p q : ByteArray} (hg : o.guard = none) (hφ : φ i = none)
    (ho : o.op = .binOp .add t x y t2) (hx : a.eval x = .string p) (hy : a.eval y = .string q) (hs : p.size + q.size ≤ 9223372036854775807) (h2 : lexR P ops J Le φ B r fin F (a.put o.dst (.string (p ++ q)))) : lexR P ops J Le φ B ((i, o) :: r) fin F a := by
  refine lex_load hg hφ (.string (p ++ q)) (fun m w _ _ => ?_) h2
  have e : ¬ ((9223372036854775807 : Int) < p.size + q.size) := by omega
  unfold execOp
  simp [ho, hx, hy, binOp, Op.stringOp, eqGuard, IntKind.max, IntKind.signed, IntKind.bits, e]
/-- An operation of which a specification is known. -/
theorem lex_eff {i : Nat} {o : Oper} {r : List (Nat × Oper)} {fin : Act → Facts → Prop} {F : Facts} {a : Act} {sp : Spec} (hg : o.guard = none) (hφ : φ i = some sp)
    (h1 : ∀ m w, J (m + 1) w → factsAt φ F (ancB B i) w → gives P o a w (fun v w' => J m w' ∧ Le w w' ∧ sp (argsOf a o) v w'))
    (h2 : ∀ v, Poss J φ (upd F i (argsOf a o, v)) → lexR P ops J Le φ B r fin (upd F i (argsOf a o, v)) (a.put o.dst v)) : lexR P ops J Le φ B ((i, o) :: r) fin F a := by
  have hw : Region.wanted o (yielded ops a.tmps) = true := by simp [Region.wanted, hg]
  simp only [lexR, lexStep, hw, if_true, hφ]
  exact ⟨h1, h2⟩
/-- .. which doesn't look at the operands: they are forgotten. -/
theorem lex_eff' {i : Nat} {o : Oper} {r : List (Nat × Oper)} {fin : Act → Facts → Prop} {F : Facts} {a : Act} {sp : Spec} (hg : o.guard = none) (hφ : φ i = some sp) (hx : ∀ x y v w, sp x v w → sp y v w)
    (h1 : ∀ m w, J (m + 1) w → factsAt φ F (ancB B i) w → gives P o a w (fun v w' => J m w' ∧ Le w w' ∧ sp #[] v w'))
    (h2 : ∀ v x, (∃ m w, J m w ∧ sp #[] v w ∧ factsAt φ F (fun _ => true) w) → lexR P ops J Le φ B r fin (upd F i (x, v)) (a.put o.dst v)) (hF : F i = none) : lexR P ops J Le φ B ((i, o) :: r) fin F a := by
  refine lex_eff hg hφ (fun m w hJ hf => gives_mono (h1 m w hJ hf) fun v w' ⟨a1, a2, a3⟩ => ⟨a1, a2, hx _ _ _ _ a3⟩) (fun v hP => ?_)
  obtain ⟨m, w, hJ, hf⟩ := hP
  have e : upd F i (argsOf a o, v) i = some (argsOf a o, v) := by simp [upd]
  exact h2 v _ ⟨m, w, hJ, hx _ _ _ _ (hf i rfl _ _ _ e hφ), facts_drop hF hf⟩
/-- A call of a named function. -/
theorem gives_call {f : FuncId} (hc : ∀ args w, (callFunc f args).run P w = .ok (.enter f args) w) {dst : Option Tmp} {xs : Array Operand} {ats : Array TypeId} {ty : TypeId} {pos : String} {after : Array Edge} {guard : Option (Nat × Bool)} {a : Act} {w : World} {R : Value → World → Prop}
    (h : Calls P f (xs.toList.map a.eval).toArray w fun e w' => ∃ v, e = .returned v ∧ R v w') : gives P { dst, op := .call { callee := .value (.func f), args := xs, argTypes := ats }, type := ty, pos, after, guard } a w R := by
  unfold gives
  rw [execOp_call_go, hc]
  simp only [Array.append_empty, Array.empty_append]
  have e : xs.map a.eval = (xs.toList.map a.eval).toArray := by cases xs; simp
  rw [e]
  exact h
theorem gives_value {o : Oper} {a : Act} {w w' : World} {v : Value} {R : Value → World → Prop} (h : (execOp a.eval o).run P w = .ok (.value v) w') (hr : R v w') : gives P o a w R := by
  unfold gives
  rw [h]
  exact hr
theorem lex_nil {fin : Act → Facts → Prop} {F : Facts} {a : Act} (h : fin a F) : lexR P ops J Le φ B [] fin F a := h
end
end Go.Proofs.Ytdenjmdngmmodaa
namespace Go.Proofs.Ytdenjmdngmmodaa
open Go.RowKit
set_option linter.unusedVariables false
set_option linter.unusedSimpArgs false
set_option maxRecDepth 20000

def sb (s : ByteArray) : List UInt8 := s.data.toList
theorem sb_append (a b : ByteArray) : sb (a ++ b) = sb a ++ sb b := by unfold sb; rw [ByteArray.data_append, Array.toList_append]
theorem sb_len (a : ByteArray) : (sb a).length = a.size := Array.length_toList
theorem bstr_sb (a : ByteArray) : bstr (sb a) = a := rfl
theorem sb_bstr (l : List UInt8) : sb (bstr l) = l := rfl

def LeB (w w' : World) : Prop := Below w.heap.size w w'
def JB (w0 : World) (_ : Nat) (w : World) : Prop := Below w0.heap.size w0 w
theorem JB.mono {w0 : World} (m : Nat) (w : World) (h : JB w0 (m + 1) w) : JB w0 m w := h
theorem JB.step {w0 w w' : World} {m : Nat} (h : JB w0 (m + 1) w) (hb : Below w.heap.size w w') : JB w0 m w' := Below.trans h (hb.mono h.size)
theorem own_base {w : World} {B B' : Nat} {e : TypeId} {size : Nat} {v : Value} {n : Nat} {xs : List Value} (h : w.ownsRow B e size v n xs) (hB : B' ≤ B) : w.ownsRow B' e size v n xs := by
  refine ⟨h.1, ?_⟩
  rcases h.2 with h2 | ⟨g, cap, cur, e1, hb, r⟩
  · exact .inl h2
  · exact .inr ⟨g, cap, cur, e1, by omega, r⟩
theorem below_setRow {B g : Nat} {w0 w : World} (hb : Below B w0 w) (hBg : B ≤ g) (cs : Array Value) : Below B w0 (w.setRow g cs) :=
  hb.trans ⟨rfl, rfl, rfl, by simp [World.setRow], fun k hk => setRow_other w g k cs (by omega)⟩
section
variable {P : Program} {fn : Func} {p u q : Tmp} {T E d : Nat} {tmps : Array Value} {w : World} {b : Nat} {cs : Array Value} {fr : Nat × Nat} {ds : TypeDesc}
theorem run_loadVar_blk (hb : w.heap[b]? = some (.cells cs E fr)) (hu : P.underlying T = some ds) (hd : ds.isRow = true) (hi : (P.info? T).map (·.size) = some cs.size) : (loadVar T ⟨b, 0, none⟩).run P w = .ok (.agg cs) w := by
  have := run_loadVar_mid (P := P) w b 0 T cs.toList ds (fun j v hv => by rw [Nat.zero_add, cell_of_row w b j cs E fr hb]; simpa using hv) hu hd (by simpa using hi)
  simpa using this
theorem ret_cell (h : fn.results = #[.cell p T]) (hp : tmps.getD p undef = .pointer (some ⟨b, 0, none⟩)) (hb : w.heap[b]? = some (.cells cs E fr)) (hu : P.underlying T = some ds) (hd : ds.isRow = true) (hi : (P.info? T).map (·.size) = some cs.size) :
    (results fn tmps).run P w = .ok (.agg cs) w := by
  have hp' : tmps[p]?.getD undef = .pointer (some ⟨b, 0, none⟩) := by rw [← Array.getD_eq_getD_getElem?]; exact hp
  simp only [results, h]
  simp [Sem.run_bind, Result.andThen, hp', asAddr, run_loadVar_blk hb hu hd hi]
theorem ret_cell_tmp (h : fn.results = #[.cell p T, .tmp u]) (hp : tmps.getD p undef = .pointer (some ⟨b, 0, none⟩)) (hb : w.heap[b]? = some (.cells cs E fr)) (hu : P.underlying T = some ds) (hd : ds.isRow = true) (hi : (P.info? T).map (·.size) = some cs.size) :
    (results fn tmps).run P w = .ok (.tuple #[.agg cs, tmps.getD u undef]) w := by
  have hp' : tmps[p]?.getD undef = .pointer (some ⟨b, 0, none⟩) := by rw [← Array.getD_eq_getD_getElem?]; exact hp
  simp only [results, h]
  simp [Sem.run_bind, Result.andThen, hp', asAddr, run_loadVar_blk hb hu hd hi]
end
/-- A slice that reads as bs. -/
def BsSp (bs : List UInt8) : Spec := fun _ v w => ∃ A c, v = .slice A bs.length c ∧ bs.length ≤ c ∧ Rd w A (bs.map bV)
theorem BsSp.st {bs : List UInt8} {x : Array Value} {v : Value} {w w' : World} (hL : LeB w w') (h : BsSp bs x v w) : BsSp bs x v w' := by
  obtain ⟨A, c, h1, h2, h3⟩ := h
  exact ⟨A, c, h1, h2, h3.below hL (Nat.le_refl _)⟩
theorem BsSp.rd {bs : List UInt8} {x : Array Value} {A : Option Addr} {n c : Nat} {w : World} (h : BsSp bs x (.slice A n c) w) : Rd w A (bs.map bV) := by
  obtain ⟨A', c', h1, _, h3⟩ := h
  injection h1 with h1 _ _
  subst h1
  exact h3
/-- .. but that a row of these very cells may have been marked as a constant's. -/
def LeK (kc : Array Value) (w w' : World) : Prop := w.heap.size ≤ w'.heap.size ∧ ∀ k, k < w.heap.size → w'.heap[k]? = w.heap[k]? ∨ ∃ E fr fr', w.heap[k]? = some (.cells kc E fr) ∧ w'.heap[k]? = some (.cells kc E fr')
theorem LeK.of {kc : Array Value} {w w' : World} (h : Below w.heap.size w w') : LeK kc w w' := ⟨h.size, fun k hk => .inl (h.block k hk)⟩
theorem LeB.of {w w' : World} (h : Below w.heap.size w w') : LeB w w' := h
theorem LeK.cell {kc : Array Value} {w w' : World} (h : LeK kc w w') {a : Addr} {u : Value} (hc : w.cell? a = some u) : w'.cell? a = some u := by
  rcases h.2 a.block (World.block_lt_of_cell? w a hc) with h1 | ⟨E, fr, fr', h1, h2⟩
  · exact (World.cell?_of_block h1).trans hc
  · unfold World.cell? at hc ⊢
    rw [h1] at hc
    rw [h2]
    exact hc
theorem BsSp.stK {kc : Array Value} {bs : List UInt8} {x : Array Value} {v : Value} {w w' : World} (hL : LeK kc w w') (h : BsSp bs x v w) : BsSp bs x v w' := by
  obtain ⟨A, c, h1, h2, h3⟩ := h
  exact ⟨A, c, h1, h2, fun j u hu => by obtain ⟨ad, e, hc⟩ := h3 j u hu; exact ⟨ad, e, hL.cell hc⟩⟩
/-- A new row of the operands. -/
def ArgRow (E : TypeId) : Spec := fun x v w => ∃ gg fr, v = .slice (some ⟨gg, 0, none⟩) x.size x.size ∧ w.heap[gg]? = some (.cells x E fr)
theorem ArgRow.st {E : TypeId} {x : Array Value} {v : Value} {w w' : World} (hL : LeB w w') (h : ArgRow E x v w) : ArgRow E x v w' := by
  obtain ⟨gg, fr, h1, h3⟩ := h
  exact ⟨gg, fr, h1, (hL.block gg (Array.getElem?_eq_some_iff.1 h3).1).trans h3⟩
theorem ArgRow.stK {kc : Array Value} {E : TypeId} {x : Array Value} {v : Value} {w w' : World} (hL : LeK kc w w') (h : ArgRow E x v w) : ArgRow E x v w' := by
  obtain ⟨gg, fr, h1, h3⟩ := h
  rcases hL.2 gg (Array.getElem?_eq_some_iff.1 h3).1 with e | ⟨E', f1, f2, e1, e2⟩
  · exact ⟨gg, fr, h1, e.trans h3⟩
  · rw [h3] at e1
    injection e1 with e1
    injection e1 with e1 e3 _
    subst e1 e3
    exact ⟨gg, f2, h1, e2⟩
theorem ArgRow.rd {E : TypeId} {x : Array Value} {b n : Nat} {w : World} (h : ArgRow E x (.slice (some ⟨b, 0, none⟩) n n) w) : Rd w (some ⟨b, 0, none⟩) x.toList := by
  obtain ⟨gg, fr, h1, h3⟩ := h
  injection h1 with h1
  injection h1 with h1
  injection h1 with h1
  subst h1
  simpa using Rd.block h3 0

/-- []byte(s). -/
theorem conv_sb (w : World) (s : ByteArray) : ∃ v w', (convert 9 22 (.string s)).run Try.prog w = .ok v w' ∧ BsSp (sb s) #[] v w' ∧ Below w.heap.size w w' := by
  refine ⟨_, _, Lib.run_convert_string_bytes w 9 22 5 s Try.underlying9 Try.underlying22 Try.underlying5, ?_, ?_⟩
  · refine ⟨some ⟨w.heap.size, 0, none⟩, _, by rw [sb_len], by rw [sb_len]; exact grownCap_ge w s.size 0 _, fun j u hu => ⟨_, rfl, ?_⟩⟩
    rw [List.getElem?_map] at hu
    cases hb : (sb s)[j]? with
    | none => rw [hb] at hu; cases hu
    | some b =>
      rw [hb] at hu
      cases hu
      have hj : j < s.size := by rw [← sb_len]; exact (List.getElem?_eq_some_iff.1 hb).1
      have e : (⟨w.heap.size, 0, none⟩ : Addr).add j = ⟨w.heap.size, j, none⟩ := by unfold Addr.add; split <;> simp_all
      rw [e, Lib.bytesWorld_cell w _ s j hj]
      unfold sb at hb
      simp [bV, List.getD, hb]
  · exact ⟨rfl, rfl, rfl, by rw [Lib.bytesWorld_size]; omega, fun k hk => Lib.bytesWorld_at_old w _ s k hk⟩

section
variable {ops : Array Oper} {φ : Nat → Option Spec} {B : List Nat} {w0 : World} {Le : World → World → Prop}
/-- []byte(s) in such a region. -/
theorem lexB_conv {i : Nat} {o : Oper} {r : List (Nat × Oper)} {fin : Act → Facts → Prop} {F : Facts} {a : Act} {x : Operand} {s : ByteArray} (hg : o.guard = none) (hφ : φ i = some (BsSp (sb s))) (ho : o.op = .convert 9 22 x) (hx : a.eval x = .string s) (hF : F i = none) (hLe : ∀ {w w'}, Below w.heap.size w w' → Le w w')
    (h2 : ∀ A c, (sb s).length ≤ c → lexR Try.prog ops (JB w0) Le φ B r fin (upd F i (#[.string s], .slice A (sb s).length c)) (a.put o.dst (.slice A (sb s).length c))) : lexR Try.prog ops (JB w0) Le φ B ((i, o) :: r) fin F a := by
  have hxa : argsOf a o = #[.string s] := by unfold argsOf; rw [ho]; simp [Op.operands, hx]
  refine lex_eff hg hφ (fun m W hJ hF => ?_) (fun v hP => ?_)
  · obtain ⟨v, w', h1, h2, h3⟩ := conv_sb W s
    exact gives_value (v := v) (by unfold execOp; simp [ho, hx, h1]) ⟨hJ.step h3, hLe h3, h2⟩
  · rw [hxa] at hP ⊢
    obtain ⟨m, w, hJ, hf⟩ := hP
    obtain ⟨A, c, rfl, hc, _⟩ := hf i rfl _ _ _ (by simp [upd]; exact ⟨rfl, rfl⟩) hφ
    exact h2 A c hc
/-- A new row of the operands. -/
theorem lexB_row {i : Nat} {o : Oper} {r : List (Nat × Oper)} {fin : Act → Facts → Prop} {F : Facts} {a : Act} {E : TypeId} (x : Array Value) (hg : o.guard = none) (hφ : φ i = some (ArgRow E)) (hx : argsOf a o = x) (hLe : ∀ {w w'}, Below w.heap.size w w' → Le w w')
    (hrun : ∀ w, (execOp a.eval o).run Try.prog w = .ok (.value (.slice (some ⟨w.heap.size, 0, none⟩) x.size x.size)) (w.alloc (.cells x E)))
    (h2 : ∀ b, lexR Try.prog ops (JB w0) Le φ B r fin (upd F i (x, .slice (some ⟨b, 0, none⟩) x.size x.size)) (a.put o.dst (.slice (some ⟨b, 0, none⟩) x.size x.size))) : lexR Try.prog ops (JB w0) Le φ B ((i, o) :: r) fin F a := by
  refine lex_eff hg hφ (fun m W hJ hF => ?_) (fun v hP => ?_)
  · have hb : Below W.heap.size W (W.alloc (.cells x E)) := (Below.refl _ _).alloc (Nat.le_refl _) _
    exact gives_value (hrun W) ⟨hJ.step hb, hLe hb, _, _, by rw [hx], by rw [hx]; exact heap_alloc_new _ _⟩
  · rw [hx] at hP ⊢
    obtain ⟨m, w, hJ, hf⟩ := hP
    obtain ⟨b, fr, rfl, _⟩ := hf i rfl _ _ _ (by simp [upd]; exact ⟨rfl, rfl⟩) hφ
    exact h2 b
end

/-- []byte of a constant: its new row is marked. -/
theorem run_mark (w : World) (b n c : Nat) (C : Array Value) (fr : Nat × Nat) (hb : w.heap[b]? = some (.cells C 5 fr)) : ∃ w', (convert 22 22 (.slice (some ⟨b, 0, none⟩) n c)).run Try.prog w = .ok (.slice (some ⟨b, 0, none⟩) n c) w' ∧
    w'.heap.size = w.heap.size ∧ (∃ fr', w'.heap[b]? = some (.cells C 5 fr')) ∧ (∀ k, k ≠ b → w'.heap[k]? = w.heap[k]?) ∧ w'.os = w.os ∧ w'.tape = w.tape ∧ w'.output = w.output := by
  have hsh : w.shape? b = some (5, C.size) := by unfold World.shape?; rw [hb]
  refine ⟨w.freeze ⟨b, C.size, none⟩ 1, ?_, ?_, ?_, ?_, rfl, rfl, rfl⟩
  · simp [convert, run_underlying Try.underlying22, run_underlying Try.underlying5, markStringish, hsh]
  · simp [World.freeze]
  · have hlt := (Array.getElem?_eq_some_iff.1 hb).1
    have hv := (Array.getElem?_eq_some_iff.1 hb).2
    obtain ⟨lo, hi⟩ := fr
    refine ⟨if lo == hi then (C.size, C.size + 1) else (min lo C.size, max hi (C.size + 1)), ?_⟩
    simp [World.freeze, Array.getElem?_modify, hb]
  · intro k hk
    simp [World.freeze, Array.getElem?_modify, Ne.symm hk]

/-- A new row of the constant's cells, known to lie from base on. -/
def ConstRow (base : Nat) (kc : Array Value) : Spec := fun _ v w => ∃ gg fr, v = .slice (some ⟨gg, 0, none⟩) kc.size kc.size ∧ base ≤ gg ∧ w.heap[gg]? = some (.cells kc 5 fr)
theorem ConstRow.stK {base : Nat} {kc : Array Value} {x : Array Value} {v : Value} {w w' : World} (hL : LeK kc w w') (h : ConstRow base kc x v w) : ConstRow base kc x v w' := by
  obtain ⟨gg, fr, h1, h2, h3⟩ := h
  rcases hL.2 gg (Array.getElem?_eq_some_iff.1 h3).1 with e | ⟨E', f1, f2, e1, e2⟩
  · exact ⟨gg, fr, h1, h2, e.trans h3⟩
  · rw [h3] at e1
    injection e1 with e1
    injection e1 with _ e3 _
    subst e3
    exact ⟨gg, f2, h1, h2, e2⟩
theorem ConstRow.rd {base : Nat} {kc : Array Value} {x : Array Value} {b n : Nat} {w : World} (h : ConstRow base kc x (.slice (some ⟨b, 0, none⟩) n n) w) : Rd w (some ⟨b, 0, none⟩) kc.toList := by
  obtain ⟨gg, fr, h1, h2, h3⟩ := h
  injection h1 with h1
  injection h1 with h1
  injection h1 with h1
  subst h1
  simpa using Rd.block h3 0
def MarkSp : Spec := fun x v _ => x = #[v]
section
variable {ops : Array Oper} {φ : Nat → Option Spec} {B : List Nat} {w0 : World} {kc : Array Value}
/-- The constant's row, and its mark. -/
theorem lexK_const {i : Nat} {o : Oper} {r : List (Nat × Oper)} {fin : Act → Facts → Prop} {F : Facts} {a : Act} (hg : o.guard = none) (hφ : φ i = some (ConstRow w0.heap.size kc)) (hF : F i = none)
    (hrun : ∀ w, (execOp a.eval o).run Try.prog w = .ok (.value (.slice (some ⟨w.heap.size, 0, none⟩) kc.size kc.size)) (w.alloc (.cells kc 5)))
    (h2 : ∀ b x, lexR Try.prog ops (JB w0) (LeK kc) φ B r fin (upd F i (x, .slice (some ⟨b, 0, none⟩) kc.size kc.size)) (a.put o.dst (.slice (some ⟨b, 0, none⟩) kc.size kc.size))) : lexR Try.prog ops (JB w0) (LeK kc) φ B ((i, o) :: r) fin F a := by
  refine lex_eff' hg hφ (fun _ _ _ _ h => h) (fun m W hJ hf => ?_) (fun v x hh => ?_) hF
  · have hb : Below W.heap.size W (W.alloc (.cells kc 5)) := (Below.refl _ _).alloc (Nat.le_refl _) _
    exact gives_value (hrun W) ⟨hJ.step hb, LeK.of hb, _, _, rfl, hJ.size, heap_alloc_new _ _⟩
  · obtain ⟨_, _, -, ⟨b, fr, rfl, -, -⟩, -⟩ := hh
    exact h2 b x
theorem lexK_mark {i j : Nat} {o : Oper} {r : List (Nat × Oper)} {fin : Act → Facts → Prop} {F : Facts} {a : Act} {x : Operand} {b n : Nat} {xj : Array Value} (hg : o.guard = none) (hφ : φ i = some MarkSp)
    (ho : o.op = .convert 22 22 x) (hx : a.eval x = .slice (some ⟨b, 0, none⟩) n n) (hj : ancB B i j = true) (hFj : F j = some (xj, .slice (some ⟨b, 0, none⟩) n n)) (hφj : φ j = some (ConstRow w0.heap.size kc))
    (h2 : lexR Try.prog ops (JB w0) (LeK kc) φ B r fin (upd F i (#[.slice (some ⟨b, 0, none⟩) n n], .slice (some ⟨b, 0, none⟩) n n)) (a.put o.dst (.slice (some ⟨b, 0, none⟩) n n))) : lexR Try.prog ops (JB w0) (LeK kc) φ B ((i, o) :: r) fin F a := by
  have hxa : argsOf a o = #[.slice (some ⟨b, 0, none⟩) n n] := by unfold argsOf; rw [ho]; simp [Op.operands, hx]
  refine lex_eff hg hφ (fun m W hJ hf => ?_) (fun v hP => ?_)
  · obtain ⟨gg, fr, e1, h1, h3⟩ := hf j hj _ _ _ hFj hφj
    injection e1 with e1 e4 _
    injection e1 with e1
    injection e1 with e1
    subst e1 e4
    obtain ⟨w', hr, hs, ⟨fr', hb'⟩, hk, h5, h6, h7⟩ := run_mark W b kc.size kc.size kc fr h3
    refine gives_value (v := .slice (some ⟨b, 0, none⟩) kc.size kc.size) (w' := w') (by unfold execOp; simp [ho, hx, hr]) ⟨Below.trans hJ ⟨h5, h6, h7, by omega, fun k hkl => hk k (by omega)⟩, ⟨by omega, fun k _ => ?_⟩, hxa⟩
    by_cases hkb : k = b
    · subst hkb; exact .inr ⟨_, _, _, h3, hb'⟩
    · exact .inl (hk k hkb)
  · rw [hxa] at hP ⊢
    obtain ⟨m, w, hJ, hf⟩ := hP
    have e := hf i rfl _ _ _ (by simp [upd]; exact ⟨rfl, rfl⟩) hφ
    obtain rfl : Value.slice (some ⟨b, 0, none⟩) n n = v := by unfold MarkSp at e; simpa using e
    exact h2
end
end Go.Proofs.Ytdenjmdngmmodaa
namespace Go.Proofs.Ytdenjmdngmmodaa
open Go.RowKit
set_option linter.unusedVariables false
set_option linter.unusedSimpArgs false

/-- Block g is a source that drew at most N bytes. -/
def Src (w : World) (g : Nat) (N : Int) : Prop := ∃ (A : Option Addr) (c : Nat) (bs : List UInt8) (at_ seed : Int),
  w.heap[g]? = some (.cells #[.slice A bs.length c, .int .i64 at_, .int .i64 seed] 128 (0, 0)) ∧ RdB w g A (bs.map bV) ∧
  bs.length ≤ 1099511627776 ∧ 0 ≤ at_ ∧ at_ ≤ N ∧ 0 ≤ seed ∧ seed < 2147483648
/-- A draw's end: the answer meets P, block g is a source still, nothing else has turned. -/
def SrcRet (w : World) (g : Nat) (N : Int) (P : Value → Prop) (e : Ending) (w' : World) : Prop := ∃ v, e = .returned v ∧ P v ∧ Src w' g N ∧ w.grownBy w' (some g)

theorem Src.lt {w : World} {g : Nat} {N : Int} (h : Src w g N) : g < w.heap.size := by
  obtain ⟨A, c, bs, a, s, hb, _⟩ := h
  exact (Array.getElem?_eq_some_iff.1 hb).1
theorem Src.more {w : World} {g : Nat} {N M : Int} (h : Src w g N) (hm : N ≤ M) : Src w g M := by
  obtain ⟨A, c, bs, a, s, hb, h1, h3, h4, h5, h6⟩ := h
  exact ⟨A, c, bs, a, s, hb, h1, h3, h4, by omega, h6⟩
/-- What is there up to block g is as it was. -/
theorem Src.keep {w w' : World} {g : Nat} {N : Int} (h : Src w g N) (hk : ∀ k, k < g + 1 → w'.heap[k]? = w.heap[k]?) : Src w' g N := by
  obtain ⟨A, c, bs, a, s, hb, h1, h3⟩ := h
  exact ⟨A, c, bs, a, s, (hk g (by omega)).trans hb, h1.keep fun k hl => hk k (by omega), h3⟩
theorem Src.below {w w' : World} {g B : Nat} {N : Int} (h : Src w g N) (hb : Below B w w') (hB : g < B) : Src w' g N := h.keep fun k hk => hb.block k (by omega)
theorem Src.setCell {w : World} {g : Nat} {N : Int} (h : Src w g N) (p : Addr) (hp : g < p.block) (u : Value) : Src (w.setCell p u) g N := h.keep fun k hk => Below.heap_setCell _ _ _ _ (by omega)

theorem Src.store1 {w : World} {g : Nat} {A : Option Addr} {c : Nat} {bs : List UInt8} {at_ seed : Int} (hb : w.heap[g]? = some (.cells #[.slice A bs.length c, .int .i64 at_, .int .i64 seed] 128 (0, 0)))
    (hr : RdB w g A (bs.map bV)) (hl : bs.length ≤ 1099511627776) {W : World} {n : Nat} {a' : Int} (hW : (w.setCell ⟨g, 1, none⟩ (.int .i64 a')).drewN n = W)
    (s' N : Int) (h0 : 0 ≤ a') (h1 : a' ≤ N) (h2 : 0 ≤ s') (h3 : s' < 2147483648) {w' : World} (hw : ∃ m, w' = (W.setCell ⟨g, 2, none⟩ (.int .i64 s')).drewN m) :
    Src w' g N ∧ w.grownBy w' (some g) := by
  obtain ⟨m, rfl⟩ := hw
  subst hW
  have hg : w.grownBy ((((w.setCell ⟨g, 1, none⟩ (.int .i64 a')).drewN n).setCell ⟨g, 2, none⟩ (.int .i64 s')).drewN m) (some g) := by
    refine ⟨rfl, rfl, rfl, by simp [World.setCell], fun k hk hne => ?_⟩
    have hk' : k ≠ g := fun e => hne (by rw [e])
    show (World.setCell _ _ _).heap[k]? = _
    rw [Below.heap_setCell _ _ _ _ hk']
    exact Below.heap_setCell _ _ _ _ hk'
  have hgl : g < w.heap.size := (Array.getElem?_eq_some_iff.1 hb).1
  refine ⟨⟨A, c, bs, a', s', ?_, hr.keep fun k hk => hg.block k (by omega) (by simp; omega), hl, h0, h1, h2, h3⟩, hg⟩
  simp [World.setCell, Array.getElem?_modify, hb, World.drewN]
theorem Src.store0 {w : World} {g : Nat} {A : Option Addr} {c : Nat} {bs : List UInt8} {at_ seed : Int} (hb : w.heap[g]? = some (.cells #[.slice A bs.length c, .int .i64 at_, .int .i64 seed] 128 (0, 0)))
    (hr : RdB w g A (bs.map bV)) (hl : bs.length ≤ 1099511627776) (a' N : Int) (h0 : 0 ≤ a') (h1 : a' ≤ N) (h2 : 0 ≤ seed) (h3 : seed < 2147483648) {w' : World} (hw : ∃ m, w' = (w.setCell ⟨g, 1, none⟩ (.int .i64 a')).drewN m) :
    Src w' g N ∧ w.grownBy w' (some g) := by
  obtain ⟨m, rfl⟩ := hw
  have hg : w.grownBy ((w.setCell ⟨g, 1, none⟩ (.int .i64 a')).drewN m) (some g) := by
    refine ⟨rfl, rfl, rfl, by simp [World.setCell], fun k hk hne => ?_⟩
    have hk' : k ≠ g := fun e => hne (by rw [e])
    exact Below.heap_setCell _ _ _ _ hk'
  have hgl : g < w.heap.size := (Array.getElem?_eq_some_iff.1 hb).1
  refine ⟨⟨A, c, bs, a', seed, ?_, hr.keep fun k hk => hg.block k (by omega) (by simp; omega), hl, h0, h1, h2, h3⟩, hg⟩
  simp [World.setCell, Array.getElem?_modify, hb, World.drewN]

set_option maxRecDepth 100000 in
set_option maxHeartbeats 1000000 in
theorem byte_ok (g : Nat) (N : Int) (w : World) (hs : Src w g N) (hN : N ≤ 1000000000) :
    Calls Try.prog 145 #[.pointer (some ⟨g, 0, none⟩)] w (SrcRet w g (N + 1) fun v => ∃ n : Int, v = .int .i64 n ∧ 0 ≤ n ∧ n ≤ 255) := by
  obtain ⟨A, c, bs, at_, seed, hb, hr, hl, h0, h1, h2, h3⟩ := hs
  have c0 : w.cell? ⟨g, 0, none⟩ = some (.slice A bs.length c) := (cell_of_row w g 0 _ 128 (0, 0) hb)
  have c1 : w.cell? ⟨g, 1, none⟩ = some (.int .i64 at_) := (cell_of_row w g 1 _ 128 (0, 0) hb)
  have c2 : w.cell? ⟨g, 2, none⟩ = some (.int .i64 seed) := (cell_of_row w g 2 _ 128 (0, 0) hb)
  have f1 : w.frozen? ⟨g, 1, none⟩ = false := by simp [World.frozen?, hb]
  have f2 : w.frozen? ⟨g, 2, none⟩ = false := by simp [World.frozen?, hb]
  have Hb := Lib.hid hb
  clear hb
  by_cases hlt : at_ < bs.length
  · obtain ⟨k, rfl⟩ : ∃ k : Nat, at_ = k := ⟨at_.toNat, by omega⟩
    have hk : k < (bs.map bV).length := by simp; omega
    obtain ⟨ad, rfl, hc⟩ := hr.1.at_ hk
    have hne : ad.block ≠ g := by
      rcases hr.2 with h | ⟨ad', e, h⟩
      · rw [h] at hk; simp at hk
      · cases e; omega
    have hc' : w.cell? (ad.add k) = some (.int .u8 (bs[k]'(by omega)).toNat) := by rw [hc]; simp [bV]
    have hu : ((bs[k]'(by omega)).toNat : Int) ≤ 255 := by have := (bs[k]'(by omega)).toNat_lt; omega
    have hu0 : (0 : Int) ≤ ((bs[k]'(by omega)).toNat : Int) := by omega
    clear hc
    generalize ((bs[k]'(by omega)).toNat : Int) = u at *
    have hn1 : (ad.add k).block ≠ g := by rw [addr_block]; exact hne
    have hc1 : (w.setCell ⟨g, 1, none⟩ (.int .i64 ((k : Int) + 1))).cell? (ad.add k) = some (.int .u8 u) := by
      rw [World.cell?_setCell_other _ _ _ _ (fun e => hn1 (by rw [← e]))]; exact hc'
    have HR := Lib.hid hr
    clear hr
    go_enter Try.func145, Try.ntmps145
    go_wp2
    go_quiet (fail)
    go_wp2
    generalize hW : World.drewN _ _ = W
    have d0 : W.cell? ⟨g, 0, none⟩ = some (.slice (some ad) bs.length c) := by rw [← hW]; simpa [go_sem] using c0
    have d1 : W.cell? ⟨g, 1, none⟩ = some (.int .i64 ((k : Int) + 1)) := by rw [← hW]; simp [go_sem, c1]
    have d2 : W.cell? ⟨g, 2, none⟩ = some (.int .i64 seed) := by rw [← hW]; simpa [go_sem] using c2
    have d3 : W.cell? (ad.add k) = some (.int .u8 u) := by rw [← hW]; exact hc1
    have d4 : W.frozen? ⟨g, 2, none⟩ = false := by rw [← hW]; simpa [go_sem] using f2
    have d5 : ∀ x, (W.setCell ⟨g, 2, none⟩ x).cell? (ad.add k) = some (.int .u8 u) := fun x => by rw [World.cell?_setCell_other _ _ _ _ (fun e => hn1 (by rw [← e]))]; exact d3
    have HW := Lib.hid hW
    clear hW
    (refine wp_region_still_tail 23 (by kernel_rfl) (by kernel_rfl) ?_; simp only [List.take_succ_cons, List.take_zero, List.drop_succ_cons, List.drop_zero]; (repeat (refine wpStill_step (fun K hK => ?_); go_simp; refine hK _ ?_; clear hK K; try simp (disch := omega) only [IntWalk.i64_in, IntWalk.u8_in, Int.add_sub_cancel, Int.tmod_eq_emod_of_nonneg, Int.tdiv_eq_ediv_of_nonneg])); refine wpStill_nil ?_; change wpList _ _ _ _ _ (World.drew _))
    go_wp2
    (refine wp_region_quiet_lit (by kernel_rfl) (by kernel_rfl) ?_; (repeat (refine wpQuiet_step (fun K hK => ?_); go_simp; refine hK _ ?_; clear hK K; try simp (disch := omega) only [IntWalk.i64_in, IntWalk.u8_in, Int.add_sub_cancel, Int.tmod_eq_emod_of_nonneg, Int.tdiv_eq_ediv_of_nonneg])); refine wpQuiet_nil ?_; intro _ hw'; obtain ⟨nq, hw''⟩ := hw'; subst hw'')
    go_wp2
    go_ret
    exact ⟨_, rfl, ⟨u, rfl, hu0, hu⟩, Src.store1 Hb.out HR.out hl HW.out ((seed * 31 + u + 7) % 2147483648) _ (by omega) (by omega) (by omega) (by omega) ⟨1 + nq, by rw [← World.drewN_drewN]; rfl⟩⟩
  · have HR := Lib.hid hr
    clear hr
    go_enter Try.func145, Try.ntmps145
    go_wp2
    go_quiet (fail)
    go_wp2
    · go_ret
      exact ⟨_, rfl, ⟨0, rfl, by omega, by omega⟩, Src.store0 Hb.out HR.out hl (at_ + 1) _ (by omega) (by omega) h2 h3 ⟨_, rfl⟩⟩
    · go_ret
      exact ⟨_, rfl, ⟨_, rfl, by omega, by omega⟩, Src.store1 Hb.out HR.out hl (a' := at_ + 1) rfl ((seed * 1103515245 + 12345) % 2147483648) _ (by omega) (by omega) (by omega) (by omega) ⟨0, rfl⟩⟩
theorem grown_trans {w w1 w2 : World} {row : Option Nat} (h : w.grownBy w1 row) (k : w1.grownBy w2 row) : w.grownBy w2 row :=
  ⟨k.os.trans h.os, k.tape.trans h.tape, k.output.trans h.output, Nat.le_trans h.size k.size, fun i hi hn => (k.block i (Nat.lt_of_lt_of_le hi h.size) hn).trans (h.block i hi hn)⟩

/-- next(n): a number from 0 to n - 1, 0 where n is 1 at most. -/
def InN (n : Int) (v : Value) : Prop := ∃ m : Int, v = .int .i64 m ∧ 0 ≤ m ∧ (m < n ∨ m = 0)

set_option maxHeartbeats 1000000 in
theorem next_ok (g : Nat) (N n : Int) (w : World) (hs : Src w g N) (hN : N ≤ 100000000) (hn : n ≤ 16777216) :
    Calls Try.prog 109 #[.pointer (some ⟨g, 0, none⟩), .int .i64 n] w (SrcRet w g (N + 3) (InN n)) := by
  by_cases h1 : n ≤ 1
  · go_enter Try.func109, Try.ntmps109
    go_wp2
    go_ret
    exact ⟨_, rfl, ⟨0, rfl, by omega, by omega⟩, hs.more (by omega), World.grownBy.refl w _⟩
  · by_cases h2 : n ≤ 256
    · go_enter Try.func109, Try.ntmps109
      go_wp2_with (go_at_call 145; refine (byte_ok g N _ hs (by omega)).mono ?_; rintro e w1 ⟨v, rfl, ⟨x, rfl, hx0, hx1⟩, hs1, hg1⟩)
      go_ret
      exact ⟨_, rfl, ⟨_, rfl, Int.emod_nonneg _ (by omega), .inl (Int.emod_lt_of_pos _ (by omega))⟩, hs1.more (by omega), hg1⟩
    · go_enter Try.func109, Try.ntmps109
      go_wp2_with fail
      refine (byte_ok g N _ hs (by omega)).mono ?_
      rintro e w1 ⟨v, rfl, ⟨x, rfl, hx0, hx1⟩, hs1, hg1⟩
      go_wp2_with fail
      refine (byte_ok g _ _ hs1 (by omega)).mono ?_
      rintro e w2 ⟨v, rfl, ⟨y, rfl, hy0, hy1⟩, hs2, hg2⟩
      go_wp2_with fail
      refine (byte_ok g _ _ hs2 (by omega)).mono ?_
      rintro e w3 ⟨v, rfl, ⟨z, rfl, hz0, hz1⟩, hs3, hg3⟩
      go_wp2
      go_ret
      exact ⟨_, rfl, ⟨_, rfl, Int.emod_nonneg _ (by omega), .inl (Int.emod_lt_of_pos _ (by omega))⟩, hs3.more (by omega), grown_trans (grown_trans hg1 hg2) hg3⟩
end Go.Proofs.Ytdenjmdngmmodaa
namespace Go.Proofs.Ytdenjmdngmmodaa
open Go.RowKit
set_option linter.unusedVariables false
set_option linter.unusedSimpArgs false


theorem src_alloc {w : World} {g : Nat} {N : Int} (h : Src w g N) (o : Obj) : Src (w.alloc o) g N := h.below ((Below.refl _ _).alloc (Nat.le_refl _) o) h.lt
theorem src_drew {w : World} {g : Nat} {N : Int} (h : Src w g N) : Src w.drew g N := h.below ((Below.refl _ _).drew) h.lt

set_option maxHeartbeats 1000000 in
theorem chance_ok (g : Nat) (N n : Int) (w : World) (hs : Src w g N) (hN : N ≤ 100000000) (hn : n ≤ 16777216) (hn0 : 0 ≤ n) :
    Calls Try.prog 124 #[.pointer (some ⟨g, 0, none⟩), .int .i64 n] w (SrcRet w g (N + 3) fun v => ∃ b, v = .bool b) := by
  go_enter Try.func124, Try.ntmps124
  go_wp2_with (go_at_call 109; refine (next_ok g N n _ hs hN hn).mono ?_; rintro e w1 ⟨v, rfl, ⟨x, rfl, hx⟩, hs1, hg1⟩)
  go_ret
  exact ⟨_, rfl, ⟨_, rfl⟩, hs1, hg1⟩

/-- One of the drawn macs. -/
def MacS (s : ByteArray) : Prop := ∃ k : Nat, 1 ≤ k ∧ k ≤ 3 ∧ s = bstr [2, 0, 0, 0, 0, UInt8.ofNat k]
def MacV (v : Value) : Prop := ∃ s, MacS s ∧ v = .string s
set_option maxHeartbeats 1000000 in
theorem mac_ok (g : Nat) (N : Int) (w : World) (hs : Src w g N) (hN : N ≤ 100000000) :
    Calls Try.prog 74 #[.pointer (some ⟨g, 0, none⟩)] w (SrcRet w g (N + 3) MacV) := by
  go_enter Try.func74, Try.ntmps74
  go_wp2_with fail
  refine (next_ok g N 3 _ hs hN (by omega)).mono ?_
  rintro e w1 ⟨v, rfl, ⟨x, rfl, hx0, hx1⟩, hs1, hg1⟩
  have hx2 : x ≤ 2 := by omega
  clear hx1
  set_option maxRecDepth 3000 in
  go_wp2
  rw [run_conv_nums _ 22 9 5 Try.underlying22 Try.underlying5 Try.underlying9 _ 1 _ [1 + x] rfl (by have := Rd.block (heap_alloc_new w1 (.cells #[Value.int .u8 (1 + x)] 5)) 0; simpa using this)]
  go_wp2
  go_ret
  exact ⟨_, rfl, ⟨_, ⟨(1 + x).toNat, by omega, by omega, bstr_append [2, 0, 0, 0, 0] [UInt8.ofNat (1 + x).toNat]⟩, rfl⟩, src_alloc hs1 _, World.grownBy.trans hg1 (World.grownBy_alloc _ _ _)⟩

set_option maxHeartbeats 1000000 in
theorem lan_ok (g : Nat) (N : Int) (w : World) (hs : Src w g N) (hN : N ≤ 100000000) :
    Calls Try.prog 75 #[.pointer (some ⟨g, 0, none⟩)] w (SrcRet w g (N + 3) fun v => ∃ n : Int, v = .int .i64 n ∧ 167772162 ≤ n ∧ n ≤ 167772164) := by
  go_enter Try.func75, Try.ntmps75
  go_wp2_with fail
  refine (next_ok g N 3 _ hs hN (by omega)).mono ?_
  rintro e w1 ⟨v, rfl, ⟨x, rfl, hx0, hx1⟩, hs1, hg1⟩
  have hx2 : x ≤ 2 := by omega
  clear hx1
  go_wp2
  go_ret
  exact ⟨_, rfl, ⟨_, rfl, by omega, by omega⟩, hs1, hg1⟩

/-- An element of a new row, drawn. -/
theorem row_cell {w w1 : World} {cs : Array Value} {E : TypeId} {g : Nat} (hg : (w.alloc (.cells cs E)).grownBy w1 (some g)) (hne : g < w.heap.size) (k : Nat) (h : k < cs.size) : w1.cell? ⟨w.heap.size, k, none⟩ = some cs[k] := by
  have h1 := hg.block w.heap.size (by simp) (by simp; omega)
  rw [heap_alloc_new] at h1
  rw [cell_of_row w1 _ k cs E (0, 0) h1]
  simp [h]

set_option maxHeartbeats 1000000 in
theorem wan_ok (g : Nat) (N : Int) (w : World) (hs : Src w g N) (hN : N ≤ 100000000) :
    Calls Try.prog 76 #[.pointer (some ⟨g, 0, none⟩)] w (SrcRet w g (N + 3) fun v => ∃ n : Int, v = .int .i64 n ∧ n ∈ [16843009, 84215045, 84215303, 151587081]) := by
  have hlt := hs.lt
  go_enter Try.func76, Try.ntmps76
  go_wp2_with fail
  refine (next_ok g N 4 _ (src_alloc hs _) hN (by omega)).mono ?_
  rintro e w1 ⟨v, rfl, ⟨x, rfl, hx0, hx1⟩, hs1, hg1⟩
  obtain ⟨k, rfl⟩ := Int.eq_ofNat_of_zero_le hx0
  have hk : k < 4 := by omega
  have hc := row_cell hg1 hlt k hk
  have hk1 : (k : Int) < 4 := by omega
  clear hx1
  go_wp2
  go_ret
  refine ⟨_, rfl, ?_, hs1, World.grownBy.trans (World.grownBy_alloc _ _ _) hg1⟩
  have : k = 0 ∨ k = 1 ∨ k = 2 ∨ k = 3 := by omega
  rcases this with rfl | rfl | rfl | rfl <;> exact ⟨_, rfl, by simp⟩

set_option maxHeartbeats 1000000 in
theorem pick_ok (g : Nat) (N : Int) (w : World) (hs : Src w g N) (hN : N ≤ 100000000) (A : Option Addr) (c : Nat) (ss : List ByteArray) (hss : ss ≠ []) (hl : ss.length ≤ 1000) (hA : ∀ ad, A = some ad → ad.block ≠ g) (hr : Rd w A (ss.map Value.string)) :
    Calls Try.prog 110 #[.pointer (some ⟨g, 0, none⟩), .slice A ss.length c] w (SrcRet w g (N + 3) fun v => ∃ s ∈ ss, v = .string s) := by
  have hpos : 0 < ss.length := List.length_pos_iff.2 hss
  have hd : ((ss.length : Int) == 0) = false := by simp; omega
  have Hs := Lib.hid hss
  clear hss
  go_enter Try.func110, Try.ntmps110
  go_wp2_with fail
  refine (next_ok g N ss.length _ hs hN (by omega)).mono ?_
  rintro e w1 ⟨v, rfl, ⟨x, rfl, hx0, hx1⟩, hs1, hg1⟩
  obtain ⟨k, rfl⟩ := Int.eq_ofNat_of_zero_le hx0
  have hk : k < ss.length := by omega
  obtain ⟨ad, rfl, hc⟩ := (hr.grown hg1 (fun ad e h => hA ad e (by injection h with h; exact h.symm))).at_ (k := k) (by simpa using hk)
  have hc' : w1.cell? (ad.add k) = some (.string ss[k]) := by rw [hc]; simp
  have hk1 : (k : Int) < ss.length := by omega
  clear hx1 hc
  go_wp2
  go_ret
  exact ⟨_, rfl, ⟨_, List.getElem_mem hk, rfl⟩, hs1, hg1⟩
end Go.Proofs.Ytdenjmdngmmodaa
namespace Go.Proofs.Ytdenjmdngmmodaa
open Go.RowKit
set_option linter.unusedVariables false
set_option linter.unusedSimpArgs false
set_option maxRecDepth 20000
set_option maxHeartbeats 1000000

section
variable {P : Program} {ops : Array Oper} {J : Nat → World → Prop} {Le : World → World → Prop} {φ : Nat → Option Spec} {B : List Nat} {m : Nat}
def marks (l : List Oper) (n0 : Nat) : Array Bool := Array.replicate n0 true ++ Array.replicate (l.length - n0) false
/-- All that stands from n0 on waits for all that stands ahead of it. -/
def tailAll (l : List Oper) (B : List Nat) (n0 : Nat) : Bool :=
  decide (n0 ≤ l.length) && ((List.range l.length).all fun t => decide (t < n0) || (List.range n0).all fun j => ancB B t j)
theorem lex_soundF {l : List Oper} {n0 : Nat} {Q : Exit → Act → World → Prop} {fin : Act → Facts → Prop} (hok : OkAt l B) (htl : tailAll l B n0 = true) (hfin : ∀ (F : Facts) (a : Act) (w : World), J 0 w → factsAt φ F (fun _ => true) w → fin a F → wpAny P .any l.toArray Q (l.length - n0) (marks l n0) a w) (hst : ∀ j sp x v w w', φ j = some sp → Le w w' → sp x v w → sp x v w') (hm : ∀ m w, J (m + 1) w → J m w) :
    ∀ (fuel : Nat) (listed : Array Bool) (F : Facts) (a : Act) (w : World), fuel = (rem (l.take n0) listed).length + (l.length - n0) → listed.size = l.length → (∀ (i : Nat) (o : Oper), l[i]? = some o → listed.getD i true = true → ∀ j, ancB B i j = true → listed.getD j true = true) →
      (∀ t, n0 ≤ t → t < l.length → listed.getD t true = false) →
      (∀ j, j < l.length → listed.getD j true = false → F j = none) → J (rem (l.take n0) listed).length w → factsAt φ F (fun _ => true) w →
      lexR P l.toArray J Le φ B (rem (l.take n0) listed) fin F a → wpAny P .any l.toArray Q fuel listed a w := by
  simp only [tailAll, Bool.and_eq_true, decide_eq_true_eq, List.all_eq_true, List.mem_range, Bool.or_eq_true] at htl
  obtain ⟨hn0, htail⟩ := htl
  have done : ∀ (listed : Array Bool) (F : Facts) (a : Act) (w : World), listed.size = l.length → (∀ t, n0 ≤ t → t < l.length → listed.getD t true = false) → rem (l.take n0) listed = [] → J 0 w → factsAt φ F (fun _ => true) w →
      lexR P l.toArray J Le φ B [] fin F a → wpAny P .any l.toArray Q (l.length - n0) listed a w := by
    intro listed F a w hl ht hnil hJ hf h
    have he : listed = Array.replicate n0 true ++ Array.replicate (l.length - n0) false := by
      apply Array.ext
      · simp [hl]; omega
      · intro i h1 h2
        have hi : i < l.length := by omega
        by_cases hin : i < n0
        · have : listed.getD i true = true := by
            cases hc : listed.getD i true with
            | true => rfl
            | false =>
              have hx : (i, l[i]) ∈ rem (l.take n0) listed := List.mem_filter.2 ⟨mem_take.2 ⟨List.getElem?_eq_getElem hi, hin⟩, by simp [hc]⟩
              rw [hnil] at hx
              cases hx
          simp [h1] at this
          simp [Array.getElem_append, hin, this]
        · have := ht i (by omega) hi
          simp [h1] at this
          simp [Array.getElem_append, hin, this]
    rw [he]
    exact hfin F a w hJ hf h
  intro fuel
  induction fuel with
  | zero =>
    intro listed F a w hfu hl hcl ht hF hJ hf h
    have hnil : rem (l.take n0) listed = [] := List.eq_nil_of_length_eq_zero (by omega)
    rw [hnil] at h hJ
    have := done listed F a w hl ht hnil hJ hf h
    rwa [show l.length - n0 = 0 by omega] at this
  | succ fuel ih =>
    intro listed F a w hfu hl hcl ht hF hJ hf h
    by_cases hnil : rem (l.take n0) listed = []
    · rw [hnil] at h hJ
      have := done listed F a w hl ht hnil hJ hf h
      rwa [show l.length - n0 = fuel + 1 by rw [hnil] at hfu; simp at hfu; omega] at this
    refine ⟨fun hr => ?_, fun j hj => ?_⟩
    · exfalso
      obtain ⟨x, hx⟩ := List.exists_mem_of_ne_nil _ hnil
      have hall : ∀ i, i < l.length → listed.getD i true = true := by
        intro i
        induction i using Nat.strongRecOn with
        | _ i ih =>
          intro hi
          cases hc : listed.getD i true with
          | true => rfl
          | false =>
            exfalso
            have : i ∈ Region.ready .any l.toArray listed := mem_ready.2 ⟨hc, l[i], by simp [hi], fun e he hb => by
              have hlt := hok.dep i l[i] (List.getElem?_eq_getElem hi) e he hb
              have := ih e.on hlt (by omega)
              have h2 : e.on < listed.size := by omega
              simpa [h2] using this⟩
            rw [hr] at this
            cases this
      obtain ⟨hx1, hx2⟩ := List.mem_filter.1 hx
      rw [hall x.1 (List.getElem?_eq_some_iff.1 (mem_take.1 hx1).1).1] at hx2
      simp at hx2
    · obtain ⟨hjl, oj, hoj, hdeps⟩ := mem_ready.1 hj
      have hoj' : l[j]? = some oj := by simpa using hoj
      have hjlt : j < l.length := (List.getElem?_eq_some_iff.1 hoj').1
      have hanc : ∀ i, ancB B j i = true → listed.getD i true = true := by
        intro i hi
        have hij := hok.lt j oj hoj' i hi
        obtain ⟨e, he, hb, h2⟩ := hok.close j oj hoj' i hij hi
        have h3 := hdeps e he hb
        have hej := hok.dep j oj hoj' e he hb
        have h4 : listed.getD e.on true = true := by
          have : e.on < listed.size := by omega
          simpa [this] using h3
        rcases h2 with rfl | h2
        · exact h4
        · exact hcl e.on l[e.on] (List.getElem?_eq_getElem (by omega)) h4 i h2
      have hjn : j < n0 := by
        rcases Nat.lt_or_ge j n0 with h1 | h1
        · exact h1
        · exfalso
          obtain ⟨x, hx⟩ := List.exists_mem_of_ne_nil _ hnil
          obtain ⟨hx1, hx2⟩ := List.mem_filter.1 hx
          have h2 := (htail j hjlt).resolve_left (by omega) x.1 (mem_take.1 hx1).2
          rw [hanc x.1 h2] at hx2
          simp at hx2
      have hmem : (j, oj) ∈ rem (l.take n0) listed := List.mem_filter.2 ⟨mem_take.2 ⟨hoj', hjn⟩, by rw [hjl]; rfl⟩
      obtain ⟨l1, l2, hsp⟩ := List.append_of_mem hmem
      have hs : (l1 ++ (j, oj) :: l2).Pairwise fun x y => x.1 < y.1 := by rw [← hsp]; exact (pairs_sorted _).filter _
      have hlt1 : ∀ x ∈ l1, x.1 < j := fun x hx => (List.pairwise_append.1 hs).2.2 x hx (j, oj) List.mem_cons_self
      have hah : ∀ x ∈ l1, x.1 ≠ j ∧ ancB B j x.1 = false ∧ ancB B x.1 j = false ∧ x.2.apart l.toArray oj = true ∧ (∀ cs b, x.2.op ≠ .select cs b) := by
        intro x hx
        have hxr : x ∈ rem (l.take n0) listed := by rw [hsp]; exact List.mem_append_left _ hx
        obtain ⟨hx1, hx2⟩ := List.mem_filter.1 hxr
        have hx3 := (mem_take.1 hx1).1
        have hx4 : listed.getD x.1 true = false := by simpa using hx2
        have a1 : ancB B j x.1 = false := by
          cases hc : ancB B j x.1 with
          | false => rfl
          | true => have := hanc _ hc; rw [hx4] at this; cases this
        have a2 : ancB B x.1 j = false := by
          cases hc : ancB B x.1 j with
          | false => rfl
          | true => have := hok.lt _ _ hx3 _ hc; have := hlt1 x hx; omega
        exact ⟨by have := hlt1 x hx; omega, a1, a2, hok.apart j oj hoj' x.1 x.2 (hlt1 x hx) hx3 a1, hok.sel _ _ hx3⟩
      have hsj := hok.sel j oj hoj'
      have hlen : (rem (l.take n0) listed).length = l1.length + l2.length + 1 := by rw [hsp]; simp; omega
      rw [hsp] at h
      rw [hlen] at hJ hfu
      have hFj : F j = none := hF j hjlt hjl
      have hset := rem_set (by rw [hl, List.length_take]; omega) hsp
      have ht' : ∀ t, n0 ≤ t → t < l.length → (listed.setIfInBounds j true).getD t true = false := fun t h1 h2 => by rw [getD_set_ne true (by omega)]; exact ht t h1 h2
      have hcl' : ∀ i o, l[i]? = some o → (listed.setIfInBounds j true).getD i true = true → ∀ k, ancB B i k = true → (listed.setIfInBounds j true).getD k true = true := by
        intro i o ho hi k hk
        by_cases hkj : k = j
        · subst hkj; simp [hl, hjlt]
        · rw [getD_set_ne true (Ne.symm hkj)]
          by_cases hij : i = j
          · subst hij; exact hanc k hk
          · rw [getD_set_ne true (Ne.symm hij)] at hi
            exact hcl i o ho hi k hk
      have hF' : ∀ x, ∀ k, k < l.length → (listed.setIfInBounds j true).getD k true = false → upd F j x k = none ∧ F k = none := by
        intro x k hkl hk
        have hkj : k ≠ j := fun e => by subst e; simp [hl, hjlt] at hk
        rw [getD_set_ne true (Ne.symm hkj)] at hk
        exact ⟨by simp [upd, hkj, hF k hkl hk], hF k hkl hk⟩
      unfold wpOp
      simp only [hoj]
      by_cases hw : Region.wanted oj (yielded l.toArray a.tmps) = true
      · simp only [hw, if_true]
        have hA := asks_of_lex hst hm hsj l1 F a (fun x hx => ⟨(hah x hx).1, (hah x hx).2.1, (hah x hx).2.2.2.1⟩) ⟨l2.length + 1, w, by rw [show l2.length + 1 + l1.length = l1.length + l2.length + 1 by omega]; exact hJ, hf⟩ hw h
        unfold Asks at hA
        cases hφ : φ j with
        | none =>
          simp only [hφ] at hA
          obtain ⟨v, hv⟩ := hA
          have hrun := hv _ w hJ (facts_mono hf fun _ _ => rfl)
          refine .inl ?_
          unfold Oper.wp
          rw [hrun]
          have h2 := lex_without (vj := v) (xj := argsOf a oj) hsj true l1 F a hah (fun x hx => (hah x hx).1) hFj hw rfl (fun _ _ => hv) (fun e => by cases e) (by simp only [hφ]; exact ⟨_, w, hJ, hf⟩) h
          simp only [hφ, Option.isSome_none, Bool.false_eq_true, and_false, if_false] at h2
          exact ih _ F _ w (by rw [hset, List.length_append]; omega) (by simpa using hl) hcl' ht' (fun k h1 hk => (hF' (#[], undef) k h1 hk).2) (by rw [hset, List.length_append]; exact hm _ _ hJ) hf (by rw [hset]; exact h2)
        | some sp =>
          simp only [hφ] at hA
          have hg := hA (l1.length + l2.length) w hJ (facts_mono hf fun _ _ => rfl)
          refine .inl (gives_wp hg fun v w' ⟨h1, h2, h3⟩ => ?_)
          have hfa := facts_all_upd hφ hst h2 h3 hf
          have h4 := lex_without (vj := v) (xj := argsOf a oj) hsj true l1 F a hah (fun x hx => (hah x hx).1) hFj hw rfl (fun _ e => by rw [hφ] at e; cases e) (fun e => by cases e) (by simp only [hφ]; exact ⟨_, w', h1, hfa⟩) h
          simp only [hφ, Option.isSome_some, and_self, if_true] at h4
          exact ih _ _ _ w' (by rw [hset, List.length_append]; omega) (by simpa using hl) hcl' ht' (fun k h1 hk => (hF' _ k h1 hk).1) (by rw [hset, List.length_append]; exact h1) hfa (by rw [hset]; exact h4)
      · simp only [hw, Bool.false_eq_true, if_false]
        have h2 := lex_without (vj := undef) (xj := argsOf a oj) hsj false l1 F a hah (fun x hx => (hah x hx).1) hFj (by simpa using hw) rfl (fun e => by cases e) (fun _ => rfl) (by simp only [Bool.false_eq_true, false_and, if_false]; exact ⟨_, w, hJ, hf⟩) h
        simp only [Bool.false_eq_true, false_and, if_false] at h2
        exact ih _ F _ w (by rw [hset, List.length_append]; omega) (by simpa using hl) hcl' ht' (fun k h1 hk => (hF' (#[], undef) k h1 hk).2) (by rw [hset, List.length_append]; exact hm _ _ hJ) hf (by rw [hset]; exact h2)

def tail2 (P : Program) (l : List Oper) (n0 : Nat) (Q : Exit → Act → World → Prop) (a : Act) (w : World) : Prop := wpAny P .any l.toArray Q (l.length - n0) (marks l n0) a w
def lexOk2 (l : List Oper) (n0 : Nat) : Bool := lexOk l && (tailAll l (Region.before l.toArray).toList n0 && tailOk l (Region.before l.toArray).toList l.length)
/-- A region of open order, the first n0 operations of it; what is left goes by lex2_tail. -/
theorem wp_region_lex2 {id : Nat} {Q : Exit → Act → World → Prop} {a : Act} {w : World} {l : List Oper} (n0 : Nat) (hmx : P.follows .mixedOrders = true) (hB : lexOk2 l n0 = true)
    (J : Nat → World → Prop) (Le : World → World → Prop) (φ : Nat → Option Spec) (hst : ∀ j sp x v w w', φ j = some sp → Le w w' → sp x v w → sp x v w') (hm : ∀ m w, J (m + 1) w → J m w) (h0 : J n0 w.drew)
    (h : lexR P l.toArray J Le φ (Region.before l.toArray).toList (pairs (l.take n0)) (fun a F => ∀ m w, J m w → factsAt φ F (fun _ => true) w → tail2 P l n0 Q a w) (fun _ => none) a) : (Code.region id l.toArray true).wp P Q a w := by
  unfold lexOk2 at hB
  rw [Bool.and_eq_true, Bool.and_eq_true] at hB
  refine wp_region_any hmx ?_
  have hn : n0 ≤ l.length := by
    have := hB.2.1
    simp only [tailAll, Bool.and_eq_true, decide_eq_true_eq] at this
    exact this.1
  have hr : rem (l.take n0) (Array.replicate l.length false) = pairs (l.take n0) := List.filter_eq_self.2 fun x hx => by
    have := (List.getElem?_eq_some_iff.1 (mem_take.1 hx).1).1
    simp [this]
  have hp : (pairs (l.take n0)).length = n0 := by simp [pairs]; omega
  have := lex_soundF (Q := Q) (n0 := n0) (fin := fun a F => ∀ m w, J m w → factsAt φ F (fun _ => true) w → tail2 P l n0 Q a w) (OkAt.of hB.1) hB.2.1 (fun F a w hJ hf hfi => hfi 0 w hJ hf) hst hm l.length (Array.replicate l.length false) (fun _ => none) a w.drew (by rw [hr, hp]; omega) (by simp) (fun i o ho hi => by
      have := (List.getElem?_eq_some_iff.1 ho).1
      simp [this] at hi) (fun t _ h2 => by simp [h2]) (fun _ _ _ => rfl) (by rw [hr, hp]; exact h0) (fun _ _ _ _ _ hF => by cases hF) (by rw [hr]; exact h)
  simpa using this
theorem marks_getD (l : List Oper) (n0 : Nat) (hn : n0 ≤ l.length) (i : Nat) (hi : i < l.length) : (marks l n0).getD i true = decide (i < n0) := by
  have hs : i < (marks l n0).size := by simp [marks]; omega
  rw [Array.getD_eq_getD_getElem?, Array.getElem?_eq_getElem hs]
  by_cases h : i < n0
  · simp [marks, Array.getElem_append, h]
  · simp [marks, Array.getElem_append, h]
theorem pairs_drop (l : List Oper) (n0 : Nat) (hn : n0 ≤ l.length) : rem l (marks l n0) = (pairs l).drop n0 := by
  unfold rem
  have hp : pairs l = (pairs l).take n0 ++ (pairs l).drop n0 := (List.take_append_drop _ _).symm
  have hs := pairs_sorted l
  have hlen : (pairs l).length = l.length := by simp [pairs]
  have hget : ∀ k (h : k < (pairs l).length), ((pairs l)[k]).1 = k := fun k h => by simp [pairs]
  conv => lhs; rw [hp]
  rw [List.filter_append]
  have h1 : ((pairs l).take n0).filter (fun x => !(marks l n0).getD x.1 true) = [] := List.filter_eq_nil_iff.2 fun x hx => by
    obtain ⟨k, hk, rfl⟩ := List.getElem_of_mem hx
    rw [List.getElem_take, hget k (by simp at hk; omega), marks_getD l n0 hn k (by simp at hk; omega)]
    simp only [List.length_take] at hk
    have : k < n0 := by omega
    simp [this]
  have h2 : ((pairs l).drop n0).filter (fun x => !(marks l n0).getD x.1 true) = (pairs l).drop n0 := List.filter_eq_self.2 fun x hx => by
    obtain ⟨k, hk, rfl⟩ := List.getElem_of_mem hx
    rw [List.getElem_drop, hget (n0 + k) (by simp at hk; omega), marks_getD l n0 hn (n0 + k) (by simp at hk; omega)]
    simp
  rw [h1, h2, List.nil_append]
theorem lex2_tail {Q : Exit → Act → World → Prop} {a : Act} {w : World} {l : List Oper} {n0 : Nat} (hB : lexOk2 l n0 = true)
    (J : Nat → World → Prop) (Le : World → World → Prop) (φ : Nat → Option Spec) (hst : ∀ j sp x v w w', φ j = some sp → Le w w' → sp x v w → sp x v w') (hm : ∀ m w, J (m + 1) w → J m w) (h0 : J (l.length - n0) w)
    (h : lexR P l.toArray J Le φ (Region.before l.toArray).toList ((pairs l).drop n0) (fun a F => ∀ m w, J m w → factsAt φ F (fun _ => true) w → wpList P l.toArray Q [] a w) (fun _ => none) a) : tail2 P l n0 Q a w := by
  unfold lexOk2 at hB
  rw [Bool.and_eq_true, Bool.and_eq_true] at hB
  have hok := OkAt.of hB.1
  have hn : n0 ≤ l.length := by
    have := hB.2.1
    simp only [tailAll, Bool.and_eq_true, decide_eq_true_eq] at this
    exact this.1
  have hr : rem (l.take l.length) (marks l n0) = (pairs l).drop n0 := by rw [List.take_length, pairs_drop l n0 hn]
  have hp : ((pairs l).drop n0).length = l.length - n0 := by simp [pairs]
  have := lex_sound (Q := Q) (n0 := l.length) hok hB.2.2 hst hm (l.length - n0) (marks l n0) (fun _ => none) a w (by rw [hr, hp]; omega) (by simp [marks]; omega) (fun i o ho hi j hj => by
      have hil := (List.getElem?_eq_some_iff.1 ho).1
      have hji := hok.lt i o ho j hj
      rw [marks_getD l n0 hn i hil] at hi
      rw [marks_getD l n0 hn j (by omega)]
      simp at hi ⊢
      omega) (fun t h1 h2 => by omega) (fun _ _ _ => rfl) (by rw [hr, hp]; exact h0) (fun _ _ _ _ _ hF => by cases hF) (by rw [hr, List.drop_length]; exact h)
  exact this
/-- A region that stores over an earlier world's block: a row stored twice is the row stored once. -/
theorem setRow_twice (w : World) (b : Nat) (cs : Array Value) : (w.setRow b cs).setRow b cs = w.setRow b cs := by
  simp only [World.setRow]
  congr 1
  apply Array.ext
  · simp
  · intro i h1 h2
    by_cases h : b = i
    · subst h
      have hb : b < w.heap.size := by simpa using h2
      obtain ⟨o, ho⟩ : ∃ o, w.heap[b] = o := ⟨_, rfl⟩
      simp only [Array.getElem_modify, if_true, ho]
      cases o <;> rfl
    · simp [Array.getElem_modify, h]
/-- What is left only reads its frame, but for one row that is stored (operation i) into block b. -/
def rowJ (w W : World) (_ : Nat) (x : World) : Prop := x = w ∨ x = W
def rowLe (W : World) (x y : World) : Prop := x = W → y = W
def rowφ (i : Nat) (W : World) (k : Nat) : Option Spec := if k = i then some (fun _ _ x => x = W) else none
theorem rowφ_st {i : Nat} {W : World} : ∀ j sp x v w w', rowφ i W j = some sp → rowLe W w w' → sp x v w → sp x v w' := by
  intro j sp x v w w' hj hL h
  unfold rowφ at hj
  split at hj
  · cases hj; exact hL h
  · cases hj
theorem rowJ_mono {w W : World} (m : Nat) (x : World) (h : rowJ w W (m + 1) x) : rowJ w W m x := h
theorem lexRow_store {i : Nat} {o : Oper} {r : List (Nat × Oper)} {fin : Act → Facts → Prop} {F : Facts} {a : Act} {x y : Operand} {b : Nat} {T : TypeId} {E : TypeId} {cur cs : Array Value} {w : World} (hg : o.guard = none)
    (ho : o.op = .store T x y) (hx : a.eval x = .pointer (some ⟨b, 0, none⟩)) (hy : a.eval y = .agg cs) (hd : o.dst = none) (hb : w.heap[b]? = some (.cells cur E (0, 0))) (hs : cur.size = cs.size) (hi : (P.info? T).map (·.size) = some cs.size) (h1 : cs.toList.all (·.oneCell') = true)
    (h2 : ∀ y v, lexR P ops (rowJ w (w.setRow b cs)) (rowLe (w.setRow b cs)) (rowφ i (w.setRow b cs)) B r fin (upd F i (y, v)) a) : lexR P ops (rowJ w (w.setRow b cs)) (rowLe (w.setRow b cs)) (rowφ i (w.setRow b cs)) B ((i, o) :: r) fin F a := by
  refine lex_eff (sp := fun _ _ x => x = w.setRow b cs) hg (by simp [rowφ]) (fun m X hJ hf => ?_) (fun v hP => ?_)
  · rcases hJ with rfl | rfl
    · unfold gives execOp
      simp only [ho, Sem.run_bind, Sem.run_pure, Result.andThen_ok, hx, hy, run_store_row _ b T E cur cs hb hs hi h1]
      exact ⟨Or.inr rfl, fun _ => rfl, trivial⟩
    · unfold gives execOp
      simp only [ho, Sem.run_bind, Sem.run_pure, Result.andThen_ok, hx, hy, run_store_row _ b T E cs cs (setRow_heap _ _ _ _ _ _ hb) rfl hi h1]
      exact ⟨Or.inr (setRow_twice _ _ _), fun _ => setRow_twice _ _ _, setRow_twice _ _ _⟩
  · have e : a.put o.dst v = a := by rw [hd]; rfl
    rw [e]
    exact h2 _ v
end
end Go.Proofs.Ytdenjmdngmmodaa
namespace Go.Proofs.Ytdenjmdngmmodaa
open Go.ChangeShapes Go.WideShapes Go.ChangeAt Go.RowKit
set_option linter.unusedVariables false
set_option linter.unusedSimpArgs false
set_option maxRecDepth 20000

theorem laidOutAll : laidOutB Try.prog = true := by kernel_rfl
theorem ownAll : ownKnob Try.prog.godebug = none := by kernel_rfl
theorem cellsU8 : Try.prog.cellsOf 5 = 1 := by kernel_rfl

section
variable {H : Type} {enc : TypeId × Value → H}
/-- An argument of type []byte: its bytes are read. -/
theorem opened {W : World} {base : Nat} {v : Value} {d : DataW H} {p : List MemPlace} (hval : Value.okWide Try.prog W .any base 22 v) (h : DataW.Trod enc Try.prog W 0 (fun _ => true) true 22 v d p) :
    ∃ (A : Option Addr) (c : Nat) (bs : List UInt8), v = .slice A bs.length c ∧ bs.length ≤ c ∧ Rd W A (bs.map bV) := by
  obtain ⟨a0, len, cap, rfl⟩ := okWide_slice Try.underlying22 hval
  obtain ⟨fuel, hf⟩ := h
  rcases open_ints Try.underlying22 Try.underlying5 cellsU8 hf with ⟨hcs, hx⟩ | ⟨a, len', cap', zs, hcs, _, hl, hm, hz, hx, hcell, hwz⟩
  · simp [Value.cells] at hcs
    obtain ⟨rfl, rfl, rfl⟩ := hcs
    exact ⟨none, 0, [], rfl, Nat.le_refl _, Rd.nil⟩
  · simp [Value.cells] at hcs
    obtain ⟨rfl, rfl, rfl⟩ := hcs
    simp only [if_true] at hz
    have hlen : ((zs.take len).map fun n => UInt8.ofNat n.toNat).length = len := by simp; omega
    refine ⟨some a, cap, (zs.take len).map fun n => UInt8.ofNat n.toNat, by rw [hlen], by rw [hlen]; exact hl, fun j u hu => ⟨a, rfl, ?_⟩⟩
    obtain ⟨hj, hu⟩ := List.getElem?_eq_some_iff.1 hu
    simp only [List.length_map] at hj
    have hj2 : j < len := by simp at hj; omega
    have hj3 : j < zs.length := by omega
    have hw := hwz zs[j] (List.getElem_mem hj3)
    have hb : 0 ≤ zs[j] ∧ zs[j] ≤ 255 := by simpa [Lit.wf, IntKind.min, IntKind.max, IntKind.signed, IntKind.bits] using hw
    rw [hcell j hj3, ← hu]
    simp only [List.getElem_map, List.getElem_take, bV]
    have e : zs.getD j 0 = zs[j] := by simp [List.getD, List.getElem?_eq_getElem hj3]
    rw [e]
    congr 2
    simp only [UInt8.toNat_ofNat']
    omega
/-- The last step of a row: the call made new blocks alone, and answered true. -/
theorem post_new {P : Program} {f : Func} {s : ChangeSpec} {apart fresh handsOn again : Bool} {W W' : World} {args : Array Value} {v : Value} {ds gs : List (DataW H)} {before pa pv : List MemPlace}
    (hW : DataW.Whole enc P f.params.toList s.vars apart W args.toList ds gs before)
    (hres : ∀ (b : Nat) (sp : Nat → Bool) (hd : Bool), DataW.TrodAll enc P W' b sp hd f.resultTypes.toList (v.resultList f.resultTypes.size) (s.fn H (ds ++ gs)).results [])
    (hargs : ∀ sp : Nat → Bool, (∀ p ∈ before, sp p.block = true) → DataW.TrodAll enc P W' 0 sp true f.params.toList args.toList (s.fn H (ds ++ gs)).args pa)
    (hvars : ∀ sp : Nat → Bool, (∀ p ∈ before, sp p.block = true) → DataW.TrodVars enc P W' sp s.vars (s.fn H (ds ++ gs)).vars pv)
    (hps : before = pa ++ pv) (hb : Below W.heap.size W W')
    (hok : ∀ (j : Nat) (t : TypeId) (r : Value), f.resultTypes[j]? = some t → (v.resultList f.resultTypes.size)[j]? = some r → Value.okWide P W' .any 0 t r) :
    s.post enc P f apart fresh handsOn again W args v W' := by
  have hlt : ∀ p ∈ before, p.block < W.heap.size := fun p hp => hW.lt p hp
  have hold : ∀ p ∈ before, (fun b => decide (b < W.heap.size)) p.block = true := fun p hp => by simpa using hlt p hp
  refine ⟨ds, gs, before, [], pa, pv, hW, hres _ _ _, hargs _ hold, hvars _ hold, World.keptBut_mono (fun p hp => ⟨hp, ?_⟩) (hb.frame (· ∈ before)), fun _ => ?_⟩
  · rw [hps, List.mem_append] at hp
    exact Or.inr hp
  · obtain ⟨_, _, _, _, _, hz, hn⟩ := hW
    refine ⟨hok, _, _, ([] ++ pa) ++ pv, ⟨[] ++ pa, pv, trodAll_append (hargs _ (fun _ _ => rfl)) (hres _ _ _), hvars _ (fun _ _ => rfl), rfl, ?_, ?_⟩, ?_⟩
    · intro b off hp
      have hin : MemPlace.cell b off ∈ before := by rw [hps]; simpa using hp
      rw [hb.frozen (hlt _ hin)]
      exact hz b off hin
    · intro ha
      have := hn ha
      rw [hps] at this
      simpa using this
    · intro p hp _
      rw [hps]
      simpa using hp
theorem bytes_stay {W W' : World} {v : Value} {d : DataW H} {p : List MemPlace} {sp : Nat → Bool} (h : DataW.Trod enc Try.prog W 0 (fun _ => true) true 22 v d p) (hb : Below W.heap.size W W') (hlt : ∀ x ∈ p, x.block < W.heap.size) (hs : ∀ x ∈ p, sp x.block = true) :
    DataW.Trod enc Try.prog W' 0 sp true 22 v d p :=
  WideElems.Trod_stays (P := Try.prog) laidOutAll (by kernel_rfl) (of_decide_eq_true (by kernel_rfl)) h (fun x hx => hb.same (hlt x hx)) hs
end
end Go.Proofs.Ytdenjmdngmmodaa
